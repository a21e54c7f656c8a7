/-
  Plain words about lists and numbers that the texts share.
-/
import Derived.Test.YthholadaflfpcaaVal
namespace Go.Proofs.Ythholadaflfpcaa
open Go Go.Fw

/-! How much a thing holds. -/
def sumL {α : Type} (f : α → Nat) : List α → Nat
  | [] => 0
  | x :: xs => f x + sumL f xs
def totL {α : Type} (f : α → Nat) (l : List α) : Nat := l.length + sumL f l
def totWtS : List Wt → Nat := totL fun w => w.1.length
def totTb (t : Tb) : Nat := totWtS t.2
def totTbS : List Tb → Nat := totL totTb
def totGpS : List Gp → Nat := totL fun g => g.1.length
def totRowS : List (List Int) → Nat := totL List.length
def totDp (d : Dp) : Nat := d.1.length + d.2.length
def totDpS : List Dp → Nat := totL totDp
def totTbl (t : Int × List (List Int)) : Nat := totRowS t.2
/-- What is left of so much. -/
def szF (n : Nat) (left : Int) : Int := if (n : Int) ≤ left then left - n else -1
theorem sumL_drop {α : Type} (f : α → Nat) (d : α) {l : List α} {i : Nat} (h : i < l.length) : sumL f (l.drop i) = f (l.getD i d) + sumL f (l.drop (i + 1)) := by
  rw [drop_getD d h]; rfl
theorem sumL_end {α : Type} (f : α → Nat) {l : List α} {i : Nat} (h : l.length ≤ i) : sumL f (l.drop i) = 0 := by
  rw [List.drop_eq_nil_of_le h]; rfl
theorem sumL_mem {α : Type} (f : α → Nat) {l : List α} {x : α} (h : x ∈ l) : f x ≤ sumL f l := by
  induction l with
  | nil => cases h
  | cons y l ih =>
    rcases List.mem_cons.1 h with rfl | h
    · simp [sumL]
    · have := ih h; simp only [sumL]; omega
theorem szF_ge {n : Nat} {left : Int} (h : 0 ≤ szF n left) : (n : Int) ≤ left := by
  unfold szF at h; split at h <;> omega
theorem szF_two (a b : Nat) (left : Int) : szF (a + b) left = if szF a left < 0 then -1 else szF b (szF a left) := by
  unfold szF; (repeat' split) <;> omega

/-! What a law marks, and what it finds marked. -/
def fillI : List Int → Int → List Int
  | [], _ => []
  | _ :: xs, k => k :: fillI xs (k + 1)
def heldI : List Int → Int → Int
  | [], k => k
  | x :: xs, k => if x = k then heldI xs (k + 1) else -1
def fillL {α : Type} (f : α → Int → α) (n : α → Nat) : List α → Int → List α
  | [], _ => []
  | x :: xs, k => f x k :: fillL f n xs (k + n x)
def heldL {α : Type} (h : α → Int → Int) : List α → Int → Int
  | [], k => k
  | x :: xs, k => if h x k < 0 then -1 else heldL h xs (h x k)
theorem fillI_len : ∀ (l : List Int) (k : Int), (fillI l k).length = l.length
  | [], _ => rfl
  | x :: xs, k => by simp [fillI, fillI_len xs]
theorem fillI_getD : ∀ (l : List Int) (k : Int) (j : Nat), j < l.length → (fillI l k).getD j 0 = k + j
  | x :: xs, k, 0, _ => by simp [fillI]
  | x :: xs, k, j + 1, h => by
    have := fillI_getD xs (k + 1) j (by simpa using h)
    simp only [fillI, List.getD_cons_succ, this]; omega
theorem fillL_len {α : Type} (f : α → Int → α) (n : α → Nat) : ∀ (l : List α) (k : Int), (fillL f n l k).length = l.length
  | [], _ => rfl
  | x :: xs, k => by simp [fillL, fillL_len f n xs]
theorem heldI_fill : ∀ (l : List Int) (k : Int), heldI (fillI l k) k = k + l.length
  | [], k => by simp [fillI, heldI]
  | x :: xs, k => by simp only [fillI, heldI, if_true, heldI_fill xs, List.length_cons]; omega
theorem heldL_fill {α : Type} {f : α → Int → α} {n : α → Nat} {h : α → Int → Int} (hh : ∀ x k, 0 ≤ k → h (f x k) k = k + n x) : ∀ (l : List α) (k : Int), 0 ≤ k → heldL h (fillL f n l k) k = k + sumL n l
  | [], k, _ => by simp [fillL, heldL, sumL]
  | x :: xs, k, hk => by
    have e := hh x k hk
    simp only [fillL, heldL, e, sumL]
    rw [if_neg (by omega), heldL_fill hh xs _ (by omega)]
    omega
theorem heldI_neg (l : List Int) (k : Int) : 0 ≤ k → heldI l k = -1 ∨ heldI l k = k + l.length := by
  induction l generalizing k with
  | nil => intro _; simp [heldI]
  | cons x xs ih =>
    intro hk
    simp only [heldI, List.length_cons]
    split
    · rcases ih (k + 1) (by omega) with h | h
      · exact .inl h
      · right; omega
    · exact .inl rfl
def nW (w : Wt) : Nat := w.1.length + 1
def fillW (w : Wt) (k : Int) : Wt := (fillI w.1 k, k + w.1.length)
def heldW (w : Wt) (k : Int) : Int := if heldI w.1 k < 0 then -1 else if w.2 = heldI w.1 k then heldI w.1 k + 1 else -1
def fillWs := fillL fillW nW
def heldWs := heldL heldW
theorem heldW_fill (w : Wt) (k : Int) (hk : 0 ≤ k) : heldW (fillW w k) k = k + nW w := by
  simp only [heldW, fillW, nW, heldI_fill]; rw [if_neg (by omega)]; simp only [if_true]; omega
theorem heldWs_fill (l : List Wt) (k : Int) (hk : 0 ≤ k) : heldWs (fillWs l k) k = k + sumL nW l := heldL_fill heldW_fill l k hk
def nG (g : Gp) : Nat := g.1.length + 2
def fillG (g : Gp) (k : Int) : Gp := (fillI g.1 k, k + g.1.length, k + g.1.length + 1)
def heldG (g : Gp) (k : Int) : Int := if heldI g.1 k < 0 then -1 else if g.2.1 = heldI g.1 k then (if g.2.2 = heldI g.1 k + 1 then heldI g.1 k + 2 else -1) else -1
def fillGs := fillL fillG nG
def heldGs := heldL heldG
theorem heldG_fill (g : Gp) (k : Int) (hk : 0 ≤ k) : heldG (fillG g k) k = k + nG g := by
  simp only [heldG, fillG, nG, heldI_fill]; rw [if_neg (by omega)]; simp only [if_true]; omega
theorem heldGs_fill (l : List Gp) (k : Int) (hk : 0 ≤ k) : heldGs (fillGs l k) k = k + sumL nG l := heldL_fill heldG_fill l k hk
theorem sumL_add {α : Type} (f : α → Nat) (c : Nat) (l : List α) : sumL (fun x => f x + c) l = sumL f l + c * l.length := by
  induction l with
  | nil => rfl
  | cons x xs ih => simp only [sumL, ih, List.length_cons, Nat.mul_add]; omega
theorem sumL_le {α : Type} {f : α → Nat} {b : Nat} {l : List α} (h : ∀ x ∈ l, f x ≤ b) : sumL f l ≤ b * l.length := by
  induction l with
  | nil => simp [sumL]
  | cons x xs ih =>
    have h1 := h x (by simp)
    have h2 := ih fun y hy => h y (by simp [hy])
    simp only [sumL, List.length_cons, Nat.mul_add]; omega
theorem SameN.ints {l l' : List Int} (h : l'.length = l.length) : SameN [ints l] [ints l'] :=
  ⟨rfl, fun q hq => by
    have : q = 0 := by simpa using hq
    subst this
    refine ⟨1, l.length, fun i => [.int .i64 (l.getD i 0)], fun i => [.int .i64 (l'.getD i 0)], rfl, ?_⟩
    show AV.isl 1 l'.length _ = _
    rw [h]⟩
theorem sumL_len {α : Type} {f : α → Nat} (h : ∀ x, 1 ≤ f x) (l : List α) : l.length ≤ sumL f l := by
  induction l with
  | nil => exact Nat.zero_le _
  | cons x xs ih => have := h x; simp only [sumL, List.length_cons]; omega
theorem sumL_fillL {α : Type} {f : α → Int → α} {n m : α → Nat} (h : ∀ x k, m (f x k) = m x) : ∀ (l : List α) (k : Int), sumL m (fillL f n l k) = sumL m l
  | [], _ => rfl
  | x :: xs, k => by simp only [fillL, sumL, h, sumL_fillL h xs]
theorem sumL_fillWs (l : List Wt) (k : Int) : sumL nW (fillWs l k) = sumL nW l := sumL_fillL (fun w k => by simp [nW, fillW, fillI_len]) l k
theorem sumL_fillGs (l : List Gp) (k : Int) : sumL nG (fillGs l k) = sumL nG l := sumL_fillL (fun w k => by simp [nG, fillG, fillI_len]) l k
def G0 : Gh := ⟨fun _ => False, undef⟩
end Go.Proofs.Ythholadaflfpcaa
