/-
  What a stable sort by blocks does to a list (no program here): swaps, rotations, merges.
-/
import Derived.Test.YthholadaflfpcaaFxG
namespace Go.Fw
section
variable {α : Type} (c : α → α → Int) (d : α)
/-- Sorted between two places. -/
def Srt (xs : List α) (lo hi : Nat) : Prop := ∀ i j, lo ≤ i → i ≤ j → j < hi → ¬ c (xs.getD j d) (xs.getD i d) < 0
structure OrdC : Prop where
  asym : ∀ x y, c x y < 0 → ¬ c y x < 0
  trans : ∀ x y z, ¬ c y x < 0 → ¬ c z y < 0 → ¬ c z x < 0
/-- ys is xs with things changed between a and b only, and by order only. -/
structure Win (xs ys : List α) (a b : Nat) : Prop where
  len : ys.length = xs.length
  out : ∀ k, k < a ∨ b ≤ k → ys.getD k d = xs.getD k d
  inn : ∀ k, a ≤ k → k < b → ∃ k', a ≤ k' ∧ k' < b ∧ ys.getD k d = xs.getD k' d
  perm : ys.Perm xs
variable {c d}
theorem OrdC.refl (h : OrdC c) (x : α) : ¬ c x x < 0 := fun k => h.asym x x k k
theorem OrdC.le_lt (h : OrdC c) {x y z : α} (h1 : ¬ c y x < 0) (h2 : c y z < 0) : c x z < 0 := by
  rcases Classical.em (c x z < 0) with k | k
  · exact k
  · exact absurd h2 (h.trans z x y k h1)
theorem OrdC.lt_le (h : OrdC c) {x y z : α} (h1 : c x y < 0) (h2 : ¬ c z y < 0) : c x z < 0 := by
  rcases Classical.em (c x z < 0) with k | k
  · exact k
  · exact absurd h1 (h.trans y z x h2 k)
theorem OrdC.le (h : OrdC c) {x y : α} (h1 : c x y < 0) : ¬ c y x < 0 := h.asym _ _ h1
theorem Win.refl (xs : List α) (a b : Nat) : Win d xs xs a b := ⟨rfl, fun _ _ => rfl, fun k h1 h2 => ⟨k, h1, h2, rfl⟩, .refl _⟩
theorem Win.trans {xs ys zs : List α} {a b : Nat} (h : Win d xs ys a b) (k : Win d ys zs a b) : Win d xs zs a b :=
  ⟨k.len.trans h.len, fun i hi => (k.out i hi).trans (h.out i hi), fun i h1 h2 => by
    obtain ⟨j, j1, j2, e⟩ := k.inn i h1 h2
    obtain ⟨m, m1, m2, e2⟩ := h.inn j j1 j2
    exact ⟨m, m1, m2, e.trans e2⟩, k.perm.trans h.perm⟩
theorem Win.wide {xs ys : List α} {a b a' b' : Nat} (h : Win d xs ys a b) (ha : a' ≤ a) (hb : b ≤ b') : Win d xs ys a' b' :=
  ⟨h.len, fun i hi => h.out i (by omega), fun i h1 h2 => by
    by_cases hk : a ≤ i ∧ i < b
    · obtain ⟨j, j1, j2, e⟩ := h.inn i hk.1 hk.2
      exact ⟨j, by omega, by omega, e⟩
    · exact ⟨i, h1, h2, h.out i (by omega)⟩, h.perm⟩
/-- Two elements change places. -/
def swp (d : α) (xs : List α) (i j : Nat) : List α := (xs.set i (xs.getD j d)).set j (xs.getD i d)
theorem swp_len (xs : List α) (i j : Nat) : (swp d xs i j).length = xs.length := by simp [swp]
theorem swp_get {xs : List α} {i j : Nat} (hi : i < xs.length) (hj : j < xs.length) (k : Nat) : (swp d xs i j).getD k d = if k = j then xs.getD i d else if k = i then xs.getD j d else xs.getD k d := by
  unfold swp
  rw [getD_set d (by simpa using hj), getD_set d hi]
theorem swp_perm {xs : List α} {i j : Nat} (hi : i < xs.length) (hj : j < xs.length) : (swp d xs i j).Perm xs := by
  have e1 : xs.getD i d = xs[i] := by simp [List.getD_eq_getElem?_getD, hi]
  have e2 : xs.getD j d = xs[j] := by simp [List.getD_eq_getElem?_getD, hj]
  unfold swp
  rw [e1, e2]
  exact List.set_set_perm hi hj
theorem Win.swp {xs : List α} {i j a b : Nat} (hi : a ≤ i ∧ i < b) (hj : a ≤ j ∧ j < b) (hb : b ≤ xs.length) : Win d xs (swp d xs i j) a b := by
  have g := swp_get (d := d) (xs := xs) (i := i) (j := j) (by omega) (by omega)
  refine ⟨swp_len _ _ _, fun k hk => ?_, fun k h1 h2 => ?_, swp_perm (by omega) (by omega)⟩
  · rw [g, if_neg (by omega), if_neg (by omega)]
  · rw [g]
    split
    · exact ⟨i, hi.1, hi.2, rfl⟩
    · split
      · exact ⟨j, hj.1, hj.2, rfl⟩
      · exact ⟨k, h1, h2, rfl⟩

/-- The inner loop of an insertion sort: all but the place j are sorted, and what is behind j is not below it. -/
structure Ins (c : α → α → Int) (d : α) (xs : List α) (a i j : Nat) : Prop where
  but : ∀ p q, a ≤ p → p ≤ q → q ≤ i → p ≠ j → q ≠ j → ¬ c (xs.getD q d) (xs.getD p d) < 0
  beh : ∀ q, j < q → q ≤ i → ¬ c (xs.getD q d) (xs.getD j d) < 0
theorem Ins.init {xs : List α} {a i : Nat} (h : Srt c d xs a i) : Ins c d xs a i i :=
  ⟨fun p q h1 h2 h3 h4 h5 => h p q h1 h2 (by omega), fun q h1 h2 => by omega⟩
theorem Ins.fin {xs : List α} {a i j : Nat} (ho : OrdC c) (h : Ins c d xs a i j) (hs : j = a ∨ ¬ c (xs.getD j d) (xs.getD (j - 1) d) < 0) (hj : a ≤ j) : Srt c d xs a (i + 1) := by
  intro p q h1 h2 h3
  by_cases ep : p = j
  · subst ep
    by_cases eq : q = p
    · subst eq; exact ho.refl _
    · exact h.beh q (by omega) (by omega)
  · by_cases eq : q = j
    · subst eq
      rcases hs with hs | hs
      · omega
      · by_cases e2 : p = q - 1
        · rw [e2]; exact hs
        · exact ho.trans _ _ _ (h.but p (q - 1) h1 (by omega) (by omega) ep (by omega)) hs
    · exact h.but p q h1 h2 (by omega) ep eq
theorem Ins.step {xs : List α} {a i j : Nat} (ho : OrdC c) (h : Ins c d xs a i j) (hs : c (xs.getD j d) (xs.getD (j - 1) d) < 0) (hj : a < j) (hi : j ≤ i) (hl : i < xs.length) : Ins c d (swp d xs j (j - 1)) a i (j - 1) := by
  have g := swp_get (d := d) (xs := xs) (i := j) (j := j - 1) (by omega) (by omega)
  refine ⟨fun p q h1 h2 h3 h4 h5 => ?_, fun q h1 h2 => ?_⟩
  · rw [g, g, if_neg h4, if_neg h5]
    by_cases ep : p = j
    · rw [if_pos ep]
      by_cases eq : q = j
      · rw [if_pos eq]; exact ho.refl _
      · rw [if_neg eq]; exact h.but (j - 1) q (by omega) (by omega) h3 (by omega) eq
    · rw [if_neg ep]
      by_cases eq : q = j
      · rw [if_pos eq]; exact h.but p (j - 1) h1 (by omega) (by omega) ep (by omega)
      · rw [if_neg eq]; exact h.but p q h1 h2 h3 ep eq
  · rw [g, g, if_neg (by omega), if_pos rfl]
    by_cases eq : q = j
    · rw [if_pos eq]; exact ho.le hs
    · rw [if_neg eq]; exact h.beh q (by omega) h2

/-- Two ranges changed places, as far as i. -/
def SwpR (d : α) (xs ys : List α) (a b n : Nat) : Prop := ∀ k, ys.getD k d = if a ≤ k ∧ k < a + n then xs.getD (b + (k - a)) d else if b ≤ k ∧ k < b + n then xs.getD (a + (k - b)) d else xs.getD k d
theorem SwpR.zero (xs : List α) (a b : Nat) : SwpR d xs xs a b 0 := fun k => by rw [if_neg (by omega), if_neg (by omega)]
theorem SwpR.step {xs ys : List α} {a b i n : Nat} (h : SwpR d xs ys a b i) (hl : ys.length = xs.length) (hi : i < n) (hab : a + n ≤ b) (hb : b + n ≤ xs.length) : SwpR d xs (swp d ys (a + i) (b + i)) a b (i + 1) := by
  intro k
  rw [swp_get (by omega) (by omega), h (a + i), h (b + i), h k]
  rw [if_neg (show ¬ (a ≤ a + i ∧ a + i < a + i) by omega), if_neg (show ¬ (b ≤ a + i ∧ a + i < b + i) by omega), if_neg (show ¬ (a ≤ b + i ∧ b + i < a + i) by omega), if_neg (show ¬ (b ≤ b + i ∧ b + i < b + i) by omega)]
  (repeat' split) <;> first | rfl | (congr 1; omega) | omega

/-- A rotation: what lies in [p, p+i) and what lies in [p+i, p+i+j) change places. -/
def rotG (d : α) (xs : List α) (p i j k : Nat) : α := if p ≤ k ∧ k < p + j then xs.getD (k + i) d else if p + j ≤ k ∧ k < p + i + j then xs.getD (k - j) d else xs.getD k d
theorem rotG_gt {xs ys : List α} {m i j : Nat} (h : SwpR d xs ys (m - i) m j) (hij : j < i) (hm : i ≤ m) : ∀ k, rotG d ys (m - (i - j)) (i - j) j k = rotG d xs (m - i) i j k := by
  intro k
  unfold rotG
  rw [h k, h (k + (i - j)), h (k - j)]
  (repeat' split) <;> first | rfl | (congr 1; omega) | omega
theorem rotG_lt {xs ys : List α} {m i j : Nat} (h : SwpR d xs ys (m - i) (m + j - i) i) (hij : i < j) (hm : i ≤ m) : ∀ k, rotG d ys (m - i) i (j - i) k = rotG d xs (m - i) i j k := by
  intro k
  unfold rotG
  rw [h k, h (k + i), h (k - (j - i))]
  (repeat' split) <;> first | rfl | (congr 1; omega) | omega
theorem rotG_eq {xs ys : List α} {m i : Nat} (h : SwpR d xs ys (m - i) m i) (hm : i ≤ m) : ∀ k, ys.getD k d = rotG d xs (m - i) i i k := by
  intro k
  unfold rotG
  rw [h k]
  (repeat' split) <;> first | rfl | (congr 1; omega) | omega

/-- A search by halves. -/
structure Bs (Q : Nat → Prop) (lo hi i j : Nat) : Prop where
  l1 : lo ≤ i
  l2 : i ≤ j
  l3 : j ≤ hi
  yes : ∀ k, lo ≤ k → k < i → Q k
  no : ∀ k, j ≤ k → k < hi → ¬ Q k
theorem Bs.init (Q : Nat → Prop) {lo hi : Nat} (h : lo ≤ hi) : Bs Q lo hi lo hi := ⟨Nat.le_refl _, h, Nat.le_refl _, fun k h1 h2 => by omega, fun k h1 h2 => by omega⟩
theorem Bs.up {Q : Nat → Prop} {lo hi i j k : Nat} (h : Bs Q lo hi i j) (hm : ∀ k k', lo ≤ k → k ≤ k' → k' < hi → Q k' → Q k) (h1 : i ≤ k) (h2 : k < j) (hq : Q k) : Bs Q lo hi (k + 1) j :=
  ⟨by have := h.l1; omega, by omega, h.l3, fun q q1 q2 => hm q k q1 (by omega) (by have := h.l3; omega) hq, h.no⟩
theorem Bs.dn {Q : Nat → Prop} {lo hi i j k : Nat} (h : Bs Q lo hi i j) (hm : ∀ k k', lo ≤ k → k ≤ k' → k' < hi → Q k' → Q k) (h1 : i ≤ k) (h2 : k < j) (hq : ¬ Q k) : Bs Q lo hi i k :=
  ⟨h.l1, h1, by have := h.l3; omega, h.yes, fun q q1 q2 hqq => hq (hm k q (by have := h.l1; omega) q1 q2 hqq)⟩

def Sh1 (d : α) (xs ys : List α) (a k : Nat) : Prop := ∀ q, ys.getD q d = if a ≤ q ∧ q < k then xs.getD (q + 1) d else if q = k then xs.getD a d else xs.getD q d
theorem Sh1.init (xs : List α) (a : Nat) : Sh1 d xs xs a a := fun q => by
  rw [if_neg (by omega)]; split
  · rename_i h; rw [h]
  · rfl
theorem Sh1.step {xs ys : List α} {a k : Nat} (h : Sh1 d xs ys a k) (ha : a ≤ k) (hl : k + 1 < ys.length) : Sh1 d xs (swp d ys k (k + 1)) a (k + 1) := by
  intro q
  rw [swp_get (by omega) (by omega), h k, h (k + 1), h q]
  rw [if_neg (show ¬ (a ≤ k ∧ k < k) by omega), if_neg (show ¬ (a ≤ k + 1 ∧ k + 1 < k) by omega), if_pos rfl, if_neg (show ¬ (k + 1 = k) by omega)]
  (repeat' split) <;> first | rfl | (congr 1; omega) | omega
theorem Sh1.srt {xs ys : List α} {a i b : Nat} (ho : OrdC c) (h : Sh1 d xs ys a (i - 1)) (hs : Srt c d xs (a + 1) b) (hb : Bs (fun k => c (xs.getD k d) (xs.getD a d) < 0) (a + 1) b i i) : Srt c d ys a b := by
  intro p q h1 h2 h3
  have hlo := hb.l1
  have hhi := hb.l3
  rw [h p, h q]
  by_cases e1 : p < i - 1
  · rw [if_pos (show a ≤ p ∧ p < i - 1 by omega)]
    by_cases e2 : q < i - 1
    · rw [if_pos (show a ≤ q ∧ q < i - 1 by omega)]; exact hs _ _ (by omega) (by omega) (by omega)
    · rw [if_neg (show ¬ (a ≤ q ∧ q < i - 1) by omega)]
      by_cases e3 : q = i - 1
      · rw [if_pos e3]; exact ho.le (hb.yes (p + 1) (by omega) (by omega))
      · rw [if_neg e3]; exact hs _ _ (by omega) (by omega) h3
  · rw [if_neg (show ¬ (a ≤ p ∧ p < i - 1) by omega), if_neg (show ¬ (a ≤ q ∧ q < i - 1) by omega)]
    by_cases e3 : q = i - 1
    · rw [if_pos e3, if_pos (show p = i - 1 by omega)]; exact ho.refl _
    · rw [if_neg e3]
      by_cases e4 : p = i - 1
      · rw [if_pos e4]; exact hb.no q (by omega) h3
      · rw [if_neg e4]; exact hs _ _ (by omega) h2 h3

def Sh2 (d : α) (xs ys : List α) (m k : Nat) : Prop := ∀ q, ys.getD q d = if k < q ∧ q ≤ m then xs.getD (q - 1) d else if q = k then xs.getD m d else xs.getD q d
theorem Sh2.init (xs : List α) (m : Nat) : Sh2 d xs xs m m := fun q => by
  rw [if_neg (by omega)]; split
  · rename_i h; rw [h]
  · rfl
theorem Sh2.step {xs ys : List α} {m k : Nat} (h : Sh2 d xs ys m k) (hk : 0 < k) (hkm : k ≤ m) (hl : k < ys.length) : Sh2 d xs (swp d ys k (k - 1)) m (k - 1) := by
  intro q
  rw [swp_get (by omega) (by omega), h k, h (k - 1), h q]
  rw [if_neg (show ¬ (k < k ∧ k ≤ m) by omega), if_neg (show ¬ (k < k - 1 ∧ k - 1 ≤ m) by omega), if_pos rfl, if_neg (show ¬ (k - 1 = k) by omega)]
  (repeat' split) <;> first | rfl | (congr 1; omega) | omega
theorem Sh2.srt {xs ys : List α} {a i m : Nat} (ho : OrdC c) (h : Sh2 d xs ys m i) (hs : Srt c d xs a m) (hb : Bs (fun k => ¬ c (xs.getD m d) (xs.getD k d) < 0) a m i i) : Srt c d ys a (m + 1) := by
  intro p q h1 h2 h3
  have hlo := hb.l1
  have hhi := hb.l3
  rw [h p, h q]
  by_cases e1 : i < p
  · rw [if_pos (show i < p ∧ p ≤ m by omega), if_pos (show i < q ∧ q ≤ m by omega)]; exact hs _ _ (by omega) (by omega) (by omega)
  · rw [if_neg (show ¬ (i < p ∧ p ≤ m) by omega)]
    by_cases e2 : p = i
    · rw [if_pos e2]
      by_cases e3 : i < q
      · rw [if_pos (show i < q ∧ q ≤ m by omega)]
        have := hb.no (q - 1) (by omega) (by omega)
        exact ho.le (Decidable.not_not.1 this)
      · rw [if_neg (show ¬ (i < q ∧ q ≤ m) by omega), if_pos (show q = i by omega)]; exact ho.refl _
    · rw [if_neg e2]
      by_cases e3 : i < q
      · rw [if_pos (show i < q ∧ q ≤ m by omega)]; exact hs _ _ h1 (by omega) (by omega)
      · rw [if_neg (show ¬ (i < q ∧ q ≤ m) by omega)]
        by_cases e4 : q = i
        · rw [if_pos e4]; exact hb.yes p h1 (by omega)
        · rw [if_neg e4]; exact hs _ _ h1 h2 (by omega)

/-- What is behind the rotation of a merge. -/
structure Mid (c : α → α → Int) (d : α) (ys : List α) (a s mid e b : Nat) : Prop where
  s1 : Srt c d ys a s
  s2 : Srt c d ys s mid
  s3 : Srt c d ys mid e
  s4 : Srt c d ys e b
  cr : ∀ x y, a ≤ x → x < mid → mid ≤ y → y < b → ¬ c (ys.getD y d) (ys.getD x d) < 0
theorem rot_lo {xs : List α} {s i j k : Nat} (h : k < s ∨ s + i + j ≤ k) : rotG d xs s i j k = xs.getD k d := by
  unfold rotG; rw [if_neg (by omega), if_neg (by omega)]
theorem rot_1 {xs : List α} {s i j k : Nat} (h1 : s ≤ k) (h2 : k < s + j) : rotG d xs s i j k = xs.getD (k + i) d := by
  unfold rotG; rw [if_pos (by omega)]
theorem rot_2 {xs : List α} {s i j k : Nat} (h1 : s + j ≤ k) (h2 : k < s + i + j) : rotG d xs s i j k = xs.getD (k - j) d := by
  unfold rotG; rw [if_neg (by omega), if_pos (by omega)]
theorem sym_mid {xs ys : List α} {a m b mid lo hi s : Nat} (ho : OrdC c) (h1 : Srt c d xs a m) (h2 : Srt c d xs m b) (ham : a < m) (hmb : m < b) (hmid : mid = (a + b) / 2)
    (hlo : lo = if m > mid then mid + m - b else a) (hhi : hi = if m > mid then mid else m) (hb : Bs (fun k => ¬ c (xs.getD (mid + m - 1 - k) d) (xs.getD k d) < 0) lo hi s s)
    (hy : ∀ k, ys.getD k d = rotG d xs s (m - s) (mid - s) k) : a ≤ s ∧ s ≤ m ∧ s ≤ mid ∧ mid ≤ mid + m - s ∧ m ≤ mid + m - s ∧ mid + m - s ≤ b ∧ Mid c d ys a s mid (mid + m - s) b := by
  have hl := hb.l1
  have hh := hb.l3
  have e1 : a ≤ s ∧ s ≤ m ∧ s ≤ mid ∧ mid + m - s ≤ b := by
    split at hlo <;> rename_i hc <;> simp only [hc, if_true, if_false] at hhi <;> omega
  obtain ⟨q1, q2, q3, q4⟩ := e1
  have g0 : ∀ k, k < s ∨ mid + m - s ≤ k → ys.getD k d = xs.getD k d := fun k hk => by rw [hy, rot_lo (by omega)]
  have g1 : ∀ k, s ≤ k → k < mid → ys.getD k d = xs.getD (k + (m - s)) d := fun k k1 k2 => by rw [hy, rot_1 k1 (by omega)]
  have g2 : ∀ k, mid ≤ k → k < mid + m - s → ys.getD k d = xs.getD (k - (mid - s)) d := fun k k1 k2 => by rw [hy, rot_2 (by omega) (by omega)]
  -- what lies before s is not above what lies behind the end
  have c1 : ∀ x y, a ≤ x → x < s → mid + m - s ≤ y → y < b → ¬ c (xs.getD y d) (xs.getD x d) < 0 := by
    intro x y x1 x2 y1 y2
    have hlt : lo < s := by
      rcases Nat.lt_or_ge lo s with h | h
      · exact h
      · exfalso
        have : lo = s := by omega
        split at hlo <;> omega
    have := hb.yes (s - 1) (by omega) (by omega)
    have e : mid + m - 1 - (s - 1) = mid + m - s := by omega
    simp only [e] at this
    have a1 := h1 x (s - 1) x1 (by omega) (by omega)
    have a2 := h2 (mid + m - s) y (by omega) y1 y2
    exact ho.trans _ _ _ (ho.trans _ _ _ a1 this) a2
  have c2 : ∀ x y, m ≤ x → x < mid + m - s → s ≤ y → y < m → ¬ c (xs.getD y d) (xs.getD x d) < 0 := by
    intro x y x1 x2 y1 y2
    have hlt : s < hi := by
      rcases Nat.lt_or_ge s hi with h | h
      · exact h
      · exfalso
        have : hi = s := by omega
        split at hhi <;> omega
    have := Decidable.not_not.1 (hb.no s (Nat.le_refl _) hlt)
    have e : mid + m - 1 - s = mid + m - s - 1 := by omega
    rw [e] at this
    have a1 := h2 x (mid + m - s - 1) x1 (by omega) (by omega)
    have a2 := h1 s y q1 y1 y2
    exact ho.trans _ _ _ (ho.trans _ _ _ a1 (ho.le this)) a2
  refine ⟨q1, q2, q3, by omega, by omega, q4, ⟨fun i j i1 i2 i3 => ?_, fun i j i1 i2 i3 => ?_, fun i j i1 i2 i3 => ?_, fun i j i1 i2 i3 => ?_, fun x y x1 x2 y1 y2 => ?_⟩⟩
  · rw [g0 i (by omega), g0 j (by omega)]; exact h1 i j i1 i2 (by omega)
  · rw [g1 i (by omega) (by omega), g1 j (by omega) (by omega)]; exact h2 _ _ (by omega) (by omega) (by omega)
  · rw [g2 i (by omega) (by omega), g2 j (by omega) (by omega)]; exact h1 _ _ (by omega) (by omega) (by omega)
  · rw [g0 i (by omega), g0 j (by omega)]; exact h2 i j (by omega) i2 i3
  · by_cases ex : x < s
    · rw [g0 x (by omega)]
      by_cases ey : y < mid + m - s
      · rw [g2 y y1 ey]; exact h1 _ _ x1 (by omega) (by omega)
      · rw [g0 y (by omega)]; exact c1 x y x1 ex (by omega) y2
    · rw [g1 x (by omega) x2]
      by_cases ey : y < mid + m - s
      · rw [g2 y y1 ey]; exact c2 _ _ (by omega) (by omega) (by omega) (by omega)
      · rw [g0 y (by omega)]; exact h2 _ _ (by omega) (by omega) y2
theorem sym_fin {ys z1 z2 : List α} {a s mid e b : Nat} (hm : Mid c d ys a s mid e b) (w1 : Win d ys z1 a mid) (s1 : Srt c d z1 a mid) (w2 : Win d z1 z2 mid b) (s2 : Srt c d z2 mid b) (hab : a ≤ mid) (hmb : mid ≤ b) : Srt c d z2 a b := by
  intro i j i1 i2 i3
  by_cases ej : j < mid
  · rw [w2.out i (by omega), w2.out j (by omega)]; exact s1 i j i1 i2 ej
  · by_cases ei : i < mid
    · rw [w2.out i (by omega)]
      obtain ⟨j', j1, j2, e1⟩ := w2.inn j (by omega) i3
      obtain ⟨i', i1', i2', e2⟩ := w1.inn i i1 ei
      rw [e1, w1.out j' (by omega), e2]
      exact hm.cr i' j' i1' i2' j1 j2
    · exact s2 i j (by omega) i2 i3
theorem Srt.out {xs ys : List α} {lo hi a b : Nat} (h : Srt c d xs lo hi) (w : Win d xs ys a b) (ho : hi ≤ a ∨ b ≤ lo) : Srt c d ys lo hi := fun i j i1 i2 i3 => by
  rw [w.out i (by omega), w.out j (by omega)]; exact h i j i1 i2 i3
theorem Srt.join0 {xs : List α} {a s b : Nat} (h1 : Srt c d xs a s) (h2 : Srt c d xs s b) (h : s ≤ a ∨ b ≤ s) : Srt c d xs a b := fun i j i1 i2 i3 => by
  rcases h with h | h
  · exact h2 i j (by omega) i2 i3
  · exact h1 i j i1 i2 (by omega)
theorem Srt.sub {xs : List α} {a b a' b' : Nat} (h : Srt c d xs a b) (ha : a ≤ a') (hb : b' ≤ b) : Srt c d xs a' b' := fun i j i1 i2 i3 => h i j (by omega) i2 (by omega)
theorem Srt.one {xs : List α} (ho : OrdC c) {a b : Nat} (h : b ≤ a + 1) : Srt c d xs a b := fun i j i1 i2 i3 => by
  have : i = j := by omega
  rw [this]; exact ho.refl _

/-- Blocks that are sorted, before a place and behind it. -/
inductive PreBlk (c : α → α → Int) (d : α) (xs : List α) (bs : Nat) : Nat → Prop
  | zero : PreBlk c d xs bs 0
  | step {a : Nat} : PreBlk c d xs bs a → Srt c d xs a (a + bs) → PreBlk c d xs bs (a + bs)
inductive Blk (c : α → α → Int) (d : α) (xs : List α) (bs L : Nat) : Nat → Prop
  | done {a : Nat} : L ≤ a → Blk c d xs bs L a
  | more {a : Nat} : Srt c d xs a (min (a + bs) L) → Blk c d xs bs L (a + bs) → Blk c d xs bs L a
theorem PreBlk.out {xs ys : List α} {bs a b lo : Nat} (h : PreBlk c d xs bs lo) (w : Win d xs ys a b) (hl : lo ≤ a) : PreBlk c d ys bs lo := by
  induction h with
  | zero => exact .zero
  | step h1 h2 ih => exact .step (ih (by omega)) (h2.out w (.inl hl))
theorem Blk.out {xs ys : List α} {bs L a b lo : Nat} (h : Blk c d xs bs L lo) (w : Win d xs ys a b) (hl : b ≤ lo) : Blk c d ys bs L lo := by
  induction h with
  | done h => exact .done h
  | more h1 h2 ih => exact .more (h1.out w (.inr hl)) (ih (by omega))
theorem PreBlk.fin {xs : List α} {bs L a : Nat} (h : PreBlk c d xs bs a) (k : Blk c d xs bs L a) : Blk c d xs bs L 0 := by
  induction h with
  | zero => exact k
  | step h1 h2 ih => exact ih (.more (h2.sub (Nat.le_refl _) (Nat.min_le_left _ _)) k)
theorem Blk.take {xs : List α} {bs L a : Nat} (h : Blk c d xs bs L a) (hl : a < L) : Srt c d xs a (min (a + bs) L) ∧ Blk c d xs bs L (a + bs) := by
  cases h with
  | done h => omega
  | more h1 h2 => exact ⟨h1, h2⟩
theorem Blk.last {xs : List α} {bs L a : Nat} (h : Srt c d xs a L) (h2 : L ≤ a + bs) : Blk c d xs bs L a := by
  by_cases hl : L ≤ a
  · exact .done hl
  · exact .more (h.sub (Nat.le_refl _) (Nat.min_le_right _ _)) (.done h2)
theorem Blk.fin {xs : List α} {bs L : Nat} (h : Blk c d xs bs L 0) (hl : L ≤ bs) : Srt c d xs 0 L := by
  by_cases h0 : L = 0
  · intro i j i1 i2 i3; omega
  · have := (h.take (by omega)).1
    rwa [show min (0 + bs) L = L by omega] at this
end
open Go in
theorem half_ok (n : Nat) (h : n ≤ 4611686018427387904) : IntKind.i64.wrap ((IntKind.u64.wrap (n : Int)).fdiv (2 ^ (min (1 : Int).toNat IntKind.u64.bits))) = ((n / 2 : Nat) : Int) := by
  have e1 : IntKind.u64.wrap (n : Int) = n := by
    simp only [IntKind.wrap, IntKind.bits, IntKind.signed]
    simp
    omega
  have e2 : (2 : Int) ^ (min (1 : Int).toNat IntKind.u64.bits) = 2 := rfl
  rw [e1, e2, Int.fdiv_eq_ediv_of_nonneg _ (by decide), wrap64 (by unfold in64; omega)]
  omega
end Go.Fw
