/-
  Appending to rows told as lists; rows by value told otherwise.
-/
import Derived.Test.YthholadaflfpcaaFxH
namespace Go.Fw
open Go Go.RowKit
theorem els_isl {α : Type} {get : Nat → List AV} {f : α → List AV} (ys : List α) (d0 : α) {m : Nat} (hm : ys.length = m) (hg : ∀ i, i < m → get i = f (ys.getD i d0)) : (List.range m).map get = ys.map f := by
  subst hm
  refine list_ext_getD [] (by simp) fun j hj => ?_
  have hj' : j < ys.length := by simpa using hj
  rw [getD_map' f ys j d0 [] hj', getD_map' get _ j 0 [] (by simpa using hj'), ← hg j hj']
  simp [List.getD_eq_getElem?_getD, hj']
theorem getD_tk {α : Type} {l : List α} {k i : Nat} {d : α} (h : i < k) : (l.take k).getD i d = l.getD i d := by
  simp [List.getD_eq_getElem?_getD, List.getElem?_take, h]
theorem getD_dr {α : Type} {l : List α} {k i : Nat} {d : α} : (l.drop k).getD i d = l.getD (k + i) d := by
  simp [List.getD_eq_getElem?_getD, List.getElem?_drop]
/-- A row by value without elements. -/
def isE : AV → Bool
  | .isl _ 0 _ => true
  | _ => false
theorem VI.nilI {O : Nat → Prop} {w : World} {v : AV} {x : Value} (hv : isE v = true) (h : VI O w .nsl x) : VI O w v x := by
  cases h
  unfold isE at hv
  split at hv
  · exact .isl (fun _ _ => (Value.bool true)) (Nat.le_refl _) (Nat.zero_le _) (fun h => absurd h (Nat.lt_irrefl _)) (fun i j hi => absurd hi (Nat.not_lt_zero _))
  · cases hv
theorem VI.reI {O : Nat → Prop} {w : World} {sz n n' : Nat} {get get' : Nat → List AV} {x : Value} (hn : n = n') (hg : ∀ i, i < n' → get i = get' i) (h : VI O w (.isl sz n get) x) : VI O w (.isl sz n' get') x := by
  subst hn
  cases h with
  | isl vals h1 h2 h3 h4 =>
    refine .isl vals h1 h2 (fun h => ?_) (fun i j hi hj => ?_)
    · obtain ⟨a, e1, e2, e3⟩ := h3 h
      exact ⟨a, e1, e2, fun i j hi hj => e3 i j hi (by rw [hg i hi]; exact hj)⟩
    · rw [← hg i hi]; exact h4 i j hi (by rw [hg i hi]; exact hj)
section
variable {P : Program} {ops : Array Oper} {Post : (Nat → AV) → St → Prop} {a : Nat → AV} {S : St} {o : Oper} {d : Option Nat} {m : Fr} {rest l : List Oper}
theorem Good.reslot {F : Nat → Prop} {φ : Nat → Nat} {w : World} {ac : Act} (hg : Good F φ S w m a ac) {t : Nat} {v : AV} (hv : ∀ x, VR φ S (OO F φ S) w (a t) x → VR φ S (OO F φ S) w v x) : Good F φ S w m (upd a (some t) v) ac := by
  refine ⟨hg.sim, hg.defers, hg.size, fun k => ?_, hg.bd⟩
  by_cases e : k = t
  · subst e
    simpa [upd] using hv _ (hg.slots k)
  · simpa [upd, e] using hg.slots k
theorem RG.nilI (t : Nat) (v : AV) (ha : a t = .nsl) (hv : isE v = true) (h : RG P m ops l (upd a (some t) v) S Post) : RG P m ops l a S Post := by
  intro F φ w ac Q hg hq
  refine h F φ w ac Q (hg.reslot fun x hx => ?_) hq
  rw [ha] at hx
  cases hx with
  | pure hx => exact .pure (hx.nilI hv)
theorem RG.reI (t : Nat) {sz n : Nat} {get : Nat → List AV} (v : AV) (n' : Nat) (get' : Nat → List AV) (hv : v = .isl sz n' get') (ha : a t = .isl sz n get) (hn : n = n') (hg : ∀ i, i < n' → get i = get' i) (h : RG P m ops l (upd a (some t) v) S Post) : RG P m ops l a S Post := by
  subst hv
  intro F φ w ac Q hgd hq
  refine h F φ w ac Q (hgd.reslot fun x hx => ?_) hq
  rw [ha] at hx
  cases hx with
  | pure hx => exact .pure (hx.reI hn hg)
theorem RG.appL {α : Type} (T : Tab P) (rows : List Nat) (f : α → List AV) (xs ys : List α) {p : Option Prop} {row : Bool} {id n k : Nat} {ty : TypeId} {sz : Nat} {els els0 : List (List AV)} {S' : St} (hd : o.dst = d) (hs : step2 T rows o a S = .set p row (.sl id (n + k)) id ⟨ty, sz, els0 ++ els⟩) (h0 : els0 = xs.map f) (he : els = ys.map f) (hp : oprop p)
    (hS : List.set S id (some ⟨ty, sz, (xs ++ ys).map f⟩) = S') (hr : RG P m ops rest (upd a d (.sl id (n + k))) S' Post) (hgd : agd ops o a = some true := by rfl) (hok : (gdOK m.n ops o && dstOK m.n o.dst) = true := by rfl) : RG P m ops (o :: rest) a S Post := by
  subst hd hS h0 he
  have hk := step2_ok T rows o a S
  rw [hs] at hk
  refine RG.op (hk hp) ?_ hgd hok
  rw [← List.map_append]
  exact hr
end
section
variable {P : Program} {T : Tab P} {rows : List Nat} {ops : Array Oper} {con : Nat → CK} {pi ids : List Nat} {Post : (Nat → AV) → St → Prop} {a : Nat → AV} {S : St} {H : Nat → Prop} {o : Oper} {d : Option Nat}
theorem QR.appL {α : Type} (f : α → List AV) (xs ys : List α) {p : Option Prop} {row : Bool} {i id n k : Nat} {ty : TypeId} {sz : Nat} {els els0 : List (List AV)} {S' : St} {rest : List (Nat × Oper)} (hd : o.dst = d) (hs : step2 T rows o a S = .set p row (.sl id (n + k)) id ⟨ty, sz, els0 ++ els⟩) (h0 : els0 = xs.map f) (he : els = ys.map f) (hp : oprop p) (hkn : knd o = 2) (hid : ids.contains id = true)
    (hS : List.set S id (some ⟨ty, sz, (xs ++ ys).map f⟩) = S') (hr : QR T rows ops con pi ids Post rest (upd a d (.sl id (n + k))) S' H) (hgd : agd ops o a = some true := by rfl) : QR T rows ops con pi ids Post ((i, o) :: rest) a S H := by
  subst hd hS h0 he
  rw [List.map_append] at hr
  exact .set (.set hgd hkn hs hp) hid hr
end
theorem pv_rows {α : Type} {f : α → List AV} {sz : Nat} (hf : ∀ x, (f x).length = sz ∧ (f x).all pv0 = true) (l : List α) : ∀ x ∈ l, (f x).length = sz ∧ (f x).all pv0 = true := fun x _ => hf x
end Go.Fw
