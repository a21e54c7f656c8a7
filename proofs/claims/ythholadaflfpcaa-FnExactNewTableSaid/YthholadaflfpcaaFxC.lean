/-
  Cuts; what is made, taken apart; small words for walks that a program prints.
-/
import Derived.Test.YthholadaflfpcaaFxB
namespace Go.Fw
open Go Go.RowKit

section
variable {P : Program} {m : Fr} {a : Nat → AV} {S : St} {Post : Exit → (Nat → AV) → St → Prop}

/-- Ways through a first part meet again: what they have in common is told. -/
theorem SC.cutE {x y : Code} {X : Type} (R : X → Prop) (l : X → List (Nat × AV)) (S1 : X → St) (hS : ∀ x, S.length ≤ (S1 x).length) (h : SC P m x a S (thenP (fun a' S' => ∃ x, R x ∧ Drop S' (S1 x) ∧ Agree a' (S1 x).length (l x)) Post)) (k : ∀ x, R x → SC P m y (asl (l x)) (S1 x) Post) : SC P m (.seq x y) a S Post := by
  intro F φ w ac Q hg hq
  refine wp_seq (h F φ w ac _ hg fun e a' S' F' φ' w' ac' hp hg' he hgr => ?_)
  cases e with
  | normal =>
    obtain ⟨x, hR, hd, hl⟩ := hp
    exact k x hR F' φ' w' ac' Q (hg'.drop hd hl) fun e a'' S'' F'' φ'' w'' ac'' h1 h2 h3 h4 => hq _ _ _ _ _ _ _ h1 h2 ((he.drop hd (hS x)).trans hgr h3) (hgr.trans h4 he.hsize)
  | _ => exact hq _ _ _ _ _ _ _ hp hg' he hgr

theorem SC.cut {x y : Code} (l : List (Nat × AV)) (S1 : St) (hS : Nat.ble S.length S1.length = true) (h : SC P m x a S (thenP (fun a' S' => Drop S' S1 ∧ Agree a' S1.length l) Post)) (k : SC P m y (asl l) S1 Post) : SC P m (.seq x y) a S Post :=
  SC.cutE (X := Unit) (fun _ => True) (fun _ => l) (fun _ => S1) (fun _ => Nat.le_of_ble_eq_true hS) (h.mono fun e a' S' hp => by cases e <;> first | exact ⟨(), trivial, hp⟩ | exact hp) fun _ _ => k

theorem Drop.none0 : Drop ([] : St) [] := ⟨Nat.le_refl _, fun _ _ h => h, fun i o h => by simp [St.at] at h⟩
theorem Sc.rows {α : Type} {L : Nat} {ty : TypeId} {sz : Nat} {l : List α} {f : α → List AV} (h : ∀ x, (f x).all (sc0 L) = true ∧ (f x).length = sz) : Sc L ⟨ty, sz, l.map f⟩ :=
  Sc.row fun c hc => by obtain ⟨x, _, rfl⟩ := List.mem_map.1 hc; exact h x

/-! What is made. -/
theorem Made0.isl {r : AV} {sz n : Nat} {get : Nat → List AV} (h : Made0 r (.isl sz n get)) : ∃ I, r = .own I (.isl sz n get) := h
theorem Made.isl {r : AV} {sz n : Nat} {get : Nat → List AV} (h : Made r (.isl sz n get)) : ∃ I, r = .own I (.isl sz n get) := h
theorem Made0.scal {r b : AV} (h : Made0 r b) (hb : scal0 b = true) : r = b := by
  cases b <;> first | exact h.1 | (simp [scal0] at hb)
theorem MadeL.one {R : AV → AV → Prop} {rs : List AV} {b : AV} (h : MadeL R rs [b]) : ∃ r, rs = [r] ∧ R r b := by
  match rs, h with
  | [r], h => exact ⟨r, rfl, h.1⟩
theorem MadeL.cons {R : AV → AV → Prop} {rs : List AV} {b : AV} {bs : List AV} (h : MadeL R rs (b :: bs)) : ∃ r rs', rs = r :: rs' ∧ R r b ∧ (∀ x, OS r x → ¬ OS (.agg rs') x) ∧ MadeL R rs' bs := by
  match rs, h with
  | r :: rs', h => exact ⟨r, rs', rfl, h.1, h.2.1, h.2.2⟩
theorem Made.agg {r : AV} {bs : List AV} (h : Made r (.agg bs)) : ∃ rs, r = .agg rs ∧ MadeL Made0 rs bs := h
theorem Made1.agg {r : AV} {bs : List AV} (h : Made1 r (.agg bs)) : ∃ rs, r = .agg rs ∧ MadeL Made0 rs bs := h
theorem Made.tup {r : AV} {bs : List AV} (h : Made r (.tup bs)) : ∃ rs, r = .tup rs ∧ MadeL Made1 rs bs := h

/-- The row's cells, by value, seen from its begin. -/
theorem isl_congr {sz n n' : Nat} {get get' : Nat → List AV} (hn : n = n') (h : ∀ i, get i = get' i) : AV.isl sz n get = AV.isl sz n' get' := by
  subst hn; congr; funext i; exact h i
end

section
variable {P : Program} {m : Fr} {ops : Array Oper} {o : Oper} {rest : List Oper} {a : Nat → AV} {S : St} {Post : (Nat → AV) → St → Prop} {g : FuncId} {as : List AV} {d : Option Nat}
/-- A call of a pure function, its arguments told otherwise. -/
theorem RG.pfe {r : AV} (as' : List AV) (h : callA o a = some (g, as)) (hd : o.dst = d) (hp : PF P g as' r) (he : as = as') (hs : (pv r && as.all pv) = true) (hr : RG P m ops rest (upd a d r) S Post) (hgd : agd ops o a = some true := by rfl) (hok : (gdOK m.n ops o && dstOK m.n o.dst) = true := by rfl) : RG P m ops (o :: rest) a S Post := by
  subst he; exact RG.pf h hd hp hs hr hgd hok
/-- A slot told otherwise. -/
theorem RG.re {l : List Oper} {v' : AV} (d : Nat) (v : AV) (ha : a d = v') (hv : v' = v) (h : RG P m ops l (upd a (some d) v) S Post) : RG P m ops l a S Post := by
  have e : upd a (some d) v = a := by funext t; simp only [upd]; split <;> simp_all
  rw [e] at h
  exact h
end

/-! No slice is longer than an int counts. -/
theorem VI.len {O : Nat → Prop} {w : World} {sz n : Nat} {get : Nat → List AV} {v : Value} (h : VI O w (.isl sz n get) v) : n ≤ 9223372036854775807 := by
  cases h with
  | isl vals h1 h2 => exact Nat.le_trans h1 h2
theorem VR.len {φ : Nat → Nat} {S : St} {O : Nat → Prop} {w : World} {sz n : Nat} {get : Nat → List AV} {v : Value} (h : VR φ S O w (.isl sz n get) v) : n ≤ 9223372036854775807 := by
  cases h with
  | pure h => exact h.len
section
variable {P : Program} {m : Fr} {a : Nat → AV} {S : St} {Post : Exit → (Nat → AV) → St → Prop} {Post' : (Nat → AV) → St → Prop}
theorem SC.len {c : Code} (k : Nat) {sz n : Nat} {get : Nat → List AV} (ha : a k = .isl sz n get) (h : n ≤ 9223372036854775807 → SC P m c a S Post) : SC P m c a S Post := by
  intro F φ w ac Q hg hq
  have := hg.slots k
  rw [ha] at this
  exact h this.len F φ w ac Q hg hq
theorem SC.lenA {c : Code} (k j : Nat) {cs : List AV} {sz n : Nat} {get : Nat → List AV} (ha : a k = .agg cs) (hj : j < cs.length) (hc : cs.getD j .undef = .isl sz n get) (h : n ≤ 9223372036854775807 → SC P m c a S Post) : SC P m c a S Post := by
  intro F φ w ac Q hg hq
  have := hg.slots k
  rw [ha] at this
  obtain ⟨vs, _, _, h2⟩ := this.agg_inv
  have := h2 j hj
  rw [hc] at this
  exact h this.len F φ w ac Q hg hq
theorem RG.len {ops : Array Oper} {l : List Oper} (k : Nat) {sz n : Nat} {get : Nat → List AV} (ha : a k = .isl sz n get) (h : n ≤ 9223372036854775807 → RG P m ops l a S Post') : RG P m ops l a S Post' := by
  intro F φ w ac Q hg hq
  have := hg.slots k
  rw [ha] at this
  exact h this.len F φ w ac Q hg hq
end

/-! Loops with a state. -/
section
variable {P : Program} {m : Fr} {a : Nat → AV} {S : St} {Post : Exit → (Nat → AV) → St → Prop}
theorem SC.loop1 {c : Code} {X : Type} (meas : X → Nat) (I : X → Prop) (st : X → List (Nat × AV)) (ss : X → St) (x0 : X) (h0 : I x0) (hd : Drop S (ss x0)) (hl : Agree a (ss x0).length (st x0)) (hS : ∀ x, S.length ≤ (ss x).length)
    (round : ∀ x, I x → SC P m c (asl (st x)) (ss x) (thenP (fun a' S' => ∃ x', meas x' < meas x ∧ I x' ∧ Drop S' (ss x') ∧ Agree a' (ss x').length (st x')) Post)) : SC P m (.loop c) a S Post := by
  refine SC.loop (fun n l S' => ∃ x, n = meas x ∧ I x ∧ l = st x ∧ S' = ss x) (meas x0) (st x0) (ss x0) ⟨x0, rfl, h0, rfl, rfl⟩ hd hl (hS _) (fun n l S' ⟨x, _, _, _, e⟩ => e ▸ hS x) ?_
  rintro n l S1 ⟨x, rfl, hI, rfl, rfl⟩
  refine (round x hI).mono fun e a' S' h => ?_
  cases e with
  | normal =>
    obtain ⟨x', h1, h2, h3, h4⟩ := h
    exact ⟨meas x', _, _, h1, ⟨x', rfl, h2, rfl, rfl⟩, h3, h4⟩
  | _ => exact h
theorem SC.loop2 {c : Code} {X0 X1 : Type} (meas : X0 → X1 → Nat) (I : X0 → X1 → Prop) (st : X0 → X1 → List (Nat × AV)) (ss : X0 → X1 → St) (x0 : X0) (y0 : X1) (h0 : I x0 y0) (hd : Drop S (ss x0 y0)) (hl : Agree a (ss x0 y0).length (st x0 y0)) (hS : ∀ x y, S.length ≤ (ss x y).length)
    (round : ∀ x y, I x y → SC P m c (asl (st x y)) (ss x y) (thenP (fun a' S' => ∃ x' y', meas x' y' < meas x y ∧ I x' y' ∧ Drop S' (ss x' y') ∧ Agree a' (ss x' y').length (st x' y')) Post)) : SC P m (.loop c) a S Post := by
  refine SC.loop1 (fun p : X0 × X1 => meas p.1 p.2) (fun p => I p.1 p.2) (fun p => st p.1 p.2) (fun p => ss p.1 p.2) (x0, y0) h0 hd hl (fun p => hS p.1 p.2) ?_
  rintro ⟨x, y⟩ hI
  refine (round x y hI).mono fun e a' S' h => ?_
  cases e with
  | normal =>
    obtain ⟨x', y', h⟩ := h
    exact ⟨(x', y'), h⟩
  | _ => exact h
theorem SC.loop3 {c : Code} {X0 X1 X2 : Type} (meas : X0 → X1 → X2 → Nat) (I : X0 → X1 → X2 → Prop) (st : X0 → X1 → X2 → List (Nat × AV)) (ss : X0 → X1 → X2 → St) (x0 : X0) (y0 : X1) (z0 : X2) (h0 : I x0 y0 z0) (hd : Drop S (ss x0 y0 z0)) (hl : Agree a (ss x0 y0 z0).length (st x0 y0 z0)) (hS : ∀ x y z, S.length ≤ (ss x y z).length)
    (round : ∀ x y z, I x y z → SC P m c (asl (st x y z)) (ss x y z) (thenP (fun a' S' => ∃ x' y' z', meas x' y' z' < meas x y z ∧ I x' y' z' ∧ Drop S' (ss x' y' z') ∧ Agree a' (ss x' y' z').length (st x' y' z')) Post)) : SC P m (.loop c) a S Post := by
  refine SC.loop1 (fun p : X0 × X1 × X2 => meas p.1 p.2.1 p.2.2) (fun p => I p.1 p.2.1 p.2.2) (fun p => st p.1 p.2.1 p.2.2) (fun p => ss p.1 p.2.1 p.2.2) (x0, y0, z0) h0 hd hl (fun p => hS p.1 p.2.1 p.2.2) ?_
  rintro ⟨x, y, z⟩ hI
  refine (round x y z hI).mono fun e a' S' h => ?_
  cases e with
  | normal =>
    obtain ⟨x', y', z', h⟩ := h
    exact ⟨(x', y', z'), h⟩
  | _ => exact h
theorem SC.loop4 {c : Code} {X0 X1 X2 X3 : Type} (meas : X0 → X1 → X2 → X3 → Nat) (I : X0 → X1 → X2 → X3 → Prop) (st : X0 → X1 → X2 → X3 → List (Nat × AV)) (ss : X0 → X1 → X2 → X3 → St) (x0 : X0) (y0 : X1) (z0 : X2) (u0 : X3) (h0 : I x0 y0 z0 u0) (hd : Drop S (ss x0 y0 z0 u0)) (hl : Agree a (ss x0 y0 z0 u0).length (st x0 y0 z0 u0)) (hS : ∀ x y z u, S.length ≤ (ss x y z u).length)
    (round : ∀ x y z u, I x y z u → SC P m c (asl (st x y z u)) (ss x y z u) (thenP (fun a' S' => ∃ x' y' z' u', meas x' y' z' u' < meas x y z u ∧ I x' y' z' u' ∧ Drop S' (ss x' y' z' u') ∧ Agree a' (ss x' y' z' u').length (st x' y' z' u')) Post)) : SC P m (.loop c) a S Post := by
  refine SC.loop1 (fun p : X0 × X1 × X2 × X3 => meas p.1 p.2.1 p.2.2.1 p.2.2.2) (fun p => I p.1 p.2.1 p.2.2.1 p.2.2.2) (fun p => st p.1 p.2.1 p.2.2.1 p.2.2.2) (fun p => ss p.1 p.2.1 p.2.2.1 p.2.2.2) (x0, y0, z0, u0) h0 hd hl (fun p => hS p.1 p.2.1 p.2.2.1 p.2.2.2) ?_
  rintro ⟨x, y, z, u⟩ hI
  refine (round x y z u hI).mono fun e a' S' h => ?_
  cases e with
  | normal =>
    obtain ⟨x', y', z', u', h⟩ := h
    exact ⟨(x', y', z', u'), h⟩
  | _ => exact h
theorem SC.loop5 {c : Code} {X0 X1 X2 X3 X4 : Type} (meas : X0 → X1 → X2 → X3 → X4 → Nat) (I : X0 → X1 → X2 → X3 → X4 → Prop) (st : X0 → X1 → X2 → X3 → X4 → List (Nat × AV)) (ss : X0 → X1 → X2 → X3 → X4 → St) (x0 : X0) (y0 : X1) (z0 : X2) (u0 : X3) (v0 : X4) (h0 : I x0 y0 z0 u0 v0) (hd : Drop S (ss x0 y0 z0 u0 v0)) (hl : Agree a (ss x0 y0 z0 u0 v0).length (st x0 y0 z0 u0 v0)) (hS : ∀ x y z u v, S.length ≤ (ss x y z u v).length)
    (round : ∀ x y z u v, I x y z u v → SC P m c (asl (st x y z u v)) (ss x y z u v) (thenP (fun a' S' => ∃ x' y' z' u' v', meas x' y' z' u' v' < meas x y z u v ∧ I x' y' z' u' v' ∧ Drop S' (ss x' y' z' u' v') ∧ Agree a' (ss x' y' z' u' v').length (st x' y' z' u' v')) Post)) : SC P m (.loop c) a S Post := by
  refine SC.loop1 (fun p : X0 × X1 × X2 × X3 × X4 => meas p.1 p.2.1 p.2.2.1 p.2.2.2.1 p.2.2.2.2) (fun p => I p.1 p.2.1 p.2.2.1 p.2.2.2.1 p.2.2.2.2) (fun p => st p.1 p.2.1 p.2.2.1 p.2.2.2.1 p.2.2.2.2) (fun p => ss p.1 p.2.1 p.2.2.1 p.2.2.2.1 p.2.2.2.2) (x0, y0, z0, u0, v0) h0 hd hl (fun p => hS p.1 p.2.1 p.2.2.1 p.2.2.2.1 p.2.2.2.2) ?_
  rintro ⟨x, y, z, u, v⟩ hI
  refine (round x y z u v hI).mono fun e a' S' h => ?_
  cases e with
  | normal =>
    obtain ⟨x', y', z', u', v', h⟩ := h
    exact ⟨(x', y', z', u', v'), h⟩
  | _ => exact h
end

theorem drop_getD {α : Type} {l : List α} {i : Nat} (d : α) (h : i < l.length) : l.drop i = l.getD i d :: l.drop (i + 1) := by
  rw [List.drop_eq_getElem_cons h, List.getD_eq_getElem?_getD, List.getElem?_eq_getElem h]; rfl

theorem b_and_f {p q : Bool} (h : p = false) : AV.bool false = AV.bool (p && q) := by rw [h]; rfl
theorem b_and_t {p q : Bool} (h : p = true) : AV.bool q = AV.bool (p && q) := by rw [h]; rfl
theorem b_or_t {p q : Bool} (h : p = true) : AV.bool true = AV.bool (p || q) := by rw [h]; rfl
theorem b_or_f {p q : Bool} (h : p = false) : AV.bool q = AV.bool (p || q) := by rw [h]; rfl
end Go.Fw
