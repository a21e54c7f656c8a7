/-
  Regions whose order is drawn: one run in an order of one's own serves every order.
-/
import Derived.Test.YthholadaflfpcaaFwQ
namespace Go.Fw
open Go Go.RowKit

theorem SealB.mono {bo : Prop} {S : St} {x : Option AObj} {av av' : AV} (h : SealB bo S av av') : SealB bo (S ++ [x]) av av' := by
  induction h with
  | same h => exact .same h
  | own h => exact .own h
  | sl h1 h2 h3 h4 ih => exact .sl (at_app h1) h2 h3 ih
  | ptr h1 h2 h3 h4 h5 ih => exact .ptr (at_app h1) h2 h3 h4 ih
  | fn h1 h2 h3 h4 ih1 ih2 => exact .fn h1 ih1 h3 ih2
  | agg h1 h2 ih => exact .agg h1 ih
  | tup h1 h2 ih => exact .tup h1 ih

theorem Seals.mono {bo : Prop} {S : St} {x : Option AObj} : ∀ {us vs : List AV}, Seals bo S us vs → Seals bo (S ++ [x]) us vs
  | [], [], _ => trivial
  | [], _ :: _, h => h
  | _ :: _, [], h => h
  | _ :: _, _ :: _, h => ⟨h.1.mono, Seals.mono h.2⟩

/-- A store that is another but at some places. -/
def SameBut (ids : List Nat) (S S' : St) : Prop := S'.length = S.length ∧ ∀ k, ids.contains k = false → S'.at k = S.at k

theorem SameBut.refl (ids : List Nat) (S : St) : SameBut ids S S := ⟨rfl, fun _ _ => rfl⟩
theorem SameBut.trans {ids : List Nat} {S S1 S2 : St} (h : SameBut ids S S1) (k : SameBut ids S1 S2) : SameBut ids S S2 := ⟨k.1.trans h.1, fun i hi => (k.2 i hi).trans (h.2 i hi)⟩
theorem SameBut.set {ids : List Nat} {S : St} {id : Nat} {x : Option AObj} (h : ids.contains id = true) : SameBut ids S (S.set id x) := by
  refine ⟨by simp, fun k hk => ?_⟩
  have : id ≠ k := fun e => by rw [e, hk] at h; cases h
  simp [St.at, List.getElem?_set, this]

theorem SameBut.app {ids : List Nat} {S S' : St} {x : Option AObj} (h : SameBut ids (S ++ [x]) S') : ∃ S1 y, S' = S1 ++ [y] ∧ SameBut ids S S1 := by
  have hl : S'.length = S.length + 1 := by have := h.1; simpa using this
  have hne : S' ≠ [] := by intro e; rw [e] at hl; simp at hl
  refine ⟨S'.dropLast, S'.getLast hne, (List.dropLast_concat_getLast hne).symm, by simp [hl], fun k hk => ?_⟩
  have hk' := h.2 k hk
  by_cases hlt : k < S.length
  · have e1 : St.at (S ++ [x]) k = S.at k := by unfold St.at; rw [List.getElem?_append_left hlt]
    rw [← e1, ← hk']
    unfold St.at
    rw [List.getElem?_dropLast, if_pos (by omega)]
  · rw [St.at_ge (by omega : S.length ≤ k), St.at_ge (by simp [hl]; omega)]

section
variable {P : Program} {T : Tab P} {rows : List Nat} {ops : Array Oper} {con : Nat → CK}

theorem OutR.mono {i : Nat} {o : Oper} {a : Nat → AV} {S : St} {x : Option AObj} {out : Out} (h : OutR T rows ops con i o a S out) (hk : knd o = 0) : OutR T rows ops con i o a (S ++ [x]) out := by
  cases h with
  | val k1 k2 k3 => exact .val k1 (step2_mono k2) k3
  | skip k1 => exact .skip k1
  | new k1 k0 => omega
  | set k1 k0 => omega
  | pf k1 k2 k3 k4 k5 => exact .pf k1 k2 k3 k4 k5
  | mk k1 k2 k3 k4 k5 k6 k7 => exact .mk k1 k2 k3 k4 k5 k6.mono k7

/-- A run in an order of one's own: H tells the blocks that are met already; ids are the places that are written; pi are the operations that may come behind a write. -/
inductive QR (T : Tab P) (rows : List Nat) (ops : Array Oper) (con : Nat → CK) (pi ids : List Nat) (Post : (Nat → AV) → St → Prop) : List (Nat × Oper) → (Nat → AV) → St → (Nat → Prop) → Prop
  | nil {a : Nat → AV} {S : St} {H : Nat → Prop} : Post a S → QR T rows ops con pi ids Post [] a S H
  | one {i : Nat} {o : Oper} {l : List (Nat × Oper)} {a : Nat → AV} {S : St} {H : Nat → Prop} {v : AV} : OutR T rows ops con i o a S (.one v) → (pi.contains i = true → ∀ S', SameBut ids S S' → OutR T rows ops con i o a S' (.one v)) →
      QR T rows ops con pi ids Post l (upd a o.dst v) S H → QR T rows ops con pi ids Post ((i, o) :: l) a S H
  | new {i : Nat} {o : Oper} {l : List (Nat × Oper)} {a : Nat → AV} {S : St} {H : Nat → Prop} {v : AV} {ob : AObj} : OutR T rows ops con i o a S (.new v ob) → QR T rows ops con pi ids Post l (upd a o.dst v) (S ++ [some ob]) H → QR T rows ops con pi ids Post ((i, o) :: l) a S H
  | set {i : Nat} {o : Oper} {l : List (Nat × Oper)} {a : Nat → AV} {S : St} {H : Nat → Prop} {v : AV} {id : Nat} {ob : AObj} : OutR T rows ops con i o a S (.set v id ob) → ids.contains id = true →
      QR T rows ops con pi ids Post l (upd a o.dst v) (S.set id (some ob)) H → QR T rows ops con pi ids Post ((i, o) :: l) a S H
  | all {i : Nat} {o : Oper} {l : List (Nat × Oper)} {a : Nat → AV} {S : St} {H : Nat → Prop} {Q : AV → Prop} : OutR T rows ops con i o a S (.all Q) → (∀ r, Q r → (∀ x, OS r x → ¬ H x) → QR T rows ops con pi ids Post l (upd a o.dst r) S (fun x => H x ∨ OS r x)) →
      QR T rows ops con pi ids Post ((i, o) :: l) a S H

variable {pi ids : List Nat} {Post : (Nat → AV) → St → Prop}

theorem QR.more {l : List (Nat × Oper)} {a : Nat → AV} {S : St} {H : Nat → Prop} (h : QR T rows ops con pi ids Post l a S H) : ∀ {H' : Nat → Prop}, (∀ x, H x → H' x) → QR T rows ops con pi ids Post l a S H' := by
  induction h with
  | nil h => intro H' _; exact .nil h
  | one h1 h2 _ ih => intro H' hH; exact .one h1 h2 (ih hH)
  | new h1 _ ih => intro H' hH; exact .new h1 (ih hH)
  | set h1 h2 _ ih => intro H' hH; exact .set h1 h2 (ih hH)
  | all h1 _ ih => intro H' hH; exact .all h1 fun r hq hr => ih r hq (fun x hx hh => hr x hx (hH x hh)) (fun x hx => hx.imp (hH x) id)

theorem upd_comm {a : Nat → AV} {d e : Option Nat} {u v : AV} (h : ∀ t, d = some t → e ≠ some t) : upd (upd a d u) e v = upd (upd a e v) d u := by
  funext t
  cases d <;> cases e <;> simp only [upd]
  rename_i d e
  have : e ≠ d := fun h' => h d rfl (by rw [h'])
  split <;> split <;> simp_all

theorem upd_ne {a : Nat → AV} {d : Option Nat} {v : AV} {t : Nat} (h : ∀ e, d = some e → e ≠ t) : upd a d v t = a t := by
  cases d with
  | none => rfl
  | some d => simp only [upd]; rw [if_neg (fun e => h d rfl e.symm)]

def isCall (o : Oper) : Bool := match o.op with
  | .call _ => true
  | _ => false

/-- May two operations change places? -/
def swapOK (ops : Array Oper) (pi : List Nat) (i : Nat) (o oj : Oper) : Bool :=
  o.apart ops oj && Nat.beq (knd o) 0 && (Nat.ble (knd oj) 1 || (pi.contains i && !isCall o))

theorem callA_isCall {o : Oper} {a : Nat → AV} {x : FuncId × List AV} (h : callA o a = some x) : isCall o = true := by
  unfold callA at h
  unfold isCall
  split at h
  · rename_i c hc; rw [hc]
  · cases h

theorem QR.swap {i j : Nat} {o oj : Oper} {l : List (Nat × Oper)} {a : Nat → AV} {S : St} {H : Nat → Prop} (h : QR T rows ops con pi ids Post ((i, o) :: (j, oj) :: l) a S H)
    (hsw : swapOK ops pi i o oj = true) : QR T rows ops con pi ids Post ((j, oj) :: (i, o) :: l) a S H := by
  unfold swapOK at hsw
  simp only [Bool.and_eq_true, Bool.or_eq_true] at hsw
  obtain ⟨⟨hap, hk⟩, hkj⟩ := hsw
  have hk := Nat.eq_of_beq_eq_true hk
  obtain ⟨e1, e2, e3⟩ := Oper.apart_spec hap
  have cj : ∀ {S out} v, OutR T rows ops con j oj (upd a o.dst v) S out → OutR T rows ops con j oj a S out := fun v h => h.congr fun t ht => upd_ne fun d hd he => e1 d hd (he ▸ ht)
  have cj' : ∀ {S out} v, OutR T rows ops con j oj a S out → OutR T rows ops con j oj (upd a o.dst v) S out := fun v h => h.congr fun t ht => (upd_ne fun d hd he => e1 d hd (he ▸ ht)).symm
  have co : ∀ {S out} v, OutR T rows ops con i o a S out → OutR T rows ops con i o (upd a oj.dst v) S out := fun v h => h.congr fun t ht => (upd_ne fun d hd he => e3 d hd (he ▸ ht)).symm
  have uc : ∀ u v, upd (upd a o.dst u) oj.dst v = upd (upd a oj.dst v) o.dst u := fun u v => upd_comm e2
  cases h with
  | new h1 _ => cases h1 with | new _ k0 => omega
  | set h1 _ _ => cases h1 with | set _ k0 => omega
  | @one _ _ _ _ _ _ v h1 hst h2 =>
    cases h2 with
    | one k1 k1s k2 => exact .one (cj _ k1) (fun hp S' hS => cj _ (k1s hp S' hS)) (.one (co _ h1) (fun hp S' hS => co _ (hst hp S' hS)) (by rw [← uc]; exact k2))
    | new k1 k2 =>
      refine .new (cj _ k1) (.one ((co _ h1).mono hk) (fun hp S' hS => ?_) (by rw [← uc]; exact k2))
      obtain ⟨S1, y, rfl, hS1⟩ := hS.app
      exact (co _ (hst hp S1 hS1)).mono hk
    | all k1 k2 => exact .all (cj _ k1) fun r hq hr => .one (co _ h1) (fun hp S' hS => co _ (hst hp S' hS)) (by rw [← uc]; exact k2 r hq hr)
    | set k1 k2 k3 =>
      rcases hkj with hkj | hkj
      · cases k1 with | set _ k0 => have := Nat.le_of_ble_eq_true hkj; omega
      · refine .set (cj _ k1) k2 (.one (co _ (hst hkj.1 _ (SameBut.set k2))) (fun hp S' hS => co _ (hst hp S' ((SameBut.set k2).trans hS))) (by rw [← uc]; exact k3))
  | @all _ _ _ _ _ _ Q h1 h2 =>
    have hcall : isCall o = true := by cases h1 with | mk _ k => exact callA_isCall k
    obtain ⟨r0, hq0, hr0⟩ : ∃ r, Q r ∧ ∀ x, ¬ OS r x := by cases h1 with | mk _ _ _ _ _ _ k => exact k
    have h20 := h2 r0 hq0 fun x hx => (hr0 x hx).elim
    generalize hl : ((j, oj) :: l) = l' at h20
    cases h20 with
    | nil => cases hl
    | one k1 k1s k2 =>
      cases hl
      refine .one (cj _ k1) (fun hp S' hS => cj _ (k1s hp S' hS)) (.all (co _ h1) fun r hq hr => ?_)
      have := h2 r hq hr
      generalize hl : ((j, oj) :: l) = l' at this
      cases this with
      | nil => cases hl
      | one m1 _ m2 => cases hl; have := (cj _ k1).det (cj _ m1); cases this; rw [← uc]; exact m2
      | new m1 _ => cases hl; have := (cj _ k1).det (cj _ m1); cases this
      | set m1 _ _ => cases hl; have := (cj _ k1).det (cj _ m1); cases this
      | all m1 _ => cases hl; have := (cj _ k1).det (cj _ m1); cases this
    | new k1 k2 =>
      cases hl
      refine .new (cj _ k1) (.all ((co _ h1).mono hk) fun r hq hr => ?_)
      have := h2 r hq hr
      generalize hl : ((j, oj) :: l) = l' at this
      cases this with
      | nil => cases hl
      | one m1 _ m2 => cases hl; have := (cj _ k1).det (cj _ m1); cases this
      | new m1 m2 => cases hl; have := (cj _ k1).det (cj _ m1); cases this; rw [← uc]; exact m2
      | set m1 _ _ => cases hl; have := (cj _ k1).det (cj _ m1); cases this
      | all m1 _ => cases hl; have := (cj _ k1).det (cj _ m1); cases this
    | set k1 k2 k3 =>
      cases hl
      rcases hkj with hkj | hkj
      · cases k1 with | set _ k0 => have := Nat.le_of_ble_eq_true hkj; omega
      · rw [hcall] at hkj; exact absurd hkj.2 (by simp)
    | all k1 k2 =>
      cases hl
      refine .all (cj _ k1) fun rj hqj hrj => .all (co _ h1) fun r hq hr => ?_
      have := h2 r hq fun x hx hh => hr x hx (.inl hh)
      generalize hl : ((j, oj) :: l) = l' at this
      cases this with
      | nil => cases hl
      | one m1 _ m2 => cases hl; have := (cj _ k1).det (cj _ m1); cases this
      | new m1 m2 => cases hl; have := (cj _ k1).det (cj _ m1); cases this
      | set m1 _ _ => cases hl; have := (cj _ k1).det (cj _ m1); cases this
      | all m1 m2 =>
        cases hl
        have := (cj _ k1).det (cj _ m1)
        cases this
        rw [← uc]
        refine (m2 rj hqj fun x hx hh => ?_).more fun x hx => ?_
        · rcases hh with hh | hh
          · exact hrj x hx hh
          · exact hr x hh (.inr hx)
        · rcases hx with (hx | hx) | hx
          · exact .inl (.inl hx)
          · exact .inr hx
          · exact .inl (.inr hx)

theorem QR.front {j : Nat} {oj : Oper} {l2 : List (Nat × Oper)} : ∀ {l1 : List (Nat × Oper)} {a : Nat → AV} {S : St} {H : Nat → Prop}, QR T rows ops con pi ids Post (l1 ++ (j, oj) :: l2) a S H → (∀ x ∈ l1, swapOK ops pi x.1 x.2 oj = true) →
    QR T rows ops con pi ids Post ((j, oj) :: (l1 ++ l2)) a S H
  | [], a, S, H, h, _ => h
  | (i, o) :: l1, a, S, H, h, hs => by
    refine QR.swap ?_ (hs (i, o) (by simp))
    have ih : ∀ {a S H}, QR T rows ops con pi ids Post (l1 ++ (j, oj) :: l2) a S H → QR T rows ops con pi ids Post ((j, oj) :: (l1 ++ l2)) a S H := fun h => QR.front h fun x hx => hs x (by simp [hx])
    rw [List.cons_append] at h
    cases h with
    | one h1 h2 h3 => exact .one h1 h2 (ih h3)
    | new h1 h3 => exact .new h1 (ih h3)
    | set h1 h2 h3 => exact .set h1 h2 (ih h3)
    | all h1 h3 => exact .all h1 fun r hq hr => ih (h3 r hq hr)

/-- What is next. -/
def Next (w w' : World) (o : Oper) (a : Nat → AV) (S : St) (a' : Nat → AV) (S' : St) : Out → Prop
  | .one v => a' = upd a o.dst v ∧ S' = S
  | .new v ob => a' = upd a o.dst v ∧ S' = S ++ [some ob]
  | .set v id ob => a' = upd a o.dst v ∧ S' = S.set id (some ob)
  | .all Q => ∃ r, Q r ∧ (∀ x, OS r x → w.heap.size ≤ x ∧ x < w'.heap.size) ∧ a' = upd a o.dst r ∧ S' = S

theorem OutR.wp {m : Fr} {i : Nat} {o : Oper} {a : Nat → AV} {S : St} {out : Out} (h : OutR T rows ops con i o a S out) (hi : ops[i]? = some o) (hok : (gdOK m.n ops o && dstOK m.n o.dst) = true) {F : Nat → Prop} {φ : Nat → Nat} {w : World} {ac : Act} (hg : Good F φ S w m a ac)
    {K : Act → World → Prop} {Q' : Exit → Act → World → Prop} (hK : ∀ a' S' F' φ' w' ac', Next w w' o a S a' S' out → Good F' φ' S' w' m a' ac' → Evo φ S w φ' S' w' → Gro F w F' → K ac' w') : wpOp P ops Q' i K ac w := by
  rw [Bool.and_eq_true] at hok
  have wn : ∀ b, agd ops o a = some b → Region.wanted o (yielded ops ac.tmps) = b := fun b hb => agd_wanted hg (gdOK_spec hok.1) hb
  have hput : ∀ {F' : Nat → Prop} {φ' : Nat → Nat} {S' : St} {w' : World} {v : AV} {vv : Value}, Sim F' φ' S' w' → VR φ' S' (OO F' φ' S') w' v vv → Evo φ S w φ' S' w' → Gro F w F' → Good F' φ' S' w' m (upd a o.dst v) (ac.put o.dst vv) := by
    intro F' φ' S' w' v vv hs hv he hgr
    refine ⟨hs, ?_, ?_, ?_, fun x hx => Nat.lt_of_lt_of_le (hg.bd x hx) he.hsize⟩
    · cases hd : o.dst <;> simp [Act.put, hg.defers]
    · cases hd : o.dst <;> simp [Act.put, hg.size]
    · exact Slots.put (fun t => (hg.slots t).evo' he hgr) o.dst (fun t ht => by rw [hg.size]; exact dstOK_spec hok.2 t ht) hv
  unfold wpOp
  simp only [hi]
  have run : ∀ {v : AV} {S' : St}, agd ops o a = some true → OpR P o a S v S' → (∀ F' φ' w' ac', Good F' φ' S' w' m (upd a o.dst v) ac' → Evo φ S w φ' S' w' → Gro F w F' → K ac' w') →
      (if Region.wanted o (yielded ops ac.tmps) = true then o.wp P ac w K Q' ∨ (o.asks P ac w ∧ LetsOut Q') else K (ac.put o.dst undef) w) := by
    intro v S' hgd ho hk
    rw [if_pos (wn true hgd)]
    refine .inl ?_
    obtain ⟨res, vv, w', φ', hrun, hres, hs, hv, he⟩ := ho F φ w ac hg.sim hg.slots
    unfold Oper.wp
    rw [hrun]
    rcases hres with rfl | ⟨rfl, rfl⟩
    · exact hk F φ' w' _ (hput hs hv he (Gro.refl _ _)) he (Gro.refl _ _)
    · exact hk F φ' w' _ (hput hs hv he (Gro.refl _ _)) he (Gro.refl _ _)
  have call : ∀ {g : FuncId} {as : List AV} {Post1 : (Nat → Prop) → World → AV → St → Prop}, agd ops o a = some true → callA o a = some (g, as) → FCX P g as S Post1 →
      (∀ r S' F' φ' w' ac', Post1 F w r S' → (∀ x, OS r x → x < w'.heap.size) → Good F' φ' S' w' m (upd a o.dst r) ac' → Evo φ S w φ' S' w' → Gro F w F' → K ac' w') →
      (if Region.wanted o (yielded ops ac.tmps) = true then o.wp P ac w K Q' ∨ (o.asks P ac w ∧ LetsOut Q') else K (ac.put o.dst undef) w) := by
    intro g as Post1 hgd hc hfc hk
    obtain ⟨f, args, ts, first, caps, c1, c2, rfl⟩ := callA_ok hc
    rw [if_pos (wn true hgd)]
    refine .inl ?_
    exact callX_wp hg c1 c2 hfc fun r S' F' φ' w' v hp hs hv he hgr => hk r S' F' φ' w' _ hp (fun x hx => (VR.os hx hv).2.2) (hput hs hv he hgr) he hgr
  cases h with
  | val k1 k2 k3 =>
    have hs := step2_ok T rows o a S
    rw [k2] at hs
    exact run k1 (hs k3) fun F' φ' w' ac' h1 h2 h3 => hK _ _ F' φ' w' ac' ⟨rfl, rfl⟩ h1 h2 h3
  | skip k1 =>
    rw [if_neg (by rw [wn false k1]; simp)]
    refine hK _ _ F φ w _ ⟨rfl, rfl⟩ (hput hg.sim (.pure (.undef _)) (Evo.refl _ _ _) (Gro.refl _ _) |> fun h => ⟨h.sim, h.defers, h.size, ?_, h.bd⟩) (Evo.refl _ _ _) (Gro.refl _ _)
    exact hg.slots.put o.dst (fun t ht => by rw [hg.size]; exact dstOK_spec hok.2 t ht) (.pure (.tup rfl (fun j hj => absurd hj (Nat.not_lt_zero _))))
  | new k1 k0 k2 k3 =>
    have hs := step2_ok T rows o a S
    rw [k2] at hs
    exact run k1 (hs k3) fun F' φ' w' ac' h1 h2 h3 => hK _ _ F' φ' w' ac' ⟨rfl, rfl⟩ h1 h2 h3
  | set k1 k0 k2 k3 =>
    have hs := step2_ok T rows o a S
    rw [k2] at hs
    exact run k1 (hs k3) fun F' φ' w' ac' h1 h2 h3 => hK _ _ F' φ' w' ac' ⟨rfl, rfl⟩ h1 h2 h3
  | pf k1 k2 k3 k4 k5 =>
    have hf : FCX P _ _ S (fun _ _ r' S' => r' = _ ∧ S' = S) := k4 S
    exact call k1 k2 hf fun r S' F' φ' w' ac' ⟨h1, h2⟩ _ h3 h4 h5 => hK _ _ F' φ' w' ac' ⟨by rw [h1], h2⟩ h3 h4 h5
  | mk k1 k2 k3 k4 k5 k6 k7 =>
    exact call k1 k2 (k4.mkX k5 S k6) fun r S' F' φ' w' ac' ⟨h0, h1, h2⟩ hb h3 h4 h5 => hK _ _ F' φ' w' ac' ⟨r, h1, fun x hx => ⟨h2 x hx, hb x hx⟩, rfl, h0⟩ h3 h4 h5
end
end Go.Fw
