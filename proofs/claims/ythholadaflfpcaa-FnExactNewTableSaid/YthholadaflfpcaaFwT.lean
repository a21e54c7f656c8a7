/-
  Regions whose order is drawn: run by computing.
-/
import Derived.Test.YthholadaflfpcaaFwS
namespace Go.Fw
open Go Go.RowKit

def pureOp (o : Oper) : Bool := match o.op with
  | .move _ | .assign _ | .pick .. | .extract .. | .binOp .. | .unOp .. | .build .. | .convert .. | .makeFunc .. => true
  | _ => false

section
variable {P : Program} {T : Tab P} {rows : List Nat} {ops : Array Oper} {con : Nat → CK} {pi ids : List Nat} {Post : (Nat → AV) → St → Prop} {o : Oper} {a : Nat → AV} {S S' : St}

theorem step2_pure (h : pureOp o = true) : step2 T rows o a S' = step2 T rows o a S := by
  unfold pureOp at h
  unfold step2
  cases ho : o.op <;> simp only [ho] at h ⊢ <;> first | rfl | (cases h; done) | skip
  case unOp u t x => cases u <;> rfl
  case makeFunc f us cs => cases f <;> rfl

/-- Does an operation tell the same behind writes? -/
def stabOK (ids : List Nat) (o : Oper) (a : Nat → AV) : Bool := match pureOp o with
  | true => true
  | false => match o.op with
    | .fieldAddr _ x _ => match aev a x with
      | .ptr id _ _ _ => !ids.contains id
      | .iptr _ => true
      | _ => false
    | _ => false

theorem stab_ok {p : Option Prop} {v : AV} (h : stabOK ids o a = true) (hs : step2 T rows o a S = .val p v) (hS : SameBut ids S S') : step2 T rows o a S' = .val p v := by
  unfold stabOK at h
  split at h
  · rename_i hp; rw [step2_pure hp]; exact hs
  · split at h
    · rename_i t x f ho
      unfold step2 at hs ⊢
      simp only [ho] at hs ⊢
      split at h
      · rename_i id n j m hx
        have hat : S'.at id = S.at id := hS.2 id (by simpa using h)
        rw [hx] at hs ⊢
        cases hi : T.at_ t with
        | none => rw [hi] at hs; exact hs
        | some ti =>
          simp only [hi] at hs ⊢
          cases hf : ti.offs[f]? with
          | none => rw [hf] at hs; exact hs
          | some of => simp only [hf, hat] at hs ⊢; exact hs
      · rename_i cells hx
        rw [hx] at hs ⊢
        cases hi : T.at_ t with
        | none => rw [hi] at hs; exact hs
        | some ti =>
          simp only [hi] at hs ⊢
          cases hf : ti.offs[f]? with
          | none => rw [hf] at hs; exact hs
          | some of => simp only [hf] at hs ⊢; exact hs
      · cases h
    · cases h

structure RQ where
  l : List (Nat × Oper)
  a : Nat → AV
  S : St
  p : Option Prop

def runQ (T : Tab P) (rows : List Nat) (ops : Array Oper) (pi ids : List Nat) : Nat → List (Nat × Oper) → (Nat → AV) → St → Option Prop → RQ
  | 0, l, a, S, q => ⟨l, a, S, q⟩
  | _ + 1, [], a, S, q => ⟨[], a, S, q⟩
  | k + 1, (i, o) :: rest, a, S, q => match agd ops o a with
    | some true => match step2 T rows o a S with
      | .no => ⟨(i, o) :: rest, a, S, q⟩
      | .val p v => match !pi.contains i || stabOK ids o a with
        | true => f2 v fun v => fD o.dst fun d => runQ T rows ops pi ids k rest (upd a d v) S (oand q p)
        | false => ⟨(i, o) :: rest, a, S, q⟩
      | .new p row v ob => match Nat.ble 1 (knd o) with
        | true => f2 v fun v => fD o.dst fun d => fOb row ob fun ob => spush S ob fun S => runQ T rows ops pi ids k rest (upd a d v) S (oand q p)
        | false => ⟨(i, o) :: rest, a, S, q⟩
      | .set p row v id ob => match Nat.beq (knd o) 2 && ids.contains id with
        | true => f2 v fun v => fD o.dst fun d => fOb row ob fun ob => sset S id ob fun S => runQ T rows ops pi ids k rest (upd a d v) S (oand q p)
        | false => ⟨(i, o) :: rest, a, S, q⟩
    | some false => fD o.dst fun d => runQ T rows ops pi ids k rest (upd a d (.tup [])) S q
    | none => ⟨(i, o) :: rest, a, S, q⟩

theorem runQ_ok : ∀ (k : Nat) (l : List (Nat × Oper)) (a : Nat → AV) (S : St) (q : Option Prop) (r : RQ), runQ T rows ops pi ids k l a S q = r → oprop r.p → oprop q ∧ ∀ H, QR T rows ops con pi ids Post r.l r.a r.S H → QR T rows ops con pi ids Post l a S H
  | 0, l, a, S, q, r, h, hp => by subst h; exact ⟨hp, fun _ h => h⟩
  | _ + 1, [], a, S, q, r, h, hp => by subst h; exact ⟨hp, fun _ h => h⟩
  | k + 1, (i, o) :: rest, a, S, q, r, h, hp => by
    unfold runQ at h
    split at h
    · rename_i hgd
      split at h
      · subst h; exact ⟨hp, fun _ h => h⟩
      · rename_i p v he
        split at h
        · rename_i hst
          simp only [f2_eq, fD_eq] at h
          obtain ⟨h1, h2⟩ := runQ_ok k _ _ _ _ r h hp
          obtain ⟨h3, h4⟩ := oand_ok h1
          refine ⟨h3, fun H hr => QR.one (.val hgd he h4) (fun hpi S' hS => ?_) (h2 H hr)⟩
          rw [hpi] at hst
          exact .val hgd (stab_ok (by simpa using hst) he hS) h4
        · subst h; exact ⟨hp, fun _ h => h⟩
      · rename_i p row v ob he
        split at h
        · rename_i hk
          simp only [f2_eq, fD_eq, fOb_eq, spush_eq] at h
          obtain ⟨h1, h2⟩ := runQ_ok k _ _ _ _ r h hp
          obtain ⟨h3, h4⟩ := oand_ok h1
          exact ⟨h3, fun H hr => QR.new (.new hgd (Nat.le_of_ble_eq_true hk) he h4) (h2 H hr)⟩
        · subst h; exact ⟨hp, fun _ h => h⟩
      · rename_i p row v id ob he
        split at h
        · rename_i hk
          rw [Bool.and_eq_true] at hk
          simp only [f2_eq, fD_eq, fOb_eq, sset_eq] at h
          obtain ⟨h1, h2⟩ := runQ_ok k _ _ _ _ r h hp
          obtain ⟨h3, h4⟩ := oand_ok h1
          exact ⟨h3, fun H hr => QR.set (.set hgd (Nat.eq_of_beq_eq_true hk.1) he h4) hk.2 (h2 H hr)⟩
        · subst h; exact ⟨hp, fun _ h => h⟩
    · rename_i hgd
      simp only [fD_eq] at h
      obtain ⟨h1, h2⟩ := runQ_ok k _ _ _ _ r h hp
      exact ⟨h1, fun H hr => QR.one (.skip hgd) (fun _ S' _ => .skip hgd) (h2 H hr)⟩
    · subst h; exact ⟨hp, fun _ h => h⟩

variable {a' : Nat → AV} {l l' : List (Nat × Oper)} {H : Nat → Prop} {i : Nat} {d : Option Nat} {g : FuncId} {as as' : List AV}

theorem QR.go (k : Nat) (h : runQ T rows ops pi ids k l a S none = ⟨l', a', S', none⟩) (hr : QR T rows ops con pi ids Post l' a' S' H) : QR T rows ops con pi ids Post l a S H :=
  (runQ_ok k l a S none _ h trivial).2 H hr

theorem QR.ask (k : Nat) {p : Prop} (h : runQ T rows ops pi ids k l a S none = ⟨l', a', S', some p⟩) (hp : p) (hr : QR T rows ops con pi ids Post l' a' S' H) : QR T rows ops con pi ids Post l a S H :=
  (runQ_ok k l a S none _ h hp).2 H hr

/-- A call of a pure function. -/
theorem QR.pfc {r : AV} (h : callA o a = some (g, as)) (hd : o.dst = d) (hp : PF P g as r) (hs : (pv r && as.all pv) = true) (hr : QR T rows ops con pi ids Post l (upd a d r) S H) (hc : con i = .pf r := by rfl) (hgd : agd ops o a = some true := by rfl) : QR T rows ops con pi ids Post ((i, o) :: l) a S H := by
  subst hd
  rw [Bool.and_eq_true] at hs
  exact .one (.pf hgd h hc (fun S => hp.fc S hs.2 hs.1) trivial) (fun _ _ _ => .pf hgd h hc (fun S => hp.fc S hs.2 hs.1) trivial) hr

/-- A Bool in a slot is told apart. -/
theorem QR.split {l : List (Nat × Oper)} {b : Bool} (d : Nat) (ha : a d = .bool b) (h : ∀ b', b = b' → QR T rows ops con pi ids Post l (upd a (some d) (.bool b')) S H) : QR T rows ops con pi ids Post l a S H := by
  have := h b rfl
  have e : upd a (some d) (.bool b) = a := by funext t; simp only [upd]; split <;> simp_all
  rw [e] at this
  exact this

/-- A call of a pure function with what owned objects tell. -/
theorem QR.pfbc {r : AV} (h : callA o a = some (g, as)) (hd : o.dst = d) (hp : PF P g as' r) (hs : Seals True S as as') (hsc : scal0 r = true) (hr : QR T rows ops con pi ids Post l (upd a d r) S H) (hc : con i = .mk as' (fun r' => r' = r) := by rfl) (hgd : agd ops o a = some true := by rfl) : QR T rows ops con pi ids Post ((i, o) :: l) a S H := by
  subst hd
  have hno : ∀ x, ¬ OS r x := by intro x hx; cases hx <;> simp [scal0] at hsc
  refine .all (.mk hgd h hc (hp.mono fun r' S' h => ⟨h.2, h.1⟩) (fun r' e => ?_) hs ⟨r, rfl, hno⟩) fun r' e _ => ?_
  · rw [e]; revert hsc; cases r <;> simp [scal0, Fw.mk, mk1, mk0]
  · rw [e]; exact hr.more fun x hx => .inl hx

/-- Something can be made that owns nothing. -/
def mkb0 : AV → Bool
  | .isl .. => true
  | v => scal0 v
def mkb1 : AV → Bool
  | .agg bs => bs.all mkb0
  | v => mkb0 v
def mkb : AV → Bool
  | .tup bs => bs.all mkb1
  | v => mkb1 v

theorem Made0.ex {b : AV} (h : mkb0 b = true) : ∃ r, Made0 r b ∧ ∀ x, ¬ OS r x := by
  cases b with
  | isl sz n get => exact ⟨.own ⟨fun _ => False, undef⟩ (.isl sz n get), ⟨_, rfl⟩, fun x hx => by cases hx with | own h => exact h⟩
  | _ => first
    | (simp [mkb0, scal0] at h; done)
    | exact ⟨_, ⟨rfl, h⟩, fun x hx => by cases hx⟩

theorem MadeL.ex {R : AV → AV → Prop} {f : AV → Bool} (hR : ∀ b, f b = true → ∃ r, R r b ∧ ∀ x, ¬ OS r x) : ∀ {bs : List AV}, bs.all f = true → ∃ rs, MadeL R rs bs ∧ ∀ x, ¬ OS (.agg rs) x ∧ ¬ OS (.tup rs) x
  | [], _ => ⟨[], trivial, fun x => ⟨fun h => by cases h with | agg hj _ => exact absurd hj (Nat.not_lt_zero _), fun h => by cases h with | tup hj _ => exact absurd hj (Nat.not_lt_zero _)⟩⟩
  | b :: bs, h => by
    simp only [List.all_cons, Bool.and_eq_true] at h
    obtain ⟨r, h1, h2⟩ := hR b h.1
    obtain ⟨rs, h3, h4⟩ := MadeL.ex hR h.2
    refine ⟨r :: rs, ⟨h1, fun x hx => (h2 x hx).elim, h3⟩, fun x => ⟨fun hx => ?_, fun hx => ?_⟩⟩
    · rcases os_cons hx with hx | hx
      · exact h2 x hx
      · exact (h4 x).1 hx
    · cases hx with
      | @tup _ j _ hj hx =>
        cases j with
        | zero => exact h2 x hx
        | succ j => exact (h4 x).2 (.tup (by simpa using hj) (by simpa using hx))

theorem Made1.ex {b : AV} (h : mkb1 b = true) : ∃ r, Made1 r b ∧ ∀ x, ¬ OS r x := by
  cases b with
  | agg bs =>
    obtain ⟨rs, h1, h2⟩ := MadeL.ex (fun b => Made0.ex) h
    exact ⟨.agg rs, ⟨rs, rfl, h1⟩, fun x => (h2 x).1⟩
  | _ => (obtain ⟨r, h1, h2⟩ := Made0.ex (by simpa only [mkb1] using h); exact ⟨r, h1, h2⟩)

theorem Made.ex {b : AV} (h : mkb b = true) : ∃ r, Made r b ∧ ∀ x, ¬ OS r x := by
  cases b with
  | tup bs =>
    obtain ⟨rs, h1, h2⟩ := MadeL.ex (fun b => Made1.ex) h
    exact ⟨.tup rs, ⟨rs, rfl, h1⟩, fun x => (h2 x).2⟩
  | _ => (obtain ⟨r, h1, h2⟩ := Made1.ex (by simpa only [mkb] using h); exact ⟨r, h1, h2⟩)

/-- A call of a maker. -/
theorem QR.mfc {b : AV} (h : callA o a = some (g, as)) (hd : o.dst = d) (hc : MF P g as' b) (hs : Seals True S as as') (hb : mkb b = true) (hr : ∀ r, Made r b → (∀ x, OS r x → ¬ H x) → QR T rows ops con pi ids Post l (upd a d r) S (fun x => H x ∨ OS r x)) (hcon : con i = .mk as' (fun r => Made r b) := by rfl) (hgd : agd ops o a = some true := by rfl) :
    QR T rows ops con pi ids Post ((i, o) :: l) a S H := by
  subst hd
  exact .all (.mk hgd h hcon hc (fun r h => h.mk) hs (Made.ex hb)) hr
end
end Go.Fw
