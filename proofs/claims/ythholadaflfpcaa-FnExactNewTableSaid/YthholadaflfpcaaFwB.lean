/-
  What the operations do to abstract values and stores.
-/
import Derived.Test.YthholadaflfpcaaFwA
import Derived.Laws.AppendOwn
import Derived.Laws.IdiomCopy
namespace Go.Fw
open Go Go.RowKit

def cval : Value → AV
  | .int k n => .int k n
  | .bool b => .bool b
  | .string s => .str s
  | .slice none 0 0 => .nsl
  | .pointer none => .nptr
  | .nilFunc => .nfn
  | _ => .undef

def aev (a : Nat → AV) : Operand → AV
  | .tmp t => a t
  | .const v => cval v
  | .func f => .fn f [] []
  | .global _ => .undef

theorem cval_VI (O : Nat → Prop) (w : World) (v : Value) : VI O w (cval v) v := by
  unfold cval
  split <;> first | exact .undef _ | exact .int _ _ | exact .bool _ | exact .str _ | exact .nsl | exact .nptr | exact .nfn

/-- Slots: what each temporary holds. -/
def Slots (φ : Nat → Nat) (S : St) (O : Nat → Prop) (w : World) (a : Nat → AV) (ac : Act) : Prop := ∀ t, VR φ S O w (a t) (ac.tmps.getD t undef)

theorem VR.eval {φ : Nat → Nat} {S : St} {O : Nat → Prop} {w : World} {a : Nat → AV} {ac : Act} (h : Slots φ S O w a ac) (x : Operand) : VR φ S O w (aev a x) (ac.eval x) := by
  cases x with
  | tmp t => exact h t
  | const v => exact .pure (cval_VI _ _ _)
  | global g => exact .pure (.undef _)
  | func f => exact .pure (.fn rfl (fun j hj => absurd hj (Nat.not_lt_zero _)) rfl (fun j hj => absurd hj (Nat.not_lt_zero _)))

def upd (a : Nat → AV) (d : Option Nat) (v : AV) : Nat → AV := match d with
  | some d => fun t => if t = d then v else a t
  | none => a

theorem Slots.put {φ : Nat → Nat} {S : St} {O : Nat → Prop} {w : World} {a : Nat → AV} {ac : Act} (h : Slots φ S O w a ac) (d : Option Nat) (hd : ∀ t, d = some t → t < ac.tmps.size) {v : AV} {vv : Value} (hv : VR φ S O w v vv) :
    Slots φ S O w (upd a d v) (ac.put d vv) := by
  intro t
  cases d with
  | none => exact h t
  | some d =>
    have hs := hd d rfl
    by_cases e : t = d
    · subst e
      simp only [upd, Act.put, if_true]
      rw [Array.getD_eq_getD_getElem?, Array.getElem?_setIfInBounds]
      simpa [hs] using hv
    · simp only [upd, Act.put, if_neg e]
      rw [Array.getD_eq_getD_getElem?, Array.getElem?_setIfInBounds, if_neg (by omega), ← Array.getD_eq_getD_getElem?]
      exact h t

theorem Slots.evo {F : Nat → Prop} {φ φ' : Nat → Nat} {S S' : St} {w w' : World} {a : Nat → AV} {ac : Act} (h : Slots φ S (OO F φ S) w a ac) (e : Evo φ S w φ' S' w') : Slots φ' S' (OO F φ' S') w' a ac :=
  fun t => (h t).evo e

/-- What an operation does that calls no function: its value and the store behind it. -/
def OpR (P : Program) (o : Oper) (a : Nat → AV) (S : St) (v : AV) (S' : St) : Prop :=
  ∀ (F : Nat → Prop) (φ : Nat → Nat) (w : World) (ac : Act), Sim F φ S w → Slots φ S (OO F φ S) w a ac →
    ∃ (res : Next) (vv : Value) (w' : World) (φ' : Nat → Nat), (execOp ac.eval o).run P w = .ok res w' ∧ (res = .value vv ∨ (res = .skip ∧ vv = undef)) ∧
      Sim F φ' S' w' ∧ VR φ' S' (OO F φ' S') w' v vv ∧ Evo φ S w φ' S' w'

/-- An operation that leaves all as it is. -/
theorem OpR.still {P : Program} {o : Oper} {a : Nat → AV} {S : St} {v : AV}
    (h : ∀ (F : Nat → Prop) (φ : Nat → Nat) (w : World) (ac : Act), Sim F φ S w → Slots φ S (OO F φ S) w a ac → ∃ vv, (execOp ac.eval o).run P w = .ok (.value vv) w ∧ VR φ S (OO F φ S) w v vv) : OpR P o a S v S := by
  intro F φ w ac hs ha
  obtain ⟨vv, hr, hv⟩ := h F φ w ac hs ha
  exact ⟨_, vv, w, φ, hr, .inl rfl, hs, hv, Evo.refl _ _ _⟩

section
variable {P : Program} {o : Oper} {a : Nat → AV} {S : St}

theorem OpR.move {x : Operand} (h : o.op = .move x) : OpR P o a S (aev a x) S :=
  OpR.still fun F φ w ac hs ha => ⟨_, by simp [execOp, h], VR.eval ha x⟩

theorem OpR.assign {x : Operand} (h : o.op = .assign x) : OpR P o a S (aev a x) S :=
  OpR.still fun F φ w ac hs ha => ⟨_, by simp [execOp, h], VR.eval ha x⟩

theorem VR.bool_inv {φ : Nat → Nat} {O : Nat → Prop} {w : World} {b : Bool} {v : Value} (h : VR φ S O w (.bool b) v) : v = .bool b := by
  cases h with | pure h => cases h; rfl
theorem VR.int_inv {φ : Nat → Nat} {O : Nat → Prop} {w : World} {k : IntKind} {n : Int} {v : Value} (h : VR φ S O w (.int k n) v) : v = .int k n := by
  cases h with | pure h => cases h; rfl

theorem OpR.pick {c x y : Operand} {b : Bool} (h : o.op = .pick c x y) (hc : aev a c = .bool b) : OpR P o a S (if b then aev a x else aev a y) S := by
  refine OpR.still fun F φ w ac hs ha => ?_
  have e := VR.eval ha c
  rw [hc] at e
  have e' := e.bool_inv
  refine ⟨if b then ac.eval x else ac.eval y, ?_, ?_⟩
  · cases b <;> simp [execOp, h, e', asBool]
  · cases b
    · exact VR.eval ha y
    · exact VR.eval ha x
end
end Go.Fw
