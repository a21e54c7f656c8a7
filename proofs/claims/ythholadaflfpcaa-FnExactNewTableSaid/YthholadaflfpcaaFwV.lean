/-
  Laws: what is read of the arguments, and the row.
-/
import Derived.Test.YthholadaflfpcaaFwU
import Derived.ProofKit
import Derived.OpenShut
import Derived.ChangeOld
import Derived.Below
import Derived.Carry
import Derived.SizedLaws
namespace Go.Fw
open Go Go.RowKit

/-- A law's call. -/
theorem FC.law {P : Program} {g : FuncId} {as : List AV} (h : FC P g as [] (fun r _ => r = .bool true)) (w : World) (vs : List Value) (hl : vs.length = as.length) (hv : ∀ j, j < as.length → VI (fun _ => False) w (as.getD j .undef) (vs.getD j undef)) :
    Calls P g vs.toArray w fun e w' => e = .returned (.bool true) ∧ Below w.heap.size w w' := by
  refine (h.2 (fun _ => False) id w vs (Sim.empty fun _ h => h.elim) ⟨hl, fun j hj => .pure ((hv j hj).sub fun b hb => (oo_nil.1 hb : False))⟩).mono ?_
  rintro e w' ⟨r, S', F', φ', v, rfl, rfl, hs, hr, he, _⟩
  rw [hr.bool_inv]
  exact ⟨rfl, he.os, he.tape, he.output, he.hsize, fun k hk => he.unch k hk (own_nil _ _)⟩

section
variable {H : Type} {enc : TypeId × Value → H} {P : Program} {w : World} {spare : Nat → Bool} {held : Bool}

/-- What is read of a type tells a thing of α, by value. -/
def Opens (enc : TypeId × Value → H) (P : Program) (w : World) (spare : Nat → Bool) (held : Bool) (t : TypeId) {α : Type} (f : α → List AV) (wf : α → Prop) : Prop :=
  ∀ fuel cs d ps, DataW.trod enc P w 0 spare held fuel t cs = some (d, ps) → ∃ x, wf x ∧ cs.length = (f x).length ∧ ∀ j, j < cs.length → VI (fun _ => False) w ((f x).getD j .undef) (cs.getD j undef)

theorem Opens.int {t : TypeId} (ht : P.underlying t = some (.int .i64)) : Opens enc P w spare held t (fun n : Int => [.int .i64 n]) in64 := by
  intro fuel cs d ps h
  cases fuel with
  | zero => simp [DataW.trod] at h
  | succ fuel =>
    unfold DataW.trod at h
    rw [ht] at h
    cases cs with
    | nil => simp at h
    | cons c cs =>
      cases cs with
      | cons c' cs => cases c <;> simp at h
      | nil =>
        cases c <;> simp at h
        rename_i k n
        obtain ⟨⟨hk, hw⟩, _⟩ := h
        subst hk
        refine ⟨n, ?_, rfl, fun j hj => ?_⟩
        · have e1 : IntKind.i64.min = -9223372036854775808 := by decide
          have e2 : IntKind.i64.max = 9223372036854775807 := by decide
          simp only [Lit.wf, Bool.and_eq_true, decide_eq_true_eq, e1, e2] at hw
          exact hw
        · have : j = 0 := by simpa using hj
          subst this
          exact .int _ _

theorem Opens.bool {t : TypeId} (ht : P.underlying t = some .bool) : Opens enc P w spare held t (fun b : Bool => [.bool b]) (fun _ => True) := by
  intro fuel cs d ps h
  cases fuel with
  | zero => simp [DataW.trod] at h
  | succ fuel =>
    unfold DataW.trod at h
    rw [ht] at h
    cases cs with
    | nil => simp at h
    | cons c cs =>
      cases cs with
      | cons c' cs => cases c <;> simp at h
      | nil =>
        cases c <;> simp at h
        rename_i b
        refine ⟨b, trivial, rfl, fun j hj => ?_⟩
        have : j = 0 := by simpa using hj
        subst this
        exact .bool _

theorem Opens.slice {t e : TypeId} {α : Type} {f : α → List AV} {wf : α → Prop} {sz : Nat} (dflt : α) (ht : P.underlying t = some (.slice e)) (hsz : P.cellsOf e = sz) (hpos : 0 < sz) (hf : ∀ x, (f x).length = sz) (ho : Opens enc P w spare held e f wf) :
    Opens enc P w spare held t (fun l : List α => [.isl sz l.length fun i => f (l.getD i dflt)]) (fun l => l.length ≤ maxLen ∧ ∀ x ∈ l, wf x) := by
  intro fuel cs d ps h
  cases fuel with
  | zero => simp [DataW.trod] at h
  | succ fuel =>
    unfold DataW.trod at h
    rw [ht] at h
    cases cs with
    | nil => simp at h
    | cons c cs =>
      cases cs with
      | cons c' cs => cases c <;> simp at h
      | nil =>
        cases c <;> simp only [reduceCtorEq] at h
        rename_i A len cap
        cases A with
        | none =>
          have hz : len = 0 ∧ cap = 0 := by
            cases len with
            | zero => cases cap with
              | zero => exact ⟨rfl, rfl⟩
              | succ cap => simp at h
            | succ len => cases cap <;> simp at h
          obtain ⟨rfl, rfl⟩ := hz
          refine ⟨[], ⟨Nat.zero_le _, fun x hx => by cases hx⟩, rfl, fun j hj => ?_⟩
          have : j = 0 := by simpa using hj
          subst this
          exact .isl (fun _ _ => undef) (Nat.zero_le _) (Nat.zero_le _) (fun h => absurd h (Nat.lt_irrefl _)) (fun i j hi => absurd hi (Nat.not_lt_zero _))
        | some a =>
          simp only at h
          split at h
          case isFalse => cases h
          rename_i hc
          obtain ⟨_, hlc, hcm⟩ := hc
          rw [Option.bind_eq_some_iff] at h
          obtain ⟨elems, hm, _⟩ := h
          have key : ∀ i, ∃ x, i < len → wf x ∧ ∀ j, j < sz → ∃ v, w.cell? ((a.add (i * sz)).add j) = some v ∧ VI (fun _ => False) w ((f x).getD j .undef) v := by
            intro i
            by_cases hi : i < len
            · have hlen := mapM_some_length hm
              simp only [List.length_range] at hlen
              have hget := mapM_some_get hm i i (by simp [hi])
              rw [List.getElem?_eq_getElem (by omega), Option.bind_eq_some_iff] at hget
              obtain ⟨ci, hci, htr⟩ := hget
              rw [hsz] at hci
              obtain ⟨_, c1, c2⟩ := World.cells?_some hci
              obtain ⟨x, x1, x2, x3⟩ := ho fuel ci (elems[i]).1 (elems[i]).2 htr
              refine ⟨x, fun _ => ⟨x1, fun j hj => ⟨ci.getD j undef, ?_, x3 j (by omega)⟩⟩⟩
              rw [c2 j hj, List.getD_eq_getElem?_getD, List.getElem?_eq_getElem (by omega)]
              rfl
            · exact ⟨dflt, fun h => absurd h hi⟩
          refine ⟨(List.range len).map fun i => Classical.choose (key i), ⟨by simp; omega, fun x hx => ?_⟩, rfl, fun j hj => ?_⟩
          · simp only [List.mem_map, List.mem_range] at hx
            obtain ⟨i, hi, rfl⟩ := hx
            exact (Classical.choose_spec (key i) hi).1
          · have : j = 0 := by simpa using hj
            subst this
            have hl : ((List.range len).map fun i => Classical.choose (key i)).length = len := by simp
            simp only [List.getD_cons_zero]
            rw [hl]
            refine .isl (fun i j => (w.cell? ((a.add (i * sz)).add j)).getD undef) hlc hcm (fun hn => ⟨a, rfl, ?_, fun i j hi hj => ⟨fun h => h, ?_⟩⟩) (fun i j hi hj => ?_)
            · obtain ⟨v, hv, _⟩ := (Classical.choose_spec (key 0) hn).2 0 hpos
              simp only [Nat.zero_mul, Addr.add, if_true] at hv
              unfold World.cell? at hv
              split at hv
              · split at hv
                · cases hv
                · rename_i hsp; cases hs : a.spot with
                  | none => rfl
                  | some _ => rw [hs] at hsp; simp at hsp
              · cases hv
            · have hg : ((List.range len).map fun i => Classical.choose (key i)).getD i dflt = Classical.choose (key i) := by simp [List.getD_eq_getElem?_getD, hi]
              rw [hg, hf] at hj
              obtain ⟨v, hv, _⟩ := (Classical.choose_spec (key i) hi).2 j hj
              rw [hv]
              have hsp : a.spot = none := by
                obtain ⟨v0, hv0, _⟩ := (Classical.choose_spec (key 0) (by omega)).2 0 hpos
                simp only [Nat.zero_mul, Addr.add, if_true] at hv0
                unfold World.cell? at hv0
                split at hv0
                · split at hv0
                  · cases hv0
                  · rename_i hsp; cases hs : a.spot with
                    | none => rfl
                    | some _ => rw [hs] at hsp; simp at hsp
                · cases hv0
              have e := addr_add a.block a.off (i * sz)
              rw [← addr_eta a hsp] at e
              rw [e, addr_add] at hv
              exact hv
            · have hg : ((List.range len).map fun i => Classical.choose (key i)).getD i dflt = Classical.choose (key i) := by simp [List.getD_eq_getElem?_getD, hi]
              rw [hg] at hj ⊢
              rw [hf] at hj
              obtain ⟨v, hv, hvi⟩ := (Classical.choose_spec (key i) hi).2 j hj
              rw [hv]
              exact hvi

/-- Fields one behind the other. -/
def OpensL (enc : TypeId × Value → H) (P : Program) (w : World) (spare : Nat → Bool) (held : Bool) (off : Nat) (fs : List Field) {α : Type} (f : α → List AV) (wf : α → Prop) : Prop :=
  ∀ (fuel : Nat) (cs : List Value) (r : List (DataW H × List MemPlace)), (fs.mapM fun f => DataW.trod enc P w 0 spare held fuel f.type ((cs.drop f.offset).take (P.cellsOf f.type))) = some r → ∃ x, wf x ∧ (∀ j, j < (f x).length → off + j < cs.length) ∧ ∀ j, j < (f x).length → VI (fun _ => False) w ((f x).getD j .undef) (cs.getD (off + j) undef)

theorem OpensL.nil {off : Nat} : OpensL enc P w spare held off [] (fun _ : Unit => []) (fun _ => True) := fun _ _ _ _ => ⟨(), trivial, fun j hj => absurd hj (Nat.not_lt_zero _), fun j hj => absurd hj (Nat.not_lt_zero _)⟩

theorem OpensL.cons {off sz : Nat} {fd : Field} {fs : List Field} {α β : Type} {f : α → List AV} {g : β → List AV} {wf : α → Prop} {wg : β → Prop} (hoff : fd.offset = off) (hsz : P.cellsOf fd.type = sz) (hf : ∀ x, (f x).length = sz) (ho : Opens enc P w spare held fd.type f wf)
    (hs : OpensL enc P w spare held (off + sz) fs g wg) : OpensL enc P w spare held off (fd :: fs) (fun x : α × β => f x.1 ++ g x.2) (fun x => wf x.1 ∧ wg x.2) := by
  intro fuel cs r h
  simp only [List.mapM_cons, Option.bind_eq_bind, Option.bind_eq_some_iff, Option.pure_def] at h
  obtain ⟨d, h1, rs, h2, _⟩ := h
  obtain ⟨x, x1, x2, x3⟩ := ho fuel _ d.1 d.2 h1
  obtain ⟨y, y1, y2, y3⟩ := hs fuel cs rs h2
  rw [hoff, hsz] at x2 x3
  have hlen : (((cs.drop off).take sz)).length = sz := by rw [x2, hf]
  have hle : ∀ j, j < sz → off + j < cs.length := by
    intro j hj
    simp only [List.length_take, List.length_drop] at hlen
    omega
  refine ⟨(x, y), ⟨x1, y1⟩, fun j hj => ?_, fun j hj => ?_⟩
  · simp only [List.length_append, hf] at hj
    by_cases h' : j < sz
    · exact hle j h'
    · have := y2 (j - sz) (by omega); omega
  · simp only [List.length_append, hf] at hj
    by_cases h' : j < sz
    · rw [getD_append_left _ _ _ _ (by rw [hf]; exact h')]
      have := x3 j (by omega)
      rw [getD_drop_take _ _ _ _ _ h'] at this
      exact this
    · rw [getD_append_right _ _ _ _ (by rw [hf]; omega), hf]
      have := y3 (j - sz) (by omega)
      rw [show off + sz + (j - sz) = off + j by omega] at this
      exact this

theorem Opens.struct {t : TypeId} {fs : Array Field} {α : Type} {f : α → List AV} {wf : α → Prop} {sz : Nat} (ht : P.underlying t = some (.struct fs)) (hsz : P.cellsOf t = sz) (hf : ∀ x, (f x).length = sz) (ho : OpensL enc P w spare held 0 fs.toList f wf) : Opens enc P w spare held t f wf := by
  intro fuel cs d ps h
  cases fuel with
  | zero => simp [DataW.trod] at h
  | succ fuel =>
    unfold DataW.trod at h
    rw [ht] at h
    have h' : (if cs.length = P.cellsOf t then (fs.toList.mapM fun f => DataW.trod enc P w 0 spare held fuel f.type ((cs.drop f.offset).take (P.cellsOf f.type))).map fun xs => (DataW.agg (xs.map (·.1)), xs.flatMap (·.2)) else none) = some (d, ps) := by
      rw [← h]
    split at h'
    · rename_i hl
      rw [Option.map_eq_some_iff] at h'
      obtain ⟨r, hr, _⟩ := h'
      obtain ⟨x, x1, x2, x3⟩ := ho fuel cs r hr
      refine ⟨x, x1, by rw [hl, hsz, hf], fun j hj => ?_⟩
      have := x3 j (by rw [hf, ← hsz, ← hl]; exact hj)
      simpa using this
    · cases h'

theorem Opens.conv {t : TypeId} {α β : Type} {f : α → List AV} {wf : α → Prop} {g : β → List AV} {wg : β → Prop} (h : α → β) (ho : Opens enc P w spare held t f wf) (hf : ∀ x, f x = g (h x)) (hw : ∀ x, wf x → wg (h x)) : Opens enc P w spare held t g wg := by
  intro fuel cs d ps ht
  obtain ⟨x, x1, x2, x3⟩ := ho fuel cs d ps ht
  exact ⟨h x, hw x x1, by rw [x2, hf], fun j hj => by rw [← hf]; exact x3 j hj⟩

/-- An argument that is a struct. -/
theorem Opens.arg {t : TypeId} {fs : Array Field} {α : Type} {f : α → List AV} {wf : α → Prop} (ho : Opens enc P w spare held t f wf) (ht : P.underlying t = some (.struct fs)) {base : Nat} {v : Value} {d : DataW H} {ps : List MemPlace} (hv : Value.okWide P w .any base t v) (h : DataW.Trod enc P w 0 spare held t v d ps) :
    ∃ x, wf x ∧ VI (fun _ => False) w (.agg (f x)) v := by
  unfold Value.okWide at hv
  rw [ht] at hv
  obtain ⟨cs, rfl, _, _⟩ := hv
  obtain ⟨fuel, h⟩ := h
  obtain ⟨x, x1, x2, x3⟩ := ho fuel _ d ps h
  have e : (Value.agg cs).cells = cs := rfl
  rw [e] at x2 x3
  refine ⟨x, x1, .agg (by simpa using x2) fun j hj => ?_⟩
  have := x3 j (by rw [x2]; exact hj)
  simpa [List.getD_eq_getElem?_getD, Array.getD_eq_getD_getElem?] using this

/-- An argument of one cell. -/
theorem Opens.arg1 {t : TypeId} {α : Type} {f : α → AV} {wf : α → Prop} (ho : Opens enc P w spare held t (fun x => [f x]) wf) {v : Value} {d : DataW H} {ps : List MemPlace} (hv : v.cells = #[v]) (h : DataW.Trod enc P w 0 spare held t v d ps) :
    ∃ x, wf x ∧ VI (fun _ => False) w (f x) v := by
  obtain ⟨fuel, h⟩ := h
  rw [hv] at h
  obtain ⟨x, x1, x2, x3⟩ := ho fuel _ d ps h
  exact ⟨x, x1, by simpa using x3 0 (by simp)⟩
end
end Go.Fw
