/-
  Operations on memory: loads, stores, addresses.
-/
import Derived.Test.YthholadaflfpcaaFwC
namespace Go.Fw
open Go Go.RowKit

def aggD : TypeDesc → Bool
  | .struct _ | .array _ _ => true
  | _ => false

/-- A type: how many cells, and whether it is an aggregate. -/
structure TyI (P : Program) (t : TypeId) (sz : Nat) (agg : Bool) : Prop where
  mk :: (out : (P.info? t).map (·.size) = some sz ∧ (P.underlying t).map aggD = some agg)

theorem TyI.size {P : Program} {t : TypeId} {sz : Nat} {agg : Bool} (h : TyI P t sz agg) (w : World) : (sizeOf t).run P w = .ok sz w := by
  obtain ⟨h1, _⟩ := h.out
  cases hi : P.info? t with
  | none => rw [hi] at h1; cases h1
  | some i => rw [hi] at h1; simp at h1; simp [sizeOf, typeInfo, hi, h1]

theorem TyI.isAgg {P : Program} {t : TypeId} {sz : Nat} {agg : Bool} (h : TyI P t sz agg) (w : World) : (isAgg t).run P w = .ok agg w := by
  obtain ⟨_, h1⟩ := h.out
  cases hi : P.underlying t with
  | none => rw [hi] at h1; cases h1
  | some d =>
    rw [hi] at h1
    simp at h1
    subst h1
    simp only [Go.isAgg, Sem.run_bind, run_underlying hi, Result.andThen_ok]
    cases d <;> rfl

theorem addr_add (b o j : Nat) : (⟨b, o, none⟩ : Addr).add j = ⟨b, o + j, none⟩ := by unfold Addr.add; split <;> simp_all

theorem addr_eta (a : Addr) (h : a.spot = none) : a = ⟨a.block, a.off, none⟩ := by cases a; simp_all

theorem cell_at {w : World} {b m : Nat} {C : Array Value} {ty : TypeId} {fr : Nat × Nat} (h : w.heap[b]? = some (Obj.cells C ty fr)) : w.cell? ⟨b, m, none⟩ = C[m]? := by
  simp [World.cell?, h]

/-- A variable is loaded, cell by cell. -/
theorem run_loadVar {P : Program} {t : TypeId} {sz : Nat} {agg : Bool} (ht : TyI P t sz agg) (h1 : agg = false → sz = 1) (w : World) (b o : Nat) (f : Nat → Value) (hc : ∀ j, j < sz → w.cell? ⟨b, o + j, none⟩ = some (f j)) :
    (loadVar t ⟨b, o, none⟩).run P w = .ok (if agg then .agg ((List.range sz).map f).toArray else f 0) w := by
  unfold loadVar
  simp only [Sem.run_bind, ht.isAgg, Result.andThen_ok]
  cases agg with
  | true =>
    simp only [if_true, Sem.run_bind, ht.size, Result.andThen_ok, Sem.run_pure]
    rw [run_loadCells w ⟨b, o, none⟩ sz f (fun j hj => by rw [addr_add]; exact hc j hj)]
    rfl
  | false =>
    have hz := h1 rfl
    subst hz
    have := hc 0 (by omega)
    simp only [Nat.add_zero] at this
    simp [this]

def ald (S : St) (sz : Nat) (agg : Bool) : AV → Option AV
  | .ptr id n i off => match S.at id with
    | some ob => if n = ob.els.length ∧ i < n ∧ off + sz ≤ ob.sz then some (if agg then .agg (((ob.els.getD i []).drop off).take sz) else (ob.els.getD i []).getD off .undef) else none
    | none => none
  | .iptr cells => if sz ≤ cells.length then some (if agg then .agg (cells.take sz) else cells.getD 0 .undef) else none
  | _ => none

theorem getD_drop_take {α : Type} (l : List α) (o n j : Nat) (d : α) (hj : j < n) : ((l.drop o).take n).getD j d = l.getD (o + j) d := by
  simp [List.getD_eq_getElem?_getD, hj, List.getElem?_drop]

theorem mul_lt {i n sz k : Nat} (hi : i < n) (hk : k < sz) : i * sz + k < n * sz := by
  have : (i + 1) * sz ≤ n * sz := Nat.mul_le_mul_right _ hi
  rw [Nat.add_mul] at this
  omega

section
variable {P : Program} {o : Oper} {a : Nat → AV} {S : St}

/-- The pointer of an owned variable, and its cells. -/
theorem ptr_cells {F : Nat → Prop} {φ : Nat → Nat} {w : World} {id n i off : Nat} {v : Value} {ob : AObj} (hs : Sim F φ S w) (h : VR φ S (OO F φ S) w (.ptr id n i off) v) (hob : S.at id = some ob) (hn : n = ob.els.length) (hi : i < n) :
    v = .pointer (some ⟨φ id, i * ob.sz + off, none⟩) ∧ ∀ k, off + k < ob.sz → ∃ u, w.cell? ⟨φ id, i * ob.sz + off + k, none⟩ = some u ∧ u.oneCell' = true ∧ VR φ S (OO F φ S) w ((ob.els.getD i []).getD (off + k) .undef) u := by
  cases h with
  | pure h => cases h
  | ptr h0 h1 h2 =>
    refine ⟨(h2 ob hob).2 hn, fun k hk => ?_⟩
    obtain ⟨C, hC, hsz, hcs⟩ := hs.obj id ob hob (by intro e; rw [e] at hn; simp at hn; omega)
    obtain ⟨u, hu, hone, hv⟩ := (hcs i (off + k) (by omega)).2 hk
    exact ⟨u, by rw [cell_at hC, Nat.add_assoc]; exact hu, hone, hv⟩

theorem load_at {F : Nat → Prop} {φ : Nat → Nat} {w : World} {t : TypeId} {p v : AV} {pv : Value} {sz : Nat} {agg : Bool} (hs : Sim F φ S w) (ex : VR φ S (OO F φ S) w p pv) (ht : TyI P t sz agg) (h1 : agg = false → sz = 1) (hl : ald S sz agg p = some v) :
    ∃ ad u, pv = .pointer (some ad) ∧ (loadVar t ad).run P w = .ok u w ∧ VR φ S (OO F φ S) w v u := by
  cases p with
  | ptr id n i off =>
    simp only [ald] at hl
    split at hl
    case h_2 => cases hl
    rename_i ob hob
    split at hl
    case isFalse => cases hl
    rename_i hc
    obtain ⟨hn, hi, hoff⟩ := hc
    obtain ⟨e, hcell⟩ := ptr_cells hs ex hob hn hi
    have hch : ∃ f : Nat → Value, ∀ k, k < sz → w.cell? ⟨φ id, i * ob.sz + off + k, none⟩ = some (f k) ∧ VR φ S (OO F φ S) w ((ob.els.getD i []).getD (off + k) .undef) (f k) := by
      refine ⟨fun k => (w.cell? ⟨φ id, i * ob.sz + off + k, none⟩).getD undef, fun k hk => ?_⟩
      obtain ⟨u, hu, _, hv⟩ := hcell k (by omega)
      simp only [hu, Option.getD_some]
      exact ⟨trivial, hv⟩
    obtain ⟨f, hf⟩ := hch
    have hrun := run_loadVar ht h1 w (φ id) (i * ob.sz + off) f (fun j hj => (hf j hj).1)
    refine ⟨_, _, e, hrun, ?_⟩
    simp only [Option.some.injEq] at hl
    subst hl
    cases agg with
    | false => have hz := h1 rfl; subst hz; simpa using (hf 0 (by omega)).2
    | true =>
      have hlen : sz ≤ (ob.els.getD i []).length - off := by
        obtain ⟨C, hC, hsz, hcs⟩ := hs.obj id ob hob (by intro e; rw [e] at hn; simp at hn; omega)
        have := (hcs i 0 (by omega)).1
        omega
      refine .agg (by simp only [List.size_toArray, List.length_map, List.length_range, List.length_take, List.length_drop]; omega) fun j hj => ?_
      simp only [List.length_take, List.length_drop] at hj
      rw [getD_drop_take _ _ _ _ _ (by omega)]
      have := (hf j (by omega)).2
      simpa [show j < sz by omega] using this
  | iptr cells =>
    simp only [ald] at hl
    split at hl
    case isFalse => cases hl
    rename_i hc
    simp only [Option.some.injEq] at hl
    cases ex with
    | pure ex =>
      cases ex with
      | @iptr _ ad vals h2 h3 h4 =>
        have hcell : ∀ j, j < sz → w.cell? ⟨ad.block, ad.off + j, none⟩ = some (vals j) := fun j hj => (h3 (by omega)).2 j (by omega)
        have hrun := run_loadVar ht h1 w ad.block ad.off vals hcell
        rw [← addr_eta ad h2] at hrun
        refine ⟨_, _, rfl, hrun, ?_⟩
        subst hl
        cases agg with
        | false => have hz := h1 rfl; subst hz; exact .pure (h4 0 (by omega))
        | true =>
          refine .pure (.agg (by simp; omega) fun j hj => ?_)
          simp only [List.length_take] at hj
          have := h4 j (by omega)
          simp only [List.getD_eq_getElem?_getD, List.getElem?_take, show j < sz by omega, if_true] at this ⊢
          simpa [show j < sz by omega] using this
  | _ => simp [ald] at hl

theorem OpR.load {t : TypeId} {x : Operand} {p v : AV} {sz : Nat} {agg : Bool} (h : o.op = .load t x) (hx : aev a x = p) (ht : TyI P t sz agg) (h1 : agg = false → sz = 1) (hl : ald S sz agg p = some v) : OpR P o a S v S := by
  refine OpR.still fun F φ w ac hs ha => ?_
  have ex := VR.eval ha x
  rw [hx] at ex
  obtain ⟨ad, u, e, hrun, hv⟩ := load_at hs ex ht h1 hl
  exact ⟨u, by simp only [execOp, h, e, Instr.loadAt, Instr.sureAddr, Sem.run_bind, Sem.run_pure, Result.andThen_ok, hrun], hv⟩

end
end Go.Fw
