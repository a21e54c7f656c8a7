/-
  Addresses of fields and elements, parts of slices, closures, zero values, aggregates.
-/
import Derived.Test.YthholadaflfpcaaFwF
namespace Go.Fw
open Go Go.RowKit

/-- All that is asked of a type. -/
def TY (P : Program) (t : TypeId) (d : TypeDesc) (z : Value) (sz bytes : Nat) : Prop := P.underlying t = some d ∧ (P.info? t).map (fun i => (i.zero, i.size, i.bytes)) = some (some z, sz, bytes)

theorem TY.parts {P : Program} {t : TypeId} {d : TypeDesc} {z : Value} {sz bytes : Nat} (h : TY P t d z sz bytes) : ∃ i, P.info? t = some i ∧ i.zero = some z ∧ i.size = sz ∧ i.bytes = bytes := by
  obtain ⟨_, h⟩ := h
  cases hi : P.info? t with
  | none => rw [hi] at h; cases h
  | some i => rw [hi] at h; simp at h; exact ⟨i, rfl, h.1, h.2.1, h.2.2⟩

theorem TY.i {P : Program} {t : TypeId} {d : TypeDesc} {z : Value} {sz bytes : Nat} (h : TY P t d z sz bytes) {agg : Bool} (ha : aggD d = agg) : TyI P t sz agg := by
  obtain ⟨i, hi, _, hs, _⟩ := h.parts
  exact ⟨⟨by rw [hi]; simp [hs], by rw [h.1]; simp [ha]⟩⟩

theorem TY.sizeOf {P : Program} {t : TypeId} {d : TypeDesc} {z : Value} {sz bytes : Nat} (h : TY P t d z sz bytes) (w : World) : (sizeOf t).run P w = .ok sz w := (h.i rfl).size w

theorem TY.zero {P : Program} {t : TypeId} {d : TypeDesc} {z : Value} {sz bytes : Nat} (h : TY P t d z sz bytes) (w : World) : (zeroValue t).run P w = .ok z w := by
  obtain ⟨i, hi, hz, _, _⟩ := h.parts
  simp [zeroValue, typeInfo, hi, hz]

/-- A field's place. -/
def FA (P : Program) (s : TypeId) (f off : Nat) : Prop := ∃ fs fd k, P.underlying s = some (.struct fs) ∧ fs[f]? = some fd ∧ fd.offset = off ∧ (P.info? fd.type).map (·.size) = some (k + 1)

def zcells (z : Value) : List AV := z.cells.toList.map cval

section
variable {P : Program} {o : Oper} {a : Nat → AV} {S : St}

theorem OpR.alloc {t : TypeId} {d : TypeDesc} {z : Value} {sz bytes : Nat} (h : o.op = .alloc t) (ht : TY P t d z sz bytes) (hz : (z.cells.toList.all fun u => u.oneCell') = true) (hl : (zcells z).length = sz) :
    OpR P o a S (.ptr S.length 1 0 0) (S ++ [some ⟨t, sz, [zcells z]⟩]) := by
  refine OpR.mkVar (fun F φ w ac hs ha => ?_) hl
  refine ⟨z.cells, ?_, by simp [zcells], fun k hk => ?_⟩
  · simp only [execOp, h, Instr.alloc, Sem.run_bind, ht.zero, Result.andThen_ok, newVar, newRow, run_newObj, Sem.run_pure]
  · have hlt : k < z.cells.size := by simpa [zcells] using hk
    refine ⟨z.cells[k], by simp [hlt], ?_, ?_⟩
    · rw [List.all_eq_true] at hz
      exact hz _ (by simp)
    · have : (zcells z).getD k .undef = cval z.cells[k] := by simp [zcells, List.getD_eq_getElem?_getD, hlt]
      rw [this]
      exact .pure (cval_VI _ _ _)

theorem run_fieldAt {s : TypeId} {f off : Nat} (h : FA P s f off) (w : World) (b m : Nat) : (Instr.fieldAt s (.pointer (some ⟨b, m, none⟩)) f).run P w = .ok (.pointer (some ⟨b, m + off, none⟩)) w := by
  obtain ⟨fs, fd, k, h1, h2, rfl, h3⟩ := h
  have hsz : (sizeOf fd.type).run P w = .ok (k + 1) w := by
    cases hi : P.info? fd.type with
    | none => rw [hi] at h3; cases h3
    | some i => rw [hi] at h3; simp at h3; simp [Go.sizeOf, typeInfo, hi, h3]
  simp only [Instr.fieldAt, Sem.run_bind, run_underlying h1, Result.andThen_ok, h2, Instr.sureAddr, Sem.run_pure, fieldPlace, hsz, addr_add]
  simp

theorem OpR.fieldAddr {s : TypeId} {x : Operand} {f id n i m off : Nat} (h : o.op = .fieldAddr s x f) (hx : aev a x = .ptr id n i m) (hf : FA P s f off) (hob : ∃ ob, S.at id = some ob ∧ ob.els.length = n ∧ i < n) : OpR P o a S (.ptr id n i (m + off)) S := by
  refine OpR.still fun F φ w ac hs ha => ?_
  have ex := VR.eval ha x
  rw [hx] at ex
  obtain ⟨ob, hob, hn, hi⟩ := hob
  obtain ⟨e, _⟩ := ptr_cells hs ex hob hn.symm hi
  have hrun := run_fieldAt hf w (φ id) (i * ob.sz + m)
  refine ⟨_, by simp only [execOp, h, e, Sem.run_bind, hrun, Result.andThen_ok, Sem.run_pure]; rfl, ?_⟩
  refine .ptr rfl (St.lt_of_at hob) fun ob' hob' => ?_
  rw [hob] at hob'
  cases hob'
  exact ⟨by omega, fun _ => by rw [Nat.add_assoc]⟩

theorem OpR.fieldAddrI {s : TypeId} {x : Operand} {f off : Nat} {cells : List AV} (h : o.op = .fieldAddr s x f) (hx : aev a x = .iptr cells) (hf : FA P s f off) : OpR P o a S (.iptr (cells.drop off)) S := by
  refine OpR.still fun F φ w ac hs ha => ?_
  have ex := VR.eval ha x
  rw [hx] at ex
  cases ex with
  | pure ex =>
    generalize hv : ac.eval x = vv at ex
    cases ex with
    | @iptr _ ad vals h2 h3 h4 =>
      have hrun := run_fieldAt hf w ad.block ad.off
      rw [← addr_eta ad h2] at hrun
      refine ⟨_, by simp only [execOp, h, hv, Sem.run_bind, hrun, Result.andThen_ok, Sem.run_pure]; rfl, ?_⟩
      refine .pure (.iptr (fun j => vals (off + j)) rfl (fun hn => ?_) (fun j hj => ?_))
      · simp only [List.length_drop] at hn ⊢
        refine ⟨(h3 (by omega)).1, fun j hj => ?_⟩
        have := (h3 (by omega)).2 (off + j) (by omega)
        rw [← this, Nat.add_assoc]
      · simp only [List.length_drop] at hj
        have := h4 (off + j) (by omega)
        simpa [List.getD_eq_getElem?_getD, List.getElem?_drop] using this

theorem run_indexAt {t e : TypeId} {sz : Nat} (ht : P.underlying t = some (.slice e)) (he : (P.info? e).map (·.size) = some sz) (w : World) (b m n c : Nat) (k : IntKind) (i : Int) (h0 : 0 ≤ i) (h1 : i < n) :
    (Instr.indexAt t (.slice (some ⟨b, m, none⟩) n c) (.int k i)).run P w = .ok (.pointer (some ⟨b, m + i.toNat * sz, none⟩)) w := by
  have hsz : (sizeOf e).run P w = .ok sz w := by
    cases hi : P.info? e with
    | none => rw [hi] at he; cases he
    | some ii => rw [hi] at he; simp at he; simp [Go.sizeOf, typeInfo, hi, he]
  simp only [Instr.indexAt, asIntOf, Sem.run_bind, Sem.run_pure, Result.andThen_ok, run_underlying ht, h0, h1, and_self, if_true, hsz, addr_add]

theorem OpR.indexAddr {t e : TypeId} {x y : Operand} {id n : Nat} {k : IntKind} {i : Int} {ob : AObj} (h : o.op = .indexAddr t x y) (hx : aev a x = .sl id n) (hy : aev a y = .int k i) (ht : P.underlying t = some (.slice e)) (he : (P.info? e).map (·.size) = some ob.sz)
    (hob : S.at id = some ob) (hn : ob.els.length = n) (h0 : 0 ≤ i) (h1 : i < n) : OpR P o a S (.ptr id n i.toNat 0) S := by
  refine OpR.still fun F φ w ac hs ha => ?_
  have ex := VR.eval ha x
  have ey := VR.eval ha y
  rw [hx] at ex
  rw [hy] at ey
  have ey' := ey.int_inv
  generalize hv : ac.eval x = vv at ex
  cases ex with
  | pure ex => cases ex
  | sl hh0 hh1 hh2 =>
    obtain ⟨_, h3⟩ := hh2 ob hob
    obtain ⟨cap, rfl, h4, h5, _⟩ := (h3 hn.symm).elim (fun h => by omega) And.right
    have hrun := run_indexAt (P := P) ht he w (φ id) 0 n cap k i h0 h1
    refine ⟨_, by simp only [execOp, h, hv, ey', Sem.run_bind, hrun, Result.andThen_ok, Sem.run_pure]; rfl, ?_⟩
    refine .ptr rfl hh1 fun ob' hob' => ?_
    rw [hob] at hob'
    cases hob'
    exact ⟨by omega, fun _ => by simp⟩

theorem OpR.indexAddrI {t e : TypeId} {x y : Operand} {sz n : Nat} {get : Nat → List AV} {k : IntKind} {i : Int} (h : o.op = .indexAddr t x y) (hx : aev a x = .isl sz n get) (hy : aev a y = .int k i) (ht : P.underlying t = some (.slice e)) (he : (P.info? e).map (·.size) = some sz)
    (h0 : 0 ≤ i) (h1 : i < n) : OpR P o a S (.iptr (get i.toNat)) S := by
  refine OpR.still fun F φ w ac hs ha => ?_
  have ex := VR.eval ha x
  have ey := VR.eval ha y
  rw [hx] at ex
  rw [hy] at ey
  have ey' := ey.int_inv
  generalize hv : ac.eval x = vv at ex
  cases ex with
  | pure ex =>
    cases ex with
    | isl vals hh1 hh2 hh3 hh4 =>
      obtain ⟨ad, rfl, hsp, hc⟩ := hh3 (by omega)
      rename_i cap
      have hrun := run_indexAt (P := P) ht he w ad.block ad.off n cap k i h0 h1
      rw [← addr_eta ad hsp] at hrun
      refine ⟨_, by simp only [execOp, h, hv, ey', Sem.run_bind, hrun, Result.andThen_ok, Sem.run_pure]; rfl, ?_⟩
      have hi : i.toNat < n := by omega
      exact .pure (.iptr (vals i.toNat) rfl (fun hn => ⟨(hc i.toNat 0 hi hn).1, fun j hj => (hc i.toNat j hi hj).2⟩) (fun j hj => hh4 i.toNat j hi hj))

theorem map_aev_VR {φ : Nat → Nat} {O : Nat → Prop} {w : World} {ac : Act} (ha : Slots φ S O w a ac) (l : Array Operand) :
    (l.map ac.eval).size = (l.toList.map (aev a)).length ∧ ∀ j, j < (l.toList.map (aev a)).length → VR φ S O w ((l.toList.map (aev a)).getD j .undef) ((l.map ac.eval).getD j undef) := by
  refine ⟨by simp, fun j hj => ?_⟩
  have hlt : j < l.size := by simpa using hj
  have e1 : (l.toList.map (aev a)).getD j .undef = aev a l[j] := by simp [List.getD_eq_getElem?_getD, hlt]
  have e2 : (l.map ac.eval).getD j undef = ac.eval l[j] := by simp [Array.getD, hlt]
  rw [e1, e2]
  exact VR.eval ha _

theorem OpR.makeFunc {f : FuncId} {first caps : Array Operand} (h : o.op = .makeFunc (.func f) first caps) : OpR P o a S (.fn f (first.toList.map (aev a)) (caps.toList.map (aev a))) S := by
  refine OpR.still fun F φ w ac hs ha => ?_
  have h1 := map_aev_VR ha first
  have h2 := map_aev_VR ha caps
  exact ⟨_, by simp only [execOp, h, Instr.makeFunc, Sem.run_bind, Sem.run_pure, Result.andThen_ok], .fn h1.1 h1.2 h2.1 h2.2⟩

theorem OpR.sliceI {t e : TypeId} {x : Operand} {lo hi : Option Operand} {sz n l m : Nat} {get : Nat → List AV} (h : o.op = .slice t x lo hi none) (hx : aev a x = .isl sz n get) (ht : P.underlying t = some (.slice e)) (he : (P.info? e).map (·.size) = some sz)
    (hlo : lo = none ∧ l = 0 ∨ ∃ y k, lo = some y ∧ aev a y = .int k l) (hhi : hi = none ∧ m = n ∨ ∃ y k, hi = some y ∧ aev a y = .int k m) (hlm : l ≤ m) (hmn : m ≤ n) : OpR P o a S (.isl sz (m - l) (fun i => get (l + i))) S := by
  refine OpR.still fun F φ w ac hs ha => ?_
  have ex := VR.eval ha x
  rw [hx] at ex
  have hsz : (sizeOf e).run P w = .ok sz w := by
    cases hi : P.info? e with
    | none => rw [hi] at he; cases he
    | some ii => rw [hi] at he; simp at he; simp [Go.sizeOf, typeInfo, hi, he]
  generalize hv : ac.eval x = vv at ex
  cases ex with
  | pure ex =>
    cases ex with
    | @isl _ _ cap _ A vals hh1 hh2 hh3 hh4 =>
      have hrun : (Instr.sliceAt t (.slice A n cap) (lo.map ac.eval) (hi.map ac.eval) none).run P w = .ok (.slice (if cap = l then A else A.map (·.add (l * sz))) (m - l) (cap - l)) w := by
        have hb : (Instr.sliceBounds true n cap (lo.map ac.eval) (hi.map ac.eval) none).run P w = .ok (l, m, cap) w := by
          have hmi : m ≤ cap := by omega
          have hli : l ≤ m := hlm
          rcases hlo with ⟨rfl, rfl⟩ | ⟨y, k, rfl, hy⟩ <;> rcases hhi with ⟨rfl, rfl⟩ | ⟨y', k', rfl, hy'⟩
          · simp [Instr.sliceBounds]
          · have e' := VR.eval ha y'
            rw [hy'] at e'
            simp [Instr.sliceBounds, Instr.sliceBound, asIntOf, e'.int_inv, hmi]
          · have e' := VR.eval ha y
            rw [hy] at e'
            simp [Instr.sliceBounds, Instr.sliceBound, asIntOf, e'.int_inv, hli]
          · have e1 := VR.eval ha y
            rw [hy] at e1
            have e' := VR.eval ha y'
            rw [hy'] at e'
            simp [Instr.sliceBounds, Instr.sliceBound, asIntOf, e1.int_inv, e'.int_inv, hmi, hli]
        simp only [Instr.sliceAt, Sem.run_bind, run_underlying ht, Result.andThen_ok, Instr.slice, hb, hsz, Sem.run_pure]
      refine ⟨_, by simp only [execOp, h, hv, Option.map_none, Sem.run_bind, hrun, Result.andThen_ok, Sem.run_pure]; rfl, ?_⟩
      refine .pure (.isl (fun i j => vals (l + i) j) (by omega) (by omega) (fun hn => ?_) (fun i j hi hj => hh4 (l + i) j (by omega) hj))
      obtain ⟨ad, rfl, hsp, hc⟩ := hh3 (by omega)
      rw [if_neg (by omega)]
      have e0 : ad.add (l * sz) = ⟨ad.block, ad.off + l * sz, none⟩ := by have e1 := addr_add ad.block ad.off (l * sz); rw [← addr_eta ad hsp] at e1; exact e1
      refine ⟨ad.add (l * sz), rfl, by rw [e0], fun i j hi hj => ?_⟩
      have := hc (l + i) j (by omega) hj
      rw [e0]
      refine ⟨this.1, ?_⟩
      rw [← this.2, Nat.add_mul]
      simp [Nat.add_assoc]
end
end Go.Fw
