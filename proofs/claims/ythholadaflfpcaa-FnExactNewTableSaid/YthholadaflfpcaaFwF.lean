/-
  Stores, new variables, addresses of parts.
-/
import Derived.Test.YthholadaflfpcaaFwE
namespace Go.Fw
open Go Go.RowKit

def leaf : AV → Bool
  | .undef | .agg _ | .tup _ => false
  | .own _ (.isl ..) => true
  | .own .. => false
  | _ => true

def acells : AV → List AV
  | .agg cs => cs
  | v => [v]

theorem VI.one {O : Nat → Prop} {w : World} {av : AV} {v : Value} (h : VI O w av v) (hl : leaf av = true) : v.oneCell' = true := by
  cases h <;> first | rfl | (simp [leaf] at hl)
theorem VR.one {φ : Nat → Nat} {S : St} {O : Nat → Prop} {w : World} {av : AV} {v : Value} (h : VR φ S O w av v) (hl : leaf av = true) : v.oneCell' = true := by
  cases h with
  | pure h => exact h.one hl
  | sl h => exact h
  | ptr h => exact h
  | win h => exact h
  | fn => rfl
  | agg => simp [leaf] at hl
  | tup => simp [leaf] at hl
  | @own I b v h1 h2 h3 h4 =>
    revert h3
    generalize I.bl = J
    intro h3
    cases h3 <;> first | rfl | (simp [leaf] at hl)

theorem cells_one {v : Value} (h : v.oneCell' = true) : v.cells = #[v] := by cases v <;> first | rfl | (simp [Value.oneCell'] at h)

/-- A value's cells. -/
theorem VR.cells {φ : Nat → Nat} {S : St} {O : Nat → Prop} {w : World} {av : AV} {v : Value} (h : VR φ S O w av v) (hl : (acells av).all leaf = true) :
    v.cells.size = (acells av).length ∧ ∀ k, k < (acells av).length → ∃ u, v.cells[k]? = some u ∧ u.oneCell' = true ∧ VR φ S O w ((acells av).getD k .undef) u := by
  have key : (∃ cs, av = .agg cs) ∨ acells av = [av] := by cases av <;> first | exact .inr rfl | exact .inl ⟨_, rfl⟩
  rcases key with ⟨cs, rfl⟩ | e
  · have hh : ∃ vs : Array Value, v = .agg vs ∧ vs.size = cs.length ∧ ∀ j, j < cs.length → VR φ S O w (cs.getD j .undef) (vs.getD j undef) := by
      cases h with
      | pure h => cases h with | agg h1 h2 => exact ⟨_, rfl, h1, fun j hj => .pure (h2 j hj)⟩
      | agg h1 h2 => exact ⟨_, rfl, h1, h2⟩
    obtain ⟨vs, rfl, h1, h2⟩ := hh
    refine ⟨h1, fun k hk => ?_⟩
    simp only [acells] at hk hl ⊢
    have hlt : k < vs.size := by omega
    have hv := h2 k hk
    refine ⟨vs.getD k undef, by simp [Value.cells, Array.getElem?_eq_getElem hlt, Array.getD, hlt], hv.one ?_, hv⟩
    rw [List.all_eq_true] at hl
    refine hl _ ?_
    rw [List.getD_eq_getElem?_getD, List.getElem?_eq_getElem hk]
    exact List.getElem_mem hk
  · rw [e] at hl ⊢
    have h1 : v.oneCell' = true := h.one (by simpa using hl)
    refine ⟨by rw [cells_one h1]; rfl, fun k hk => ?_⟩
    obtain rfl : k = 0 := by simp at hk; exact hk
    exact ⟨v, by rw [cells_one h1]; rfl, h1, h⟩

def splice (l : List AV) (o : Nat) (cs : List AV) : List AV := l.take o ++ cs ++ l.drop (o + cs.length)

theorem splice_length (l : List AV) (o : Nat) (cs : List AV) (h : o + cs.length ≤ l.length) : (splice l o cs).length = l.length := by
  simp [splice]; omega

theorem splice_getD (l : List AV) (o : Nat) (cs : List AV) (h : o + cs.length ≤ l.length) (k : Nat) (d : AV) : (splice l o cs).getD k d = if o ≤ k ∧ k < o + cs.length then cs.getD (k - o) d else l.getD k d := by
  simp only [splice, List.getD_eq_getElem?_getD, List.append_assoc, List.getElem?_append, List.length_take, List.getElem?_take, List.getElem?_drop]
  by_cases h1 : k < o
  · rw [if_pos (by omega), if_pos h1, if_neg (by omega)]
  · rw [if_neg (by omega)]
    by_cases h2 : k < o + cs.length
    · rw [if_pos (by omega), if_pos (by omega)]; congr 2; omega
    · rw [if_neg (by omega), if_neg (by omega)]; congr 2; omega

section
variable {P : Program} {o : Oper} {a : Nat → AV} {S : St}

theorem run_storeVar {t : TypeId} {sz : Nat} {agg : Bool} (ht : TyI P t sz agg) (w : World) (g m : Nat) (e : TypeId) (C : Array Value) (v : Value) (hC : w.heap[g]? = some (Obj.cells C e (0, 0))) (hsz : v.cells.size = sz) (hfit : m + sz ≤ C.size) (h1 : ∀ u ∈ v.cells.toList, u.oneCell' = true) :
    (storeVar t ⟨g, m, none⟩ v).run P w = .ok () (w.setRow g (C.toList.take m ++ v.cells.toList ++ C.toList.drop (m + sz)).toArray) := by
  unfold storeVar
  have := run_storeCells_at P g m e v.cells.toList 0 C w hC (by simp; omega) h1
  simp only [Nat.add_zero, Array.length_toList, hsz] at this
  simp [ht.size, hsz, this]

theorem OpR.store {t : TypeId} {x y : Operand} {id n i off sz : Nat} {agg : Bool} {v : AV} {ob : AObj} (h : o.op = .store t x y) (hx : aev a x = .ptr id n i off) (hy : aev a y = v) (ht : TyI P t sz agg)
    (hob : S.at id = some ob) (hn : n = ob.els.length) (hi : i < n) (hoff : off + sz ≤ ob.sz) (hl : (acells v).length = sz) (hlf : (acells v).all leaf = true) :
    OpR P o a S .undef (S.set id (some { ob with els := ob.els.set i (splice (ob.els.getD i []) off (acells v)) })) := by
  intro F φ w ac hs ha
  have ex := VR.eval ha x
  have ey := VR.eval ha y
  rw [hx] at ex
  rw [hy] at ey
  obtain ⟨e, _⟩ := ptr_cells hs ex hob hn hi
  obtain ⟨hvs, hvc⟩ := ey.cells hlf
  have hne : ob.els ≠ [] := by intro e; rw [e] at hn; simp at hn; omega
  obtain ⟨C, hC, hCs, hcs⟩ := hs.obj id ob hob hne
  have hmul := mul_lt (i := i) (n := ob.els.length) (sz := ob.sz) (k := 0) (by omega)
  have hfit : i * ob.sz + off + sz ≤ C.size := by
    have : (i + 1) * ob.sz ≤ ob.els.length * ob.sz := Nat.mul_le_mul_right _ (by omega)
    rw [Nat.add_mul] at this
    omega
  have h1 : ∀ u ∈ (ac.eval y).cells.toList, u.oneCell' = true := by
    intro u hu
    obtain ⟨k, hk, rfl⟩ := List.getElem_of_mem hu
    obtain ⟨u', hu', ho, _⟩ := hvc k (by simpa [hvs] using hk)
    have : (ac.eval y).cells[k]? = some (ac.eval y).cells.toList[k] := by simp at hk; simp [hk]
    rw [this] at hu'
    cases hu'
    exact ho
  have hrun := run_storeVar ht w (φ id) (i * ob.sz + off) ob.ty C (ac.eval y) hC (by omega) hfit h1
  refine ⟨.skip, undef, _, phi φ id (φ id), by simp only [execOp, h, e, Instr.storeAt, Instr.sureAddr, Sem.run_bind, Sem.run_pure, Result.andThen_ok, hrun]; rfl, .inr ⟨rfl, rfl⟩, ?_⟩
  have hidl := St.lt_of_at hob
  have hel : (ob.els.getD i []).length = ob.sz := (hcs i 0 (by omega)).1
  have hspl := splice_length (ob.els.getD i []) off (acells v) (by omega)
  have key := hs.put id (φ id) { ob with els := ob.els.set i (splice (ob.els.getD i []) off (acells v)) } _ (w' := w.setRow (φ id) (C.toList.take (i * ob.sz + off) ++ (ac.eval y).cells.toList ++ C.toList.drop (i * ob.sz + off + sz)).toArray)
    (St.ok_set hidl _) (.inr ⟨ob, hob, rfl, rfl, by simp, fun _ => rfl⟩)
    (.inl ⟨rfl, ⟨ob, hob, hne⟩, fun C0 ty fr h0 => by
      rw [hC] at h0; cases h0
      simp [hvs, hl]; omega⟩) rfl rfl rfl (by simp) (fun k _ hk => setRow_other w (φ id) k _ hk) (setRow_heap w (φ id) C _ ob.ty (0, 0) hC)
    (by simp [hvs, hl]; omega)
    (fun j k hj => by
      dsimp only at hj ⊢
      simp only [List.length_set] at hj
      by_cases e : j = i
      · subst e
        have hg : (ob.els.set j (splice (ob.els.getD j []) off (acells v))).getD j [] = splice (ob.els.getD j []) off (acells v) := by simp [List.getD_eq_getElem?_getD, hj]
        refine ⟨by rw [hg, hspl, hel], fun hk => ?_⟩
        rw [hg, splice_getD _ _ _ (by omega)]
        by_cases hin : off ≤ k ∧ k < off + (acells v).length
        · rw [if_pos hin]
          obtain ⟨u, hu, ho, hv⟩ := hvc (k - off) (by omega)
          refine ⟨u, ?_, ho, hv⟩
          rw [← hu]
          simp only [List.getElem?_toArray, List.append_assoc, List.getElem?_append, List.length_take, Array.length_toList]
          rw [if_neg (by omega), if_pos (by omega)]
          simp only [Array.getElem?_toList]
          congr 1
          omega
        · rw [if_neg hin]
          obtain ⟨u, hu, ho, hv⟩ := (hcs j k hj).2 hk
          refine ⟨u, ?_, ho, hv⟩
          rw [← hu]
          simp only [List.getElem?_toArray, List.append_assoc, List.getElem?_append, List.length_take, Array.length_toList, List.getElem?_take, List.getElem?_drop]
          by_cases hlt : k < off
          · rw [if_pos (by omega), if_pos (by omega)]; simp
          · rw [if_neg (by omega), if_neg (by omega)]
            simp only [Array.getElem?_toList]
            congr 1
            omega
      · have hg : (ob.els.set i (splice (ob.els.getD i []) off (acells v))).getD j [] = ob.els.getD j [] := by simp [List.getD_eq_getElem?_getD, List.getElem?_set, Ne.symm e]
        refine ⟨by rw [hg]; exact (hcs j k hj).1, fun hk => ?_⟩
        rw [hg]
        obtain ⟨u, hu, ho, hv⟩ := (hcs j k hj).2 hk
        refine ⟨u, ?_, ho, hv⟩
        rw [← hu]
        have hlt := mul_lt hj hk
        simp only [List.getElem?_toArray, List.append_assoc, List.getElem?_append, List.length_take, Array.length_toList, List.getElem?_take, List.getElem?_drop]
        by_cases hlt2 : j < i
        · have : (j + 1) * ob.sz ≤ i * ob.sz := Nat.mul_le_mul_right _ hlt2
          rw [Nat.add_mul] at this
          rw [if_pos (by omega), if_pos (by omega)]; simp
        · have : (i + 1) * ob.sz ≤ j * ob.sz := Nat.mul_le_mul_right _ (by omega)
          rw [Nat.add_mul] at this
          rw [if_neg (by omega), if_neg (by omega)]
          simp only [Array.getElem?_toList]
          congr 1
          omega)
  exact ⟨key.1, .pure (.undef _), key.2⟩

/-- A variable of one element, of cells that are known. -/
theorem OpR.mkVar {t : TypeId} {sz : Nat} {cs : List AV} (hr : ∀ (F : Nat → Prop) (φ : Nat → Nat) (w : World) (ac : Act), Sim F φ S w → Slots φ S (OO F φ S) w a ac →
      ∃ C : Array Value, (execOp ac.eval o).run P w = .ok (.value (.pointer (some ⟨w.heap.size, 0, none⟩))) { w with heap := w.heap.push (.cells C t) } ∧ C.size = cs.length ∧ ∀ k, k < cs.length → ∃ u, C[k]? = some u ∧ u.oneCell' = true ∧ VR φ S (OO F φ S) w (cs.getD k .undef) u)
    (hl : cs.length = sz) : OpR P o a S (.ptr S.length 1 0 0) (S ++ [some ⟨t, sz, [cs]⟩]) := by
  intro F φ w ac hs ha
  obtain ⟨C, hrun, hC, hcs⟩ := hr F φ w ac hs ha
  have key := hs.alloc ⟨t, sz, [cs]⟩ C (by simp; omega) (fun j k hj => by
    simp only [List.length_singleton] at hj
    obtain rfl : j = 0 := by omega
    refine ⟨by simpa using hl, fun hk => ?_⟩
    simp only at hk
    obtain ⟨u, h1, h2, h3⟩ := hcs k (by omega)
    exact ⟨u, by simpa using h1, h2, by simpa using h3⟩)
  refine ⟨_, _, _, _, hrun, .inl rfl, key.1, ?_, key.2⟩
  refine .ptr rfl (by simp) fun ob hob => ?_
  have : ob = ⟨t, sz, [cs]⟩ := by simp [St.at] at hob; exact hob.symm
  subst this
  exact ⟨by simp, fun _ => by simp [phi]⟩

theorem OpR.box {t : TypeId} {x : Operand} {v : AV} (h : o.op = .box t x) (hx : aev a x = v) (hlf : (acells v).all leaf = true) : OpR P o a S (.ptr S.length 1 0 0) (S ++ [some ⟨t, (acells v).length, [acells v]⟩]) := by
  refine OpR.mkVar (cs := acells v) (fun F φ w ac hs ha => ?_) rfl
  have ex := VR.eval ha x
  rw [hx] at ex
  obtain ⟨h1, h2⟩ := ex.cells hlf
  exact ⟨(ac.eval x).cells, by simp [execOp, h, Instr.box, newVar, newRow], h1, h2⟩
end
end Go.Fw
