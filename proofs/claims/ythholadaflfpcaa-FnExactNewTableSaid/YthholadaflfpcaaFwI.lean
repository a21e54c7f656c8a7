/-
  Aggregates and literal rows; make.
-/
import Derived.Test.YthholadaflfpcaaFwH
import Derived.Laws.Tables
namespace Go.Fw
open Go Go.RowKit

theorem foldl_set_get (off : Nat) : ∀ (l : List Value) (b : Nat) (cs : Array Value), ((l.zipIdx b).foldl (fun cs (x : Value × Nat) => cs.setIfInBounds (off + x.2) x.1) cs).size = cs.size ∧
    ∀ k, off + b + l.length ≤ cs.size → ((l.zipIdx b).foldl (fun cs (x : Value × Nat) => cs.setIfInBounds (off + x.2) x.1) cs)[k]? = if off + b ≤ k ∧ k < off + b + l.length then l[k - (off + b)]? else cs[k]?
  | [], b, cs => ⟨rfl, fun k _ => by simp; omega⟩
  | x :: l, b, cs => by
    obtain ⟨h1, h2⟩ := foldl_set_get off l (b + 1) (cs.setIfInBounds (off + b) x)
    simp only [List.zipIdx_cons, List.foldl_cons]
    refine ⟨by rw [h1]; simp, fun k hk => ?_⟩
    simp only [List.length_cons] at hk ⊢
    rw [h2 k (by simp; omega)]
    by_cases e : k = off + b
    · subst e
      rw [if_neg (by omega), if_pos (by omega)]
      simp [Array.getElem?_setIfInBounds]
      omega
    · by_cases hin : off + b ≤ k ∧ k < off + b + (l.length + 1)
      · rw [if_pos (by omega), if_pos hin]
        have : k - (off + b) = (k - (off + (b + 1))) + 1 := by omega
        rw [this, List.getElem?_cons_succ]
      · rw [if_neg (by omega), if_neg hin, Array.getElem?_setIfInBounds, if_neg (by omega)]

/-- A part, as 'fill' writes it. -/
theorem fill_step (place : Nat → Option (Nat × Nat)) (cells : Array Value) (i : Nat) (v : Value) (rest : List (Nat × Value)) (off sz : Nat) (hp : place i = some (off, sz)) (hv : v.cells.size = sz) (hc : off + sz ≤ cells.size) :
    ∃ cells' : Array Value, Instr.fill place cells ((i, v) :: rest) = Instr.fill place cells' rest ∧ cells'.size = cells.size ∧ ∀ k, cells'[k]? = if off ≤ k ∧ k < off + sz then v.cells[k - off]? else cells[k]? := by
  have h := foldl_set_get off v.cells.toList 0 cells
  refine ⟨v.cells.zipIdx.foldl (fun cs (c, j) => cs.setIfInBounds (off + j) c) cells, ?_, ?_, ?_⟩
  · rw [Instr.fill, hp]
    simp only
    rw [if_neg (by simp; omega)]
  · rw [← Array.foldl_toList, Array.toList_zipIdx]
    exact h.1
  · intro k
    rw [← Array.foldl_toList, Array.toList_zipIdx]
    have := h.2 k (by simp; omega)
    simp only [Nat.add_zero, Array.length_toList, hv] at this
    rw [show (List.foldl (fun cs (x : Value × Nat) => cs.setIfInBounds (off + x.2) x.1) cells (v.cells.toList.zipIdx 0))[k]? = _ from this]
    simp

/-- Cells, and what they tell. -/
def CR (φ : Nat → Nat) (S : St) (O : Nat → Prop) (w : World) (cells : List AV) (C : Array Value) : Prop :=
  C.size = cells.length ∧ ∀ k, k < cells.length → ∃ u, C[k]? = some u ∧ u.oneCell' = true ∧ VR φ S O w (cells.getD k .undef) u

def afill (place : Nat → Option (Nat × Nat)) : List AV → List (Nat × AV) → Option (List AV)
  | cells, [] => some cells
  | cells, (i, v) :: rest => match place i with
    | none => none
    | some (off, size) => if (acells v).length = size ∧ off + size ≤ cells.length ∧ (acells v).all leaf = true then afill place (splice cells off (acells v)) rest else none

theorem afill_ok {φ : Nat → Nat} {S : St} {O : Nat → Prop} {w : World} {a : Nat → AV} {ac : Act} (ha : Slots φ S O w a ac) (place : Nat → Option (Nat × Nat)) : ∀ (ps : List (Nat × Operand)) (cells cells' : List AV) (C : Array Value),
    afill place cells (ps.map fun p => (p.1, aev a p.2)) = some cells' → CR φ S O w cells C → ∃ C', Instr.fill place C (ps.map fun p => (p.1, ac.eval p.2)) = some C' ∧ CR φ S O w cells' C'
  | [], cells, cells', C, h, hc => by
    simp only [List.map_nil, afill, Option.some.injEq] at h
    subst h
    exact ⟨C, rfl, hc⟩
  | (i, x) :: ps, cells, cells', C, h, hc => by
    simp only [List.map_cons, afill] at h
    split at h
    · cases h
    rename_i off size hp
    split at h
    case isFalse => cases h
    rename_i hcond
    obtain ⟨h1, h2, h3⟩ := hcond
    obtain ⟨hv1, hv2⟩ := (VR.eval ha x).cells h3
    obtain ⟨C1, e1, e2, e3⟩ := fill_step place C i (ac.eval x) (ps.map fun p => (p.1, ac.eval p.2)) off size hp (by omega) (by rw [hc.1]; omega)
    have hsp := splice_length cells off (acells (aev a x)) (by omega)
    obtain ⟨C', f1, f2⟩ := afill_ok ha place ps _ cells' C1 h ⟨by rw [e2, hc.1, hsp], fun k hk => by
      rw [hsp] at hk
      rw [splice_getD _ _ _ (by omega), e3 k]
      by_cases hin : off ≤ k ∧ k < off + size
      · rw [if_pos hin, if_pos (by omega)]
        exact hv2 (k - off) (by omega)
      · rw [if_neg hin, if_neg (by omega)]
        exact hc.2 k hk⟩
    exact ⟨C', by simp only [List.map_cons]; rw [e1]; exact f1, f2⟩

theorem CR.zero (φ : Nat → Nat) (S : St) (O : Nat → Prop) (w : World) (z : Value) (hz : (z.cells.toList.all fun u => u.oneCell') = true) : CR φ S O w (zcells z) z.cells := by
  refine ⟨by simp [zcells], fun k hk => ?_⟩
  have hlt : k < z.cells.size := by simpa [zcells] using hk
  refine ⟨z.cells[k], by simp [hlt], ?_, ?_⟩
  · rw [List.all_eq_true] at hz
    exact hz _ (by simp)
  · have : (zcells z).getD k .undef = cval z.cells[k] := by simp [zcells, List.getD_eq_getElem?_getD, hlt]
    rw [this]
    exact .pure (cval_VI _ _ _)

/-- The places of a struct's fields. -/
def PL (P : Program) (t : TypeId) (places : List (Nat × Nat)) : Prop := ∃ fs : Array Field, P.underlying t = some (.struct fs) ∧ fs.toList.mapM (fun f => (P.info? f.type).map fun i => (f.offset, i.size)) = some places

section
variable {P : Program} {o : Oper} {a : Nat → AV} {S : St}

theorem OpR.build {t : TypeId} {d : TypeDesc} {z : Value} {sz bytes : Nat} {parts : Array (Nat × Operand)} {places : List (Nat × Nat)} {cells : List AV} (h : o.op = .build t parts) (ht : TY P t d z sz bytes) (hp : PL P t places) (hz : (z.cells.toList.all fun u => u.oneCell') = true)
    (hf : afill (fun i => places[i]?) (zcells z) (parts.toList.map fun p => (p.1, aev a p.2)) = some cells) : OpR P o a S (.agg cells) S := by
  refine OpR.still fun F φ w ac hs ha => ?_
  obtain ⟨C', e1, e2⟩ := afill_ok ha _ parts.toList _ cells z.cells hf (CR.zero φ S (OO F φ S) w z hz)
  obtain ⟨i, hi, hzz, _, _⟩ := ht.parts
  obtain ⟨fs, hu, hm⟩ := hp
  have hb : P.built t (parts.map fun (i, x) => (i, ac.eval x)).toList = some C' := by
    unfold Program.built
    simp only [hi, hu, hzz, hm]
    simpa using e1
  refine ⟨.agg C', by simp only [execOp, h, Sem.run_bind, run_build w t _ C' hb, Result.andThen_ok, Sem.run_pure], .agg e2.1 fun k hk => ?_⟩
  obtain ⟨u, h1, _, h3⟩ := e2.2 k hk
  have : C'.getD k undef = u := by simp [Array.getD_eq_getD_getElem?, h1]
  rw [this]
  exact h3

theorem getD_range_map {α : Type} (n i : Nat) (f : Nat → α) (d : α) (h : i < n) : ((List.range n).map f).getD i d = f i := by
  simp [List.getD_eq_getElem?_getD, h]

/-- A row of known cells, cut into elements. -/
def chunks (n sz : Nat) (cells : List AV) : List (List AV) := (List.range n).map fun i => (cells.drop (i * sz)).take sz

theorem OpR.mkRow {e : TypeId} {sz n : Nat} {cells : List AV} (hr : ∀ (F : Nat → Prop) (φ : Nat → Nat) (w : World) (ac : Act), Sim F φ S w → Slots φ S (OO F φ S) w a ac →
      ∃ C : Array Value, (execOp ac.eval o).run P w = .ok (.value (.slice (some ⟨w.heap.size, 0, none⟩) n n)) { w with heap := w.heap.push (.cells C e) } ∧ CR φ S (OO F φ S) w cells C)
    (hl : cells.length = n * sz) (hn : n ≤ maxLen) : OpR P o a S (.sl S.length n) (S ++ [some ⟨e, sz, chunks n sz cells⟩]) := by
  intro F φ w ac hs ha
  obtain ⟨C, hrun, hC⟩ := hr F φ w ac hs ha
  have hcl : (chunks n sz cells).length = n := by simp [chunks]
  have key := hs.alloc ⟨e, sz, chunks n sz cells⟩ C (by simp only [hcl]; rw [hC.1, hl]; exact Nat.le_refl _) (fun j k hj => by
    dsimp only at hj ⊢
    rw [hcl] at hj
    have hg : (chunks n sz cells).getD j [] = (cells.drop (j * sz)).take sz := getD_range_map n j _ _ hj
    have hmul : (j + 1) * sz ≤ n * sz := Nat.mul_le_mul_right _ hj
    rw [Nat.add_mul] at hmul
    refine ⟨by rw [hg]; simp only [List.length_take, List.length_drop]; omega, fun hk => ?_⟩
    rw [hg, getD_drop_take _ _ _ _ _ hk]
    exact hC.2 (j * sz + k) (by omega))
  refine ⟨_, _, _, _, hrun, .inl rfl, key.1, ?_, key.2⟩
  refine .sl rfl (by simp) fun ob hob => ?_
  have : ob = ⟨e, sz, chunks n sz cells⟩ := by simp [St.at] at hob; exact hob.symm
  subst this
  refine ⟨by simp [chunks], fun _ => ?_⟩
  rcases Nat.eq_zero_or_pos n with rfl | hpos
  · exact .inl ⟨rfl, _, _, rfl, Nat.zero_le _, .inl rfl⟩
  · exact .inr ⟨hpos, n, by simp [phi], Nat.le_refl _, hn, C, e, (0, 0), by simp [phi], by rw [hC.1, hl]⟩

/-- A type's zero value, so many times. -/
def zflat (z : Value) (n sz : Nat) : List AV := (List.range (n * sz)).map fun j => (zcells z).getD (j % sz) .undef

theorem CR.zflat (φ : Nat → Nat) (S : St) (O : Nat → Prop) (w : World) (z : Value) (n sz : Nat) (hzs : z.cells.size = sz) (hz : (z.cells.toList.all fun u => u.oneCell') = true) : CR φ S O w (zflat z n sz) ((Array.range (n * sz)).map (z.cells[· % z.cells.size]!)) := by
  refine ⟨by simp [Fw.zflat], fun k hk => ?_⟩
  have hk' : k < n * sz := by simpa [Fw.zflat] using hk
  have hsz : 0 < sz := by
    rcases Nat.eq_zero_or_pos sz with h | h
    · rw [h] at hk'; omega
    · exact h
  obtain ⟨u, h1, h2, h3⟩ := (CR.zero φ S O w z hz).2 (k % sz) (by simp [zcells, hzs, Nat.mod_lt _ hsz])
  refine ⟨u, ?_, h2, ?_⟩
  · have hm : k % sz < z.cells.size := by rw [hzs]; exact Nat.mod_lt _ hsz
    rw [Array.getElem?_eq_getElem hm] at h1
    simp only [Option.some.injEq] at h1
    simp [hk', hzs]
    rw [getElem!_pos z.cells _ hm]
    exact h1
  · unfold Fw.zflat
    rw [getD_range_map _ _ _ _ hk']
    exact h3

theorem chunks_zflat (z : Value) (n sz : Nat) (hzs : z.cells.size = sz) : chunks n sz (zflat z n sz) = List.replicate n (zcells z) := by
  apply List.ext_getElem?
  intro i
  by_cases hi : i < n
  · simp only [chunks, List.getElem?_map, List.getElem?_range hi, Option.map_some, List.getElem?_replicate, if_pos hi]
    congr 1
    have hmul : (i + 1) * sz ≤ n * sz := Nat.mul_le_mul_right _ hi
    rw [Nat.add_mul] at hmul
    apply List.ext_getElem?
    intro k
    have hzl : (zcells z).length = sz := by simp [zcells, hzs]
    by_cases hk : k < sz
    · simp only [zflat, List.getElem?_take, if_pos hk, List.getElem?_drop, List.getElem?_map]
      rw [List.getElem?_range (by omega)]
      simp only [Option.map_some]
      have e : (i * sz + k) % sz = k := by rw [Nat.mul_comm, Nat.mul_add_mod, Nat.mod_eq_of_lt hk]
      rw [e, List.getD_eq_getElem?_getD, List.getElem?_eq_getElem (by omega)]
      rfl
    · rw [List.getElem?_eq_none (by simp [zflat]; omega), List.getElem?_eq_none (by omega)]
  · rw [List.getElem?_eq_none (by simp [chunks]; omega), List.getElem?_eq_none (by simp; omega)]

theorem OpR.buildSlice {t e : TypeId} {d : TypeDesc} {z : Value} {sz bytes n : Nat} {parts : Array (Nat × Operand)} {cells : List AV} (h : o.op = .buildSlice t n parts) (ht : P.underlying t = some (.slice e)) (he : TY P e d z sz bytes) (hzs : z.cells.size = sz) (hz : (z.cells.toList.all fun u => u.oneCell') = true)
    (hlim : n * sz ≤ 2 ^ 24) (hn : n ≤ maxLen)
    (hf : afill (fun i => some (i * sz, sz)) (zflat z n sz) (parts.toList.map fun p => (p.1, aev a p.2)) = some cells) (hl : cells.length = n * sz) : OpR P o a S (.sl S.length n) (S ++ [some ⟨e, sz, chunks n sz cells⟩]) := by
  refine OpR.mkRow (cells := cells) (fun F φ w ac hs ha => ?_) hl hn
  have hc0 := CR.zflat φ S (OO F φ S) w z n sz hzs hz
  obtain ⟨C', e1, e2⟩ := afill_ok ha _ parts.toList _ cells _ hf hc0
  refine ⟨C', ?_, e2⟩
  simp only [execOp, h, Instr.buildSlice, Sem.run_bind, run_underlying ht, Result.andThen_ok, he.sizeOf]
  rw [if_neg (by omega)]
  by_cases h0 : n * sz = 0
  · have hempty : (Array.range (n * sz)).map (z.cells[· % z.cells.size]!) = (#[] : Array Value) := by rw [h0]; simp
    rw [hempty] at e1
    have hr0 : (Array.range 0).map (fun _ => (default : Value)) = #[] := by simp
    simp [h0, e1, newRow, hr0]
  · simp [h0, he.zero, e1, newRow]

theorem OpR.make {t e : TypeId} {d : TypeDesc} {z : Value} {sz bytes n : Nat} {x y : Operand} {k k' : IntKind} (h : o.op = .makeSlice t x y) (hx : aev a x = .int k n) (hy : aev a y = .int k' n) (ht : P.underlying t = some (.slice e)) (he : TY P e d z sz bytes) (hzs : z.cells.size = sz) (hz : (z.cells.toList.all fun u => u.oneCell') = true)
    (hb : bytes * n ≤ 281474976710656) (hn : n ≤ maxLen) : OpR P o a S (.sl S.length n) (S ++ [some ⟨e, sz, List.replicate n (zcells z)⟩]) := by
  rw [← chunks_zflat z n sz hzs]
  refine OpR.mkRow (cells := zflat z n sz) (fun F φ w ac hs ha => ?_) (by simp [zflat]) hn
  refine ⟨(Array.range (n * sz)).map (z.cells[· % z.cells.size]!), ?_, CR.zflat φ S (OO F φ S) w z n sz hzs hz⟩
  have ex := VR.eval ha x
  have ey := VR.eval ha y
  rw [hx] at ex
  rw [hy] at ey
  obtain ⟨i, hi, hzz, hs', hb'⟩ := he.parts
  have hn' : n ≤ 9223372036854775807 := by simp only [maxLen] at hn; omega
  have hbI : ((bytes * n : Nat) : Int) ≤ 281474976710656 := by omega
  rw [Int.natCast_mul] at hbI
  have hrun := run_make (P := P) w t e i z ht hi hzz k k' (n : Int) (n : Int) (by omega) (Int.le_refl _) (by rw [hb']; exact hbI) (by omega)
  simp only [Int.toNat_natCast, hs'] at hrun
  simp only [execOp, h, ex.int_inv, ey.int_inv, Sem.run_bind, hrun, Result.andThen_ok, Sem.run_pure]
  rfl
end
end Go.Fw
