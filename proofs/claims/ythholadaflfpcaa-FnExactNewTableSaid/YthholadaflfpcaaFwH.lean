/-
  Rows that are made: literals, make, append.
-/
import Derived.Test.YthholadaflfpcaaFwG
import Derived.Laws.OwnMore
namespace Go.Fw
open Go Go.RowKit

/-- A row that is read: where its cells lie, and what they tell. -/
def RowAt (φ : Nat → Nat) (S : St) (O : Nat → Prop) (w : World) (v : Value) (sz m : Nat) (els : List (List AV)) : Prop :=
  els.length = m ∧ ∃ (A : Option Addr) (c : Nat) (vals : Nat → Nat → Value), v = .slice A m c ∧
    (0 < m → ∃ ad : Addr, A = some ad ∧ ad.spot = none ∧ ∀ i k, i < m → k < sz → w.cell? ⟨ad.block, ad.off + i * sz + k, none⟩ = some (vals i k)) ∧
    ∀ i, i < m → (els.getD i []).length = sz ∧ ∀ k, k < sz → (vals i k).oneCell' = true ∧ VR φ S O w ((els.getD i []).getD k .undef) (vals i k)

theorem rowAt_nil {φ : Nat → Nat} {S : St} {O : Nat → Prop} {w : World} {v : Value} {sz : Nat} (h : VR φ S O w .nsl v) : RowAt φ S O w v sz 0 [] := by
  cases h with
  | pure h =>
    cases h
    exact ⟨rfl, none, 0, fun _ _ => undef, rfl, fun h => absurd h (Nat.lt_irrefl _), fun i hi => absurd hi (Nat.not_lt_zero _)⟩

theorem rowAt_isl {φ : Nat → Nat} {S : St} {O : Nat → Prop} {w : World} {v : Value} {sz n : Nat} {get : Nat → List AV} (h : VR φ S O w (.isl sz n get) v) (hg : ∀ i, i < n → (get i).length = sz ∧ (get i).all leaf = true) : RowAt φ S O w v sz n ((List.range n).map get) := by
  cases h with
  | pure h =>
    cases h with
    | isl vals h1 h2 h3 h4 =>
      refine ⟨by simp, _, _, vals, rfl, fun hn => ?_, fun i hi => ?_⟩
      · obtain ⟨ad, e, hs, hc⟩ := h3 hn
        exact ⟨ad, e, hs, fun i k hi hk => (hc i k hi (by rw [(hg i hi).1]; exact hk)).2⟩
      · have e : ((List.range n).map get).getD i [] = get i := by simp [List.getD_eq_getElem?_getD, hi]
        rw [e]
        refine ⟨(hg i hi).1, fun k hk => ?_⟩
        have hv := h4 i k hi (by rw [(hg i hi).1]; exact hk)
        refine ⟨hv.one ?_, .pure hv⟩
        have := (hg i hi).2
        rw [List.all_eq_true] at this
        refine this _ ?_
        rw [List.getD_eq_getElem?_getD, List.getElem?_eq_getElem (by rw [(hg i hi).1]; exact hk)]
        exact List.getElem_mem _

theorem rowAt_sl {F : Nat → Prop} {φ : Nat → Nat} {S : St} {w : World} {v : Value} {id n : Nat} {ob : AObj} (hs : Sim F φ S w) (h : VR φ S (OO F φ S) w (.sl id n) v) (hob : S.at id = some ob) (hn : ob.els.length = n) : RowAt φ S (OO F φ S) w v ob.sz n ob.els := by
  cases h with
  | pure h => cases h
  | sl h0 h1 h2 =>
    obtain ⟨_, h3⟩ := h2 ob hob
    rcases h3 hn.symm with ⟨rfl, A, c0, rfl, _⟩ | ⟨hpos, cap, rfl, h4, h5, _⟩
    · exact ⟨hn, A, c0, fun _ _ => undef, rfl, fun h => absurd h (Nat.lt_irrefl _), fun i hi => absurd hi (Nat.not_lt_zero _)⟩
    obtain ⟨C, hC, hCs, hcs⟩ := hs.obj id ob hob (by intro e; rw [e] at hn; simp at hn; omega)
    refine ⟨hn, _, _, fun i k => (C[i * ob.sz + k]?).getD undef, rfl, fun _ => ⟨_, rfl, rfl, fun i k hi hk => ?_⟩, fun i hi => ⟨(hcs i 0 (by omega)).1, fun k hk => ?_⟩⟩
    · obtain ⟨u, hu, _, _⟩ := (hcs i k (by omega)).2 hk
      rw [cell_at hC]
      simp only [Nat.zero_add, hu, Option.getD_some]
    · obtain ⟨u, hu, ho, hv⟩ := (hcs i k (by omega)).2 hk
      simp only [hu, Option.getD_some]
      exact ⟨ho, hv⟩

/-- The cells of a row, one behind the other. -/
def flat (m sz : Nat) (vals : Nat → Nat → Value) : List Value := (List.range (m * sz)).map fun j => vals (j / sz) (j % sz)

theorem flat_length (m sz : Nat) (vals : Nat → Nat → Value) : (flat m sz vals).length = m * sz := by simp [flat]

theorem flat_get {m sz i k : Nat} {vals : Nat → Nat → Value} (hi : i < m) (hk : k < sz) : (flat m sz vals)[i * sz + k]? = some (vals i k) := by
  have h := mul_lt hi hk
  have e1 : (i * sz + k) / sz = i := by rw [Nat.mul_comm, Nat.mul_add_div (by omega), Nat.div_eq_of_lt hk]; omega
  have e2 : (i * sz + k) % sz = k := by rw [Nat.mul_comm, Nat.mul_add_mod, Nat.mod_eq_of_lt hk]
  simp [flat, h, e1, e2]

theorem flat_cell {m sz : Nat} {vals : Nat → Nat → Value} (j : Nat) (v : Value) (h : (flat m sz vals)[j]? = some v) : j < m * sz ∧ v = vals (j / sz) (j % sz) := by
  have hj : j < m * sz := by have := (List.getElem?_eq_some_iff.1 h).1; simpa [flat_length] using this
  simp [flat, hj] at h
  exact ⟨hj, h.symm⟩

section
variable {P : Program} {o : Oper} {a : Nat → AV} {S : St}

/-- What append makes of an owned row. -/
theorem run_append_row {ts e ty : TypeId} {d : TypeDesc} {z : Value} {sz bytes : Nat} (ht : P.underlying ts = some (.slice e)) (he : TY P e d z sz bytes) (hzs : z.cells.size = sz) (hsz : 0 < sz)
    {w : World} {base : Nat} {v : Value} {n : Nat} {xs : List Value} (hown : w.ownsRow base e sz v n xs) {u : Value} {m : Nat} {φ : Nat → Nat} {O : Nat → Prop} {els : List (List AV)} (hrow : RowAt φ S O w u sz m els)
    (h63 : n + m ≤ maxLen) (hbytes : (n + m) * bytes ≤ 140737488355328) (hbase : base ≤ w.heap.size) :
    ∃ v' w' vals, (Builtin.append_ #[ts, ts] ty #[v, u]).run P w = .ok v' w' ∧ w'.ownsRow base e sz v' (n + m) (xs ++ flat m sz vals) ∧ w.grownBy w' v.ownBlock ∧ (v' = .slice none 0 0 ↔ v = .slice none 0 0 ∧ m = 0) ∧
      ∀ i, i < m → (els.getD i []).length = sz ∧ ∀ k, k < sz → (vals i k).oneCell' = true ∧ VR φ S O w ((els.getD i []).getD k .undef) (vals i k) := by
  obtain ⟨hl, A, c, vals, rfl, h1, h2⟩ := hrow
  obtain ⟨i, hi, hz, hs, hb⟩ := he.parts
  by_cases hm : m = 0
  · subst hm
    have hlen : xs.length = n * sz := hown.1
    have hrun : (Builtin.append_ #[ts, ts] ty #[v, .slice A 0 c]).run P w = .ok v w := by
      rcases hown.2 with ⟨rfl, rfl⟩ | ⟨g, cap, cur, rfl, hbg, hg, hnc, _⟩
      · cases A <;> simp [Builtin.append_, run_underlying ht, Go.sizeOf, typeInfo, hi, Builtin.lenOf, Builtin.firstCells, loadCells, loadCellsFrom]
      · cases A <;> simp [Builtin.append_, run_underlying ht, Go.sizeOf, typeInfo, hi, Builtin.lenOf, Builtin.firstCells, loadCells, loadCellsFrom, hnc, storeCells]
    refine ⟨v, w, vals, hrun, by simpa [flat] using hown, ⟨rfl, rfl, rfl, Nat.le_refl _, fun _ _ _ => rfl⟩, by simp, h2⟩
  · obtain ⟨ad, rfl, hsp, hc⟩ := h1 (by omega)
    obtain ⟨v', w', hr, ho, hg, hn⟩ := run_append_own (P := P) w base ts ty e i z sz bytes ht hi hz hs hb hzs hsz v n xs hown ad m c (flat m sz vals) (flat_length _ _ _)
      (fun j u hu => by
        obtain ⟨hj, rfl⟩ := flat_cell j u hu
        have hq : j / sz < m := by rw [Nat.div_lt_iff_lt_mul hsz]; exact hj
        have hr : j % sz < sz := Nat.mod_lt _ hsz
        have := hc (j / sz) (j % sz) hq hr
        have e0 : ad.add j = ⟨ad.block, ad.off + j, none⟩ := by have e1 := addr_add ad.block ad.off j; rw [← addr_eta ad hsp] at e1; exact e1
        rw [e0, ← this]
        congr 2
        have := Nat.div_add_mod j sz
        rw [Nat.mul_comm] at this
        omega)
      (fun u hu => by
        obtain ⟨j, hj, rfl⟩ := List.getElem_of_mem hu
        have hj' := hj
        rw [flat_length] at hj'
        obtain ⟨_, e⟩ := flat_cell j _ (List.getElem?_eq_getElem hj)
        rw [e]
        exact ((h2 (j / sz) (by rw [Nat.div_lt_iff_lt_mul hsz]; exact hj')).2 (j % sz) (Nat.mod_lt _ hsz)).1) h63 hbytes hbase
    exact ⟨v', w', vals, hr, ho, hg, hn, h2⟩

theorem getD_append_left {α : Type} (l r : List α) (i : Nat) (d : α) (h : i < l.length) : (l ++ r).getD i d = l.getD i d := by
  simp [List.getD_eq_getElem?_getD, List.getElem?_append_left h]
theorem getD_append_right {α : Type} (l r : List α) (i : Nat) (d : α) (h : l.length ≤ i) : (l ++ r).getD i d = r.getD (i - l.length) d := by
  simp [List.getD_eq_getElem?_getD, List.getElem?_append_right h]

/-- append to nothing. -/
theorem OpR.appendN {ts e : TypeId} {d : TypeDesc} {z : Value} {sz bytes m : Nat} {x y : Operand} {els : List (List AV)} (h : o.op = .call { callee := .builtin .append, args := #[x, y], argTypes := #[ts, ts] })
    (ht : P.underlying ts = some (.slice e)) (he : TY P e d z sz bytes) (hzs : z.cells.size = sz) (hsz : 0 < sz) (hx : aev a x = .nsl)
    (hy : ∀ (F : Nat → Prop) (φ : Nat → Nat) (w : World) (ac : Act), Sim F φ S w → Slots φ S (OO F φ S) w a ac → RowAt φ S (OO F φ S) w (ac.eval y) sz m els) (hm : 0 < m) (h63 : m ≤ maxLen) (hbytes : m * bytes ≤ 140737488355328) :
    OpR P o a S (.sl S.length m) (S ++ [some ⟨e, sz, els⟩]) := by
  intro F φ w ac hs ha
  have ex := VR.eval ha x
  rw [hx] at ex
  have hxe : ac.eval x = .slice none 0 0 := by cases ex with | pure ex => generalize ac.eval x = u at ex; cases ex; rfl
  have hrow := hy F φ w ac hs ha
  obtain ⟨v', w', vals, hr, ho, hg, hn, hv⟩ := run_append_row (ty := o.type) ht he hzs hsz (World.ownsRow_nil w w.heap.size e sz) hrow (by omega) (by simpa using hbytes) (Nat.le_refl _)
  simp only [Nat.zero_add, List.nil_append] at ho
  rcases ho.2 with ⟨rfl, h0⟩ | ⟨g, cap, cur, rfl, hbg, hgc, hnc, hcm, hcs, htake⟩
  · omega
  have hgw : g < w'.heap.size := (Array.getElem?_eq_some_iff.1 hgc).1
  have hrun : (execOp ac.eval o).run P w = .ok (.value (.slice (some ⟨g, 0, none⟩) m cap)) w' := by
    simp only [execOp, h, resolve, invoke, builtin, Sem.run_bind, Sem.run_pure, Result.andThen_ok, List.map_toArray, List.map_cons, List.map_nil, hxe, hr]
  have key := hs.put S.length g ⟨e, sz, els⟩ cur (St.ok_new S _) (.inl rfl) (.inr hbg) hg.os hg.tape hg.output hg.size (fun k hk _ => hg.block k hk (by simp [Value.ownBlock])) hgc
    (by rw [hrow.1, hcs]; exact Nat.mul_le_mul_right _ hnc)
    (fun j k hj => by
      rw [hrow.1] at hj
      refine ⟨(hv j hj).1, fun hk => ?_⟩
      obtain ⟨h1, h2⟩ := (hv j hj).2 k hk
      refine ⟨vals j k, ?_, h1, h2⟩
      have hlt := mul_lt hj hk
      have := flat_get (vals := vals) hj hk
      rw [← htake, List.getElem?_take] at this
      rw [if_pos hlt] at this
      simpa using this)
  refine ⟨_, _, w', _, hrun, .inl rfl, key.1, ?_, key.2⟩
  refine .sl rfl (by simp) fun ob hob => ?_
  have : ob = ⟨e, sz, els⟩ := by simp [St.at] at hob; exact hob.symm
  subst this
  refine ⟨by rw [hrow.1]; exact Nat.le_refl _, fun _ => .inr ⟨hm, cap, by simp [phi], hnc, hcm, cur, e, (0, 0), by simpa [phi] using hgc, hcs⟩⟩

/-- What append makes of an owned row that is not nil: where it lies. -/
theorem run_append_at {ts e ty : TypeId} {d : TypeDesc} {z : Value} {sz bytes : Nat} (ht : P.underlying ts = some (.slice e)) (he : TY P e d z sz bytes) (hzs : z.cells.size = sz) (hsz : 0 < sz)
    {w : World} {g n cap : Nat} {C : Array Value} (hC : w.heap[g]? = some (Obj.cells C e (0, 0))) (hnc : n ≤ cap) (hcm : cap ≤ maxLen) (hcs : C.size = cap * sz) {u : Value} {m : Nat} {φ : Nat → Nat} {O : Nat → Prop} {els : List (List AV)} (hrow : RowAt φ S O w u sz m els)
    (h63 : n + m ≤ maxLen) (hbytes : (n + m) * bytes ≤ 140737488355328) :
    ∃ g' cap' C' w' vals, (Builtin.append_ #[ts, ts] ty #[.slice (some ⟨g, 0, none⟩) n cap, u]).run P w = .ok (.slice (some ⟨g', 0, none⟩) (n + m) cap') w' ∧ w.grownBy w' (some g') ∧ (0 < m ∨ g' = g) ∧ ((g' = g ∧ C'.size = C.size) ∨ g' = w.heap.size) ∧
      w'.heap[g']? = some (Obj.cells C' e (0, 0)) ∧ C'.size = cap' * sz ∧ n + m ≤ cap' ∧ cap' ≤ maxLen ∧ C'.toList.take ((n + m) * sz) = C.toList.take (n * sz) ++ flat m sz vals ∧
      ∀ i, i < m → (els.getD i []).length = sz ∧ ∀ k, k < sz → (vals i k).oneCell' = true ∧ VR φ S O w ((els.getD i []).getD k .undef) (vals i k) := by
  obtain ⟨hl, A, c, vals, rfl, h1, h2⟩ := hrow
  obtain ⟨i, hi, hz, hs, hb⟩ := he.parts
  subst hs hb
  have hxl : (C.toList.take (n * i.size)).length = n * i.size := by
    have : n * i.size ≤ C.size := by rw [hcs]; exact Nat.mul_le_mul_right _ hnc
    simp only [List.length_take, Array.length_toList]; omega
  by_cases hm : m = 0
  · subst hm
    have hrun : (Builtin.append_ #[ts, ts] ty #[.slice (some ⟨g, 0, none⟩) n cap, .slice A 0 c]).run P w = .ok (.slice (some ⟨g, 0, none⟩) n cap) w := by
      cases A <;> simp [Builtin.append_, run_underlying ht, Go.sizeOf, typeInfo, hi, Builtin.lenOf, Builtin.firstCells, loadCells, loadCellsFrom, hnc, storeCells]
    exact ⟨g, cap, C, w, vals, hrun, ⟨rfl, rfl, rfl, Nat.le_refl _, fun _ _ _ => rfl⟩, .inr rfl, .inl ⟨rfl, rfl⟩, hC, hcs, hnc, hcm, by simp [flat], h2⟩
  · obtain ⟨ad, rfl, hsp, hc⟩ := h1 (by omega)
    have hnews : ∀ j u, (flat m i.size vals)[j]? = some u → w.cell? (ad.add j) = some u := by
      intro j u hu
      obtain ⟨hj, rfl⟩ := flat_cell j u hu
      have hq : j / i.size < m := by rw [Nat.div_lt_iff_lt_mul hsz]; exact hj
      have hr : j % i.size < i.size := Nat.mod_lt _ hsz
      have := hc (j / i.size) (j % i.size) hq hr
      have e0 : ad.add j = ⟨ad.block, ad.off + j, none⟩ := by have e1 := addr_add ad.block ad.off j; rw [← addr_eta ad hsp] at e1; exact e1
      rw [e0, ← this]
      congr 2
      have := Nat.div_add_mod j i.size
      rw [Nat.mul_comm] at this
      omega
    have hone : ∀ u ∈ flat m i.size vals, u.oneCell' = true := by
      intro u hu
      obtain ⟨j, hj, rfl⟩ := List.getElem_of_mem hu
      have hj' := hj
      rw [flat_length] at hj'
      obtain ⟨_, e⟩ := flat_cell j _ (List.getElem?_eq_getElem hj)
      rw [e]
      exact ((h2 (j / i.size) (by rw [Nat.div_lt_iff_lt_mul hsz]; exact hj')).2 (j % i.size) (Nat.mod_lt _ hsz)).1
    have hn63 : n + m ≤ 9223372036854775807 := by simp only [maxLen] at h63; omega
    by_cases hroom : n + m ≤ cap
    · have hfit : n * i.size + (flat m i.size vals).length ≤ C.size := by rw [flat_length, hcs, ← Nat.add_mul]; exact Nat.mul_le_mul_right _ hroom
      have hr := run_append_room (P := P) w ts ty e i ht hi g n cap C hC ad m c (flat m i.size vals) (flat_length _ _ _) hnews hone hroom hfit
      refine ⟨g, cap, _, _, vals, hr, ⟨rfl, rfl, rfl, by simp, fun k _ hk => setRow_other w g k _ (fun e => hk (by rw [e]))⟩, .inl (by omega), .inl ⟨rfl, ?_⟩, setRow_heap w g C _ e _ hC, ?_, hroom, hcm, ?_, h2⟩
      · simp only [List.size_toArray, List.length_append, List.length_drop, Array.length_toList, hxl]; omega
      · simp only [List.size_toArray, List.length_append, List.length_drop, Array.length_toList, hxl]; omega
      · have : (C.toList.take (n * i.size) ++ flat m i.size vals).length = (n + m) * i.size := by rw [List.length_append, hxl, flat_length, Nat.add_mul]
        rw [← this]
        exact List.take_left
    · have holds : ∀ j v, (C.toList.take (n * i.size))[j]? = some v → w.cell? ((⟨g, 0, none⟩ : Addr).add j) = some v := by
        intro j v hv
        rw [addr_add, Nat.zero_add, cell_at hC]
        rw [List.getElem?_take] at hv
        split at hv
        · simpa using hv
        · cases hv
      have hr := run_append_grow (P := P) w ts ty e i z ht hi hz ⟨g, 0, none⟩ n cap _ hxl holds ad m c (flat m i.size vals) (flat_length _ _ _) hnews (by omega) (by omega) (growslice_fits (by omega) hbytes)
      have hge := grownCap_ge w (n + m) cap e
      have hcm' : grownCap w (n + m) cap e ≤ maxLen := grownCap_le_maxLen w (n + m) cap e h63
      have hlen : (C.toList.take (n * i.size) ++ flat m i.size vals).length = (n + m) * i.size := by rw [List.length_append, hxl, flat_length, Nat.add_mul]
      refine ⟨w.heap.size, _, _, _, vals, hr, ⟨rfl, rfl, rfl, by simp, fun k hk _ => Go.heap_alloc_old w.drew _ hk⟩, .inl (by omega), .inr rfl, heap_alloc_new w.drew _, ?_, hge, hcm', ?_, h2⟩
      · simp only [Array.size_append, List.size_toArray, size_zeroCells, hzs, hxl, flat_length, ← Nat.add_mul]
        congr 1
        omega
      · simp only [Array.toList_append]
        rw [← hlen]
        exact List.take_left

/-- What append makes of a row without elements. -/
theorem run_append_zero {ts e ty : TypeId} {d : TypeDesc} {z : Value} {sz bytes : Nat} (ht : P.underlying ts = some (.slice e)) (he : TY P e d z sz bytes) (hzs : z.cells.size = sz) (hsz : 0 < sz)
    {w : World} {A : Option Addr} {u : Value} {m : Nat} {φ : Nat → Nat} {O : Nat → Prop} {els : List (List AV)} (hrow : RowAt φ S O w u sz m els) (hm : 0 < m)
    (h63 : m ≤ maxLen) (hbytes : m * bytes ≤ 140737488355328) :
    ∃ g' cap' C' w' vals, (Builtin.append_ #[ts, ts] ty #[.slice A 0 0, u]).run P w = .ok (.slice (some ⟨g', 0, none⟩) m cap') w' ∧ w.grownBy w' none ∧ w.heap.size ≤ g' ∧
      w'.heap[g']? = some (Obj.cells C' e (0, 0)) ∧ C'.size = cap' * sz ∧ m ≤ cap' ∧ cap' ≤ maxLen ∧ C'.toList.take (m * sz) = flat m sz vals ∧
      ∀ i, i < m → (els.getD i []).length = sz ∧ ∀ k, k < sz → (vals i k).oneCell' = true ∧ VR φ S O w ((els.getD i []).getD k .undef) (vals i k) := by
  cases A with
  | none =>
    obtain ⟨v', w', vals, hr, ho, hg, hn, hv⟩ := run_append_row (ty := ty) ht he hzs hsz (World.ownsRow_nil w w.heap.size e sz) hrow (by omega) (by simpa using hbytes) (Nat.le_refl _)
    simp only [Nat.zero_add, List.nil_append] at ho
    rcases ho.2 with ⟨rfl, h0⟩ | ⟨g, cap, cur, rfl, hbg, hgc, hnc, hcm, hcs, htake⟩
    · omega
    exact ⟨g, cap, cur, w', vals, hr, hg, hbg, hgc, hcs, hnc, hcm, by simpa using htake, hv⟩
  | some b =>
    obtain ⟨hl, A, c, vals, rfl, h1, h2⟩ := hrow
    obtain ⟨i, hi, hz, hs, hb⟩ := he.parts
    subst hs hb
    obtain ⟨ad, rfl, hsp, hc⟩ := h1 (by omega)
    have hnews : ∀ j u, (flat m i.size vals)[j]? = some u → w.cell? (ad.add j) = some u := by
      intro j u hu
      obtain ⟨hj, rfl⟩ := flat_cell j u hu
      have hq : j / i.size < m := by rw [Nat.div_lt_iff_lt_mul hsz]; exact hj
      have hr : j % i.size < i.size := Nat.mod_lt _ hsz
      have := hc (j / i.size) (j % i.size) hq hr
      have e0 : ad.add j = ⟨ad.block, ad.off + j, none⟩ := by have e1 := addr_add ad.block ad.off j; rw [← addr_eta ad hsp] at e1; exact e1
      rw [e0, ← this]
      congr 2
      have := Nat.div_add_mod j i.size
      rw [Nat.mul_comm] at this
      omega
    have hn63 : m ≤ 9223372036854775807 := by simp only [maxLen] at h63; omega
    have hr := run_append_grow (P := P) w ts ty e i z ht hi hz b 0 0 [] (by simp) (fun j v h => by simp at h) ad m c (flat m i.size vals) (flat_length _ _ _) hnews (by omega) (by omega) (growslice_fits (by omega) (by simpa using hbytes))
    simp only [Nat.zero_add] at hr
    have hge := grownCap_ge w m 0 e
    have hcm' : grownCap w m 0 e ≤ maxLen := grownCap_le_maxLen w m 0 e h63
    refine ⟨w.heap.size, _, _, _, vals, hr, ⟨rfl, rfl, rfl, by simp, fun k hk _ => Go.heap_alloc_old w.drew _ hk⟩, Nat.le_refl _, heap_alloc_new w.drew _, ?_, hge, hcm', ?_, h2⟩
    · simp only [Array.size_append, List.size_toArray, size_zeroCells, hzs, flat_length, List.length_nil, Nat.zero_add, ← Nat.add_mul]
      congr 1
      omega
    · have hlen : (flat m i.size vals).length = m * i.size := flat_length _ _ _
      simp only [Array.toList_append, List.nil_append]
      rw [← hlen]
      exact List.take_left

theorem St.set_same {S : St} {id : Nat} {ob : AObj} (h : S.at id = some ob) : S.set id (some ob) = S := by
  have hl : id < S.length := by
    rcases Nat.lt_or_ge id S.length with h' | h'
    · exact h'
    · rw [St.at_ge h'] at h; cases h
  have : S[id] = some ob := by simpa [St.at, List.getElem?_eq_getElem hl] using h
  rw [← this, List.set_getElem_self]

/-- append to an owned row. -/
theorem OpR.append {ts e : TypeId} {d : TypeDesc} {z : Value} {sz bytes n m id : Nat} {x y : Operand} {els : List (List AV)} {ob : AObj} (h : o.op = .call { callee := .builtin .append, args := #[x, y], argTypes := #[ts, ts] })
    (ht : P.underlying ts = some (.slice e)) (he : TY P e d z sz bytes) (hzs : z.cells.size = sz) (hsz : 0 < sz) (hx : aev a x = .sl id n) (hob : S.at id = some ob) (hn : ob.els.length = n) (hos : ob.sz = sz) (hot : ob.ty = e) (he0 : e ≠ 0)
    (hy : ∀ (F : Nat → Prop) (φ : Nat → Nat) (w : World) (ac : Act), Sim F φ S w → Slots φ S (OO F φ S) w a ac → RowAt φ S (OO F φ S) w (ac.eval y) sz m els) (h63 : n + m ≤ maxLen) (hbytes : (n + m) * bytes ≤ 140737488355328) :
    OpR P o a S (.sl id (n + m)) (S.set id (some { ob with els := ob.els ++ els })) := by
  intro F φ w ac hs ha
  have ex := VR.eval ha x
  rw [hx] at ex
  have hrow := hy F φ w ac hs ha
  have hidl := St.lt_of_at hob
  generalize hve : ac.eval x = vx at ex
  cases ex with
  | pure ex => cases ex
  | sl hh0 hh1 hh2 =>
    obtain ⟨_, h3⟩ := hh2 ob hob
    rcases h3 hn.symm with ⟨rfl, A, c0, rfl, hc0m, hc0⟩ | ⟨hpos, cap, rfl, h4, h5, C, ty', fr', hC, hsz'⟩
    · obtain rfl : c0 = 0 := hc0.resolve_right (fun h => he0 (hot.symm.trans h))
      have hnil : ob.els = [] := List.length_eq_zero_iff.1 hn
      by_cases hm : m = 0
      · subst hm
        obtain ⟨hl, A', c, vals, hu, h1, h2⟩ := hrow
        have hnil' : els = [] := List.length_eq_zero_iff.1 hl
        obtain ⟨i, hi, hz, hs', hb⟩ := he.parts
        have hr : (Builtin.append_ #[ts, ts] o.type #[.slice A 0 0, ac.eval y]).run P w = .ok (.slice A 0 0) w := by
          rw [hu]
          cases A' <;> cases A <;> simp [Builtin.append_, run_underlying ht, Go.sizeOf, typeInfo, hi, Builtin.lenOf, Builtin.firstCells, loadCells, loadCellsFrom, storeCells]
        refine ⟨_, _, w, φ, by simp only [execOp, h, resolve, invoke, builtin, Sem.run_bind, Sem.run_pure, Result.andThen_ok, List.map_toArray, List.map_cons, List.map_nil, hve, hr]; rfl, .inl rfl, ?_⟩
        have hS : S.set id (some { ob with els := ob.els ++ els }) = S := by
          rw [hnil', List.append_nil]; exact St.set_same hob
        rw [hS]
        exact ⟨hs, .sl hh0 hh1 hh2, Evo.refl _ _ _⟩
      · subst hos hot
        simp only [Nat.zero_add] at h63 hbytes ⊢
        obtain ⟨g, cap', C', w', vals, hr, hg, hg', hgc, hcs', hnc, hcm, htake, hv⟩ := run_append_zero (ty := o.type) (A := A) ht he hzs hsz hrow (by omega) h63 hbytes
        have hrun : (execOp ac.eval o).run P w = .ok (.value (.slice (some ⟨g, 0, none⟩) m cap')) w' := by
          simp only [execOp, h, resolve, invoke, builtin, Sem.run_bind, Sem.run_pure, Result.andThen_ok, List.map_toArray, List.map_cons, List.map_nil, hve, hr]
        have key := hs.put id g { ob with els := ob.els ++ els } C' (w' := w') (St.ok_set hidl _)
          (.inr ⟨ob, hob, rfl, rfl, by simp, fun e => by simp only [List.length_append, hrow.1] at e; omega⟩)
          (.inr hg') hg.os hg.tape hg.output hg.size (fun k hk hne => hg.block k hk (by simp)) hgc
          (by simp only [List.length_append, hrow.1, hn, hcs', Nat.zero_add]; exact Nat.mul_le_mul_right _ hnc)
          (fun j k hj => by
            dsimp only at hj ⊢
            simp only [hnil, List.nil_append, hrow.1] at hj ⊢
            refine ⟨(hv j hj).1, fun hk => ?_⟩
            obtain ⟨e1, e2⟩ := (hv j hj).2 k hk
            refine ⟨vals j k, ?_, e1, e2⟩
            have hlt := mul_lt hj hk
            have := flat_get (vals := vals) hj hk
            rw [← htake, List.getElem?_take, if_pos hlt] at this
            simpa using this)
        refine ⟨_, _, w', _, hrun, .inl rfl, key.1, ?_, key.2⟩
        refine .sl rfl (by simp [hidl]) fun ob' hob' => ?_
        have : ob' = { ob with els := ob.els ++ els } := by simp [St.at, hidl] at hob'; exact hob'.symm
        subst this
        exact ⟨by simp [hrow.1, hn], fun _ => .inr ⟨by omega, cap', by simp [phi], hnc, hcm, C', ob.ty, (0, 0), by simpa [phi] using hgc, hcs'⟩⟩
    obtain ⟨C', hC', hCs, hcs⟩ := hs.obj id ob hob (by intro e; rw [e] at hn; simp at hn; omega)
    rw [hC] at hC'
    cases hC'
    subst hos hot
    obtain ⟨g, cap', C', w', vals, hr, hg, hm0, hg', hgc, hcs', hnc, hcm, htake, hv⟩ := run_append_at (ty := o.type) ht he hzs hsz hC h4 h5 hsz' hrow h63 hbytes
    have hrun : (execOp ac.eval o).run P w = .ok (.value (.slice (some ⟨g, 0, none⟩) (n + m) cap')) w' := by
      simp only [execOp, h, resolve, invoke, builtin, Sem.run_bind, Sem.run_pure, Result.andThen_ok, List.map_toArray, List.map_cons, List.map_nil, hve, hr]
    have hfit : (n + m) * ob.sz ≤ C'.size := by rw [hcs']; exact Nat.mul_le_mul_right _ hnc
    have hat : ∀ j, j < (n + m) * ob.sz → C'[j]? = (C.toList.take (n * ob.sz) ++ flat m ob.sz vals)[j]? := by
      intro j hj
      rw [← htake, List.getElem?_take, if_pos hj]
      simp
    have hnC : n * ob.sz ≤ C.size := by rw [hsz']; exact Nat.mul_le_mul_right _ h4
    have key := hs.put id g { ob with els := ob.els ++ els } C' (w' := w') (St.ok_set hidl _)
      (.inr ⟨ob, hob, rfl, rfl, by simp, fun e => by
        simp only [List.length_append, hrow.1] at e
        rcases hm0 with h | h
        · omega
        · exact h⟩)
      (by
        rcases hg' with ⟨rfl, h⟩ | rfl
        · exact .inl ⟨rfl, ⟨ob, hob, by intro e; rw [e] at hn; simp at hn; omega⟩, fun C0 ty fr h0 => by rw [hC] at h0; cases h0; exact h⟩
        · exact .inr (Nat.le_refl _)) hg.os hg.tape hg.output hg.size
      (fun k hk hne => hg.block k hk (by simpa using hne)) hgc
      (by simp only [List.length_append, hrow.1, hn]; exact hfit)
      (fun j k hj => by
        dsimp only at hj ⊢
        simp only [List.length_append, hrow.1, hn] at hj
        by_cases hjn : j < n
        · rw [getD_append_left _ _ _ _ (by omega)]
          refine ⟨(hcs j k (by omega)).1, fun hk => ?_⟩
          obtain ⟨v, e1, e2, e3⟩ := (hcs j k (by omega)).2 hk
          refine ⟨v, ?_, e2, e3⟩
          have hlt := mul_lt hjn hk
          rw [hat _ (mul_lt hj hk), List.getElem?_append_left (by simp only [List.length_take, Array.length_toList]; omega), List.getElem?_take, if_pos hlt]
          simpa using e1
        · rw [getD_append_right _ _ _ _ (by omega), hn]
          have hjm : j - n < m := by omega
          refine ⟨(hv (j - n) hjm).1, fun hk => ?_⟩
          obtain ⟨e1, e2⟩ := (hv (j - n) hjm).2 k hk
          refine ⟨vals (j - n) k, ?_, e1, e2⟩
          have hxl : (C.toList.take (n * ob.sz)).length = n * ob.sz := by simp only [List.length_take, Array.length_toList]; omega
          have hmul : n * ob.sz ≤ j * ob.sz := Nat.mul_le_mul_right _ (by omega)
          rw [hat _ (mul_lt hj hk), List.getElem?_append_right (by omega), hxl]
          have := flat_get (vals := vals) hjm hk
          rw [← this]
          congr 1
          have : (j - n) * ob.sz = j * ob.sz - n * ob.sz := Nat.sub_mul _ _ _
          omega)
    refine ⟨_, _, w', _, hrun, .inl rfl, key.1, ?_, key.2⟩
    refine .sl rfl (by simp [hidl]) fun ob' hob' => ?_
    have : ob' = { ob with els := ob.els ++ els } := by simp [St.at, hidl] at hob'; exact hob'.symm
    subst this
    refine ⟨by simp [hrow.1, hn], fun _ => .inr ⟨by omega, cap', by simp [phi], hnc, hcm, C', ob.ty, (0, 0), by simpa [phi] using hgc, hcs'⟩⟩
end
end Go.Fw
