/-
  Parts of owned rows; rows that are read and written element by element; nil as a row without elements.
-/
import Derived.Test.YthholadaflfpcaaFwY
namespace Go.Fw
open Go Go.RowKit

section
variable {P : Program} {o : Oper} {a : Nat → AV} {S : St}

theorem VR.win_inv {φ : Nat → Nat} {O : Nat → Prop} {w : World} {id n lo len : Nat} {v : Value} {ob : AObj} (h : VR φ S O w (.win id n lo len) v) (hob : S.at id = some ob) (hn : ob.els.length = n) :
    0 < n ∧ lo + len ≤ n ∧ ∃ (A : Option Addr) (cap : Nat), v = .slice A len cap ∧ (0 < cap → A = some ⟨φ id, lo * ob.sz, none⟩) ∧ len ≤ cap ∧ cap ≤ maxLen ∧
        ∃ (C : Array Value) (ty : TypeId) (fr : Nat × Nat), w.heap[φ id]? = some (Obj.cells C ty fr) ∧ C.size = (lo + cap) * ob.sz := by
  cases h with
  | pure h => cases h
  | win h0 h1 h2 => exact (h2 ob hob).2 hn.symm

theorem OpR.winLen {x : Operand} {t e : TypeId} {id n lo len : Nat} {ob : AObj} (h : o.op = .call { callee := .builtin .len, args := #[x], argTypes := #[t] }) (hx : aev a x = .win id n lo len) (ht : P.underlying t = some (.slice e))
    (hob : S.at id = some ob) (hn : ob.els.length = n) : OpR P o a S (.int .i64 len) S := by
  refine OpR.still fun F φ w ac hs ha => ?_
  have ex := VR.eval ha x
  rw [hx] at ex
  obtain ⟨_, _, A, cap, e', _⟩ := ex.win_inv hob hn
  refine ⟨_, ?_, .pure (.int _ _)⟩
  simp [execOp, h, resolve, invoke, builtin, e', Builtin.len_, run_underlying ht, goInt]

theorem OpR.winIdx {t e : TypeId} {x y : Operand} {id n lo len : Nat} {k : IntKind} {i : Int} {ob : AObj} (h : o.op = .indexAddr t x y) (hx : aev a x = .win id n lo len) (hy : aev a y = .int k i) (ht : P.underlying t = some (.slice e)) (he : (P.info? e).map (·.size) = some ob.sz)
    (hob : S.at id = some ob) (hn : ob.els.length = n) (h0 : 0 ≤ i) (h1 : i < len) : OpR P o a S (.ptr id n (lo + i.toNat) 0) S := by
  refine OpR.still fun F φ w ac hs ha => ?_
  have ex := VR.eval ha x
  have ey := VR.eval ha y
  rw [hx] at ex
  rw [hy] at ey
  have ey' := ey.int_inv
  have hidl := St.lt_of_at hob
  obtain ⟨h2, h3, A, cap, e', hA, h4, h5, _⟩ := ex.win_inv hob hn
  rw [hA (by omega)] at e'
  have hrun := run_indexAt (P := P) ht he w (φ id) (lo * ob.sz) len cap k i h0 h1
  refine ⟨_, by simp only [execOp, h, e', ey', Sem.run_bind, hrun, Result.andThen_ok, Sem.run_pure]; rfl, ?_⟩
  refine .ptr rfl hidl fun ob' hob' => ?_
  rw [hob] at hob'
  cases hob'
  exact ⟨by omega, fun _ => by rw [Nat.add_mul]; rfl⟩

theorem run_sliceAt {t e : TypeId} {sz : Nat} (ht : P.underlying t = some (.slice e)) (he : (P.info? e).map (·.size) = some sz) {F : Nat → Prop} {φ : Nat → Nat} {w : World} {ac : Act} (ha : Slots φ S (OO F φ S) w a ac) {A : Option Addr} {n cap l m : Nat} {lo hi : Option Operand}
    (hlo : lo = none ∧ l = 0 ∨ ∃ y k, lo = some y ∧ aev a y = .int k l) (hhi : hi = none ∧ m = n ∨ ∃ y k, hi = some y ∧ aev a y = .int k m) (hlm : l ≤ m) (hmn : m ≤ cap) :
    (Instr.sliceAt t (.slice A n cap) (lo.map ac.eval) (hi.map ac.eval) none).run P w = .ok (.slice (if cap = l then A else A.map (·.add (l * sz))) (m - l) (cap - l)) w := by
  have hsz : (sizeOf e).run P w = .ok sz w := by
    cases hi : P.info? e with
    | none => rw [hi] at he; cases he
    | some ii => rw [hi] at he; simp at he; simp [Go.sizeOf, typeInfo, hi, he]
  have hb : (Instr.sliceBounds true n cap (lo.map ac.eval) (hi.map ac.eval) none).run P w = .ok (l, m, cap) w := by
    have hmi : m ≤ cap := by omega
    have hli : l ≤ m := hlm
    rcases hlo with ⟨rfl, rfl⟩ | ⟨y, k, rfl, hy⟩ <;> rcases hhi with ⟨rfl, rfl⟩ | ⟨y', k', rfl, hy'⟩
    · simp [Instr.sliceBounds]
    · have e' := VR.eval ha y'
      rw [hy'] at e'
      simp [Instr.sliceBounds, Instr.sliceBound, asIntOf, e'.int_inv, hmi]
    · have e' := VR.eval ha y
      rw [hy] at e'
      simp [Instr.sliceBounds, Instr.sliceBound, asIntOf, e'.int_inv, hli]
    · have e1 := VR.eval ha y
      rw [hy] at e1
      have e' := VR.eval ha y'
      rw [hy'] at e'
      simp [Instr.sliceBounds, Instr.sliceBound, asIntOf, e1.int_inv, e'.int_inv, hmi, hli]
  simp only [Instr.sliceAt, Sem.run_bind, run_underlying ht, Result.andThen_ok, Instr.slice, hb, hsz, Sem.run_pure]

/-- A part of an owned row. -/
theorem OpR.slWin {t e : TypeId} {x : Operand} {lo hi : Option Operand} {id n l m : Nat} {ob : AObj} (h : o.op = .slice t x lo hi none) (hx : aev a x = .sl id n) (ht : P.underlying t = some (.slice e)) (he : (P.info? e).map (·.size) = some ob.sz)
    (hob : S.at id = some ob) (hn : ob.els.length = n) (hpos : 0 < n) (hlo : lo = none ∧ l = 0 ∨ ∃ y k, lo = some y ∧ aev a y = .int k l) (hhi : hi = none ∧ m = n ∨ ∃ y k, hi = some y ∧ aev a y = .int k m) (hlm : l ≤ m) (hmn : m ≤ n) : OpR P o a S (.win id n l (m - l)) S := by
  refine OpR.still fun F φ w ac hs ha => ?_
  have ex := VR.eval ha x
  rw [hx] at ex
  generalize hv : ac.eval x = vv at ex
  cases ex with
  | pure ex => cases ex
  | sl hh0 hh1 hh2 =>
    rcases (hh2 ob hob).2 hn.symm with ⟨h0, _⟩ | ⟨_, cap, rfl, h4, h5, C, ty, fr, hC, hsz⟩
    · omega
    have hrun := run_sliceAt (A := some ⟨φ id, 0, none⟩) (n := n) (cap := cap) ht he ha hlo hhi hlm (by omega)
    refine ⟨_, by simp only [execOp, h, hv, Option.map_none, Sem.run_bind, hrun, Result.andThen_ok, Sem.run_pure]; rfl, ?_⟩
    refine .win rfl hh1 fun ob' hob' => ?_
    rw [hob] at hob'
    cases hob'
    refine ⟨by omega, fun _ => ⟨hpos, by omega, _, _, rfl, fun hc => ?_, by omega, by omega, C, ty, fr, hC, ?_⟩⟩
    · rw [if_neg (by omega)]
      simp only [Option.map_some, addr_add, Nat.zero_add]
    · rw [hsz]; congr 1; omega

/-- The whole of an owned row. -/
theorem VR.unwin {φ : Nat → Nat} {O : Nat → Prop} {w : World} {id n : Nat} {v : Value} (h : VR φ S O w (.win id n 0 n) v) : VR φ S O w (.sl id n) v := by
  cases h with
  | pure h => cases h
  | win h0 h1 h2 =>
    refine .sl h0 h1 fun ob hob => ⟨(h2 ob hob).1, fun hn => ?_⟩
    obtain ⟨hp, _, A, cap, rfl, hA, h4, h5, C, ty, fr, hC, hsz⟩ := (h2 ob hob).2 hn
    refine .inr ⟨hp, cap, ?_, h4, h5, C, ty, fr, hC, by rw [hsz, Nat.zero_add]⟩
    rw [hA (by omega), Nat.zero_mul]

/-- append into what an owned row has behind a part of it. -/
theorem OpR.winApp {ts e : TypeId} {d : TypeDesc} {z : Value} {sz bytes n m id lo len : Nat} {x y : Operand} {els : List (List AV)} {ob : AObj} (h : o.op = .call { callee := .builtin .append, args := #[x, y], argTypes := #[ts, ts] })
    (ht : P.underlying ts = some (.slice e)) (he : TY P e d z sz bytes) (hx : aev a x = .win id n lo len) (hob : S.at id = some ob) (hn : ob.els.length = n) (hos : ob.sz = sz) (hot : ob.ty = e) (hsz : 0 < sz)
    (hy : ∀ (F : Nat → Prop) (φ : Nat → Nat) (w : World) (ac : Act), Sim F φ S w → Slots φ S (OO F φ S) w a ac → RowAt φ S (OO F φ S) w (ac.eval y) sz m els) (hfit : lo + len + m ≤ n) :
    OpR P o a S (.win id n lo (len + m)) (S.set id (some { ob with els := ob.els.take (lo + len) ++ els ++ ob.els.drop (lo + len + m) })) := by
  intro F φ w ac hs ha
  have ex := VR.eval ha x
  rw [hx] at ex
  have hrow := hy F φ w ac hs ha
  have hidl := St.lt_of_at hob
  obtain ⟨hpos, hle, A, cap, hve, hA, h4, h5, C, ty, fr, hC, hCs⟩ := ex.win_inv hob hn
  have hne : ob.els ≠ [] := ne_of_lt_len hn hpos
  obtain ⟨C', hC', hCs', hcs⟩ := hs.obj id ob hob hne
  rw [hC] at hC'
  cases hC'
  obtain ⟨i, hi, hz, hs', hb⟩ := he.parts
  obtain ⟨hl, A2, c, vals, hu, h1, h2⟩ := hrow
  subst hos hot
  have hcapn : n ≤ lo + cap := by
    rw [hn, hCs] at hCs'
    exact Nat.le_of_mul_le_mul_right hCs' hsz
  have hlen2 : (ob.els.take (lo + len) ++ els ++ ob.els.drop (lo + len + m)).length = n := by
    simp only [List.length_append, List.length_take, List.length_drop, hl, hn]; omega
  have hwin : ∀ (w' : World) (φ' : Nat → Nat) (S' : St) (O : Nat → Prop) (C2 : Array Value), φ' id = φ id → S'.at id = some { ob with els := ob.els.take (lo + len) ++ els ++ ob.els.drop (lo + len + m) } → w'.heap[φ id]? = some (Obj.cells C2 ob.ty (0, 0)) → C2.size = C.size → VR φ' S' O w' (.win id n lo (len + m)) (.slice A (len + m) cap) := by
    intro w' φ' S' O C2 e1 e2 e3 e4
    refine .win rfl (St.lt_of_at e2) fun o' ho' => ?_
    rw [e2] at ho'
    cases ho'
    refine ⟨by simp only [hlen2]; exact Nat.le_refl _, fun _ => ⟨hpos, by omega, A, cap, rfl, fun hc => by rw [hA hc, e1], by omega, h5, C2, _, _, by rw [e1]; exact e3, by rw [e4, hCs]⟩⟩
  by_cases hm : m = 0
  · subst hm
    have hnil : els = [] := List.length_eq_zero_iff.1 hl
    have hrun : (Builtin.append_ #[ts, ts] o.type #[.slice A len cap, ac.eval y]).run P w = .ok (.slice A len cap) w := by
      rw [hu]
      cases A <;> cases A2 <;> simp [Builtin.append_, run_underlying ht, Go.sizeOf, typeInfo, hi, Builtin.lenOf, Builtin.firstCells, loadCells, loadCellsFrom, h4, storeCells]
    have hS : S.set id (some { ob with els := ob.els.take (lo + len) ++ els ++ ob.els.drop (lo + len + 0) }) = S := by
      rw [hnil, List.append_nil, Nat.add_zero, List.take_append_drop]; exact St.set_same hob
    refine ⟨_, _, w, φ, by simp only [execOp, h, resolve, invoke, builtin, Sem.run_bind, Sem.run_pure, Result.andThen_ok, List.map_toArray, List.map_cons, List.map_nil, hve, hrun]; rfl, .inl rfl, ?_⟩
    have hw := hwin w φ (S.set id (some { ob with els := ob.els.take (lo + len) ++ els ++ ob.els.drop (lo + len + 0) })) (OO F φ S) C rfl (by simp [St.at, hidl]) hC rfl
    rw [hS] at hw ⊢
    exact ⟨hs, hw, Evo.refl _ _ _⟩
  · have hcap : 0 < cap := by omega
    have hA' := hA hcap
    subst hA'
    obtain ⟨ad, rfl, hsp, hc⟩ := h1 (by omega)
    have hnews : ∀ j u, (flat m ob.sz vals)[j]? = some u → w.cell? (ad.add j) = some u := by
      intro j u hu
      obtain ⟨hj, rfl⟩ := flat_cell j u hu
      have hq : j / ob.sz < m := by rw [Nat.div_lt_iff_lt_mul hsz]; exact hj
      have hr : j % ob.sz < ob.sz := Nat.mod_lt _ hsz
      have := hc (j / ob.sz) (j % ob.sz) hq hr
      have e0 : ad.add j = ⟨ad.block, ad.off + j, none⟩ := by have e1 := addr_add ad.block ad.off j; rw [← addr_eta ad hsp] at e1; exact e1
      rw [e0, ← this]
      congr 2
      have := Nat.div_add_mod j ob.sz
      rw [Nat.mul_comm] at this
      omega
    have hone : ∀ u ∈ flat m ob.sz vals, u.oneCell' = true := by
      intro u hu
      obtain ⟨j, hj, rfl⟩ := List.getElem_of_mem hu
      have hj' := hj
      rw [flat_length] at hj'
      obtain ⟨_, e⟩ := flat_cell j _ (List.getElem?_eq_getElem hj)
      rw [e]
      exact ((h2 (j / ob.sz) (by rw [Nat.div_lt_iff_lt_mul hsz]; exact hj')).2 (j % ob.sz) (Nat.mod_lt _ hsz)).1
    have hroom : len + m ≤ cap := by omega
    have hmul : (lo + len + m) * ob.sz ≤ C.size := by rw [hCs]; exact Nat.mul_le_mul_right _ (by omega)
    have hmul2 : lo * ob.sz + len * ob.sz = (lo + len) * ob.sz := (Nat.add_mul _ _ _).symm
    have hmul3 : (lo + len + m) * ob.sz = (lo + len) * ob.sz + m * ob.sz := Nat.add_mul _ _ _
    have hrun : (Builtin.append_ #[ts, ts] o.type #[.slice (some ⟨φ id, lo * ob.sz, none⟩) len cap, .slice (some ad) m c]).run P w = .ok (.slice (some ⟨φ id, lo * ob.sz, none⟩) (len + m) cap) (w.setRow (φ id) (C.toList.take ((lo + len) * ob.sz) ++ flat m ob.sz vals ++ C.toList.drop ((lo + len) * ob.sz + m * ob.sz)).toArray) := by
      have hf := run_firstCells_some (P := P) w ob.sz m ad m c (flat m ob.sz vals) (flat_length _ _ _) (by simpa using hnews)
      have hst := run_storeCells_at P (φ id) ((lo + len) * ob.sz) ob.ty (flat m ob.sz vals) 0 C w hC (by rw [flat_length]; omega) hone
      simp only [Nat.add_zero, flat_length] at hst
      simp only [Builtin.append_, List.size_toArray, List.length_cons, List.length_nil]
      simp [run_underlying ht, sizeOf, typeInfo, hi, Builtin.lenOf, hroom, hs', hf, addr_add, hmul2, hst]
    have key := hs.put id (φ id) { ob with els := ob.els.take (lo + len) ++ els ++ ob.els.drop (lo + len + m) } _ (w' := w.setRow (φ id) (C.toList.take ((lo + len) * ob.sz) ++ flat m ob.sz vals ++ C.toList.drop ((lo + len) * ob.sz + m * ob.sz)).toArray)
      (St.ok_set hidl _) (.inr ⟨ob, hob, rfl, rfl, by simp only [hlen2, hn]; exact Nat.le_refl _, fun _ => rfl⟩)
      (.inl ⟨rfl, ⟨ob, hob, hne⟩, fun C0 ty fr h0 => by
        rw [hC] at h0; cases h0
        simp only [List.size_toArray, List.length_append, List.length_take, List.length_drop, Array.length_toList, flat_length]; omega⟩) rfl rfl rfl (by simp) (fun k _ hk => setRow_other w (φ id) k _ hk) (setRow_heap w (φ id) C _ ob.ty (0, 0) hC)
      (by
        simp only [hlen2, List.size_toArray, List.length_append, List.length_take, List.length_drop, Array.length_toList, flat_length]
        rw [hn] at hCs'; omega)
      (fun j k hj => by
        dsimp only at hj ⊢
        rw [hlen2] at hj
        have htk : (ob.els.take (lo + len)).length = lo + len := by simp [hn]; omega
        have htc : (C.toList.take ((lo + len) * ob.sz)).length = (lo + len) * ob.sz := by simp only [List.length_take, Array.length_toList]; omega
        have hl1 : (ob.els.take (lo + len) ++ els).length = lo + len + m := by simp [hn, hl]; omega
        have hl2 : (C.toList.take ((lo + len) * ob.sz) ++ flat m ob.sz vals).length = (lo + len) * ob.sz + m * ob.sz := by rw [List.length_append, htc, flat_length]
        by_cases h6 : j < lo + len
        · have e1 : (ob.els.take (lo + len) ++ els ++ ob.els.drop (lo + len + m)).getD j [] = ob.els.getD j [] := by
            rw [getD_append_left _ _ _ _ (by omega), getD_append_left _ _ _ _ (by omega)]
            simp [List.getD_eq_getElem?_getD, List.getElem?_take, h6]
          rw [e1]
          refine ⟨(hcs j k (by omega)).1, fun hk => ?_⟩
          obtain ⟨u, u1, u2, u3⟩ := (hcs j k (by omega)).2 hk
          refine ⟨u, ?_, u2, u3⟩
          have hlt := mul_lt h6 hk
          rw [← u1, List.getElem?_toArray, List.getElem?_append_left (by omega), List.getElem?_append_left (by omega), List.getElem?_take, if_pos hlt]
          simp
        · by_cases h7 : j < lo + len + m
          · have hjm : j - (lo + len) < m := by omega
            have e1 : (ob.els.take (lo + len) ++ els ++ ob.els.drop (lo + len + m)).getD j [] = els.getD (j - (lo + len)) [] := by
              rw [getD_append_left _ _ _ _ (by omega), getD_append_right _ _ _ _ (by omega), htk]
            rw [e1]
            refine ⟨(h2 _ hjm).1, fun hk => ?_⟩
            obtain ⟨k1, k2⟩ := (h2 _ hjm).2 k hk
            refine ⟨vals (j - (lo + len)) k, ?_, k1, k2⟩
            have hge : (lo + len) * ob.sz ≤ j * ob.sz := Nat.mul_le_mul_right _ (by omega)
            have hlt := mul_lt hjm hk
            have hsub : (j - (lo + len)) * ob.sz = j * ob.sz - (lo + len) * ob.sz := Nat.sub_mul _ _ _
            rw [List.getElem?_toArray, List.getElem?_append_left (by omega), List.getElem?_append_right (by omega), htc]
            have := flat_get (vals := vals) hjm hk
            rw [← this]
            congr 1
            omega
          · have e1 : (ob.els.take (lo + len) ++ els ++ ob.els.drop (lo + len + m)).getD j [] = ob.els.getD j [] := by
              rw [getD_append_right _ _ _ _ (by omega), hl1]
              simp only [List.getD_eq_getElem?_getD, List.getElem?_drop]
              congr 2; omega
            rw [e1]
            refine ⟨(hcs j k (by omega)).1, fun hk => ?_⟩
            obtain ⟨u, u1, u2, u3⟩ := (hcs j k (by omega)).2 hk
            refine ⟨u, ?_, u2, u3⟩
            have hge : (lo + len + m) * ob.sz ≤ j * ob.sz := Nat.mul_le_mul_right _ (by omega)
            rw [← u1, List.getElem?_toArray, List.getElem?_append_right (by omega), hl2, List.getElem?_drop, Array.getElem?_toList]
            congr 1
            omega)
    refine ⟨_, _, _, _, by simp only [execOp, h, resolve, invoke, builtin, Sem.run_bind, Sem.run_pure, Result.andThen_ok, List.map_toArray, List.map_cons, List.map_nil, hve, hu, hrun]; rfl, .inl rfl, key.1, ?_, key.2⟩
    refine hwin _ _ _ _ _ (by simp [phi]) (by simp [St.at, hidl]) (setRow_heap w (φ id) C _ ob.ty (0, 0) hC) ?_
    simp only [List.size_toArray, List.length_append, List.length_take, List.length_drop, Array.length_toList, flat_length]; omega
end
end Go.Fw
