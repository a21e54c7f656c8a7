/-
  A row of zeros that append makes; nothing's capacity and slices of nothing; windows at the level of regions.
-/
import Derived.Test.YthholadaflfpcaaFxI
import Derived.Lib.AppendZeros
namespace Go.Fw
open Go Go.RowKit Go.Lib
section
variable {P : Program} {o : Oper} {a : Nat → AV} {S : St}
theorem OpR.capNil {x : Operand} {t e : TypeId} (h : o.op = .call { callee := .builtin .cap, args := #[x], argTypes := #[t] }) (hx : aev a x = .nsl) (ht : P.underlying t = some (.slice e)) : OpR P o a S (.int .i64 0) S := by
  refine OpR.still fun F φ w ac hs ha => ?_
  have ex := VR.eval ha x
  rw [hx] at ex
  have hxe : ac.eval x = .slice none 0 0 := by cases ex with | pure ex => generalize ac.eval x = u at ex; cases ex; rfl
  refine ⟨_, ?_, .pure (.int _ _)⟩
  simp [execOp, h, resolve, invoke, builtin, hxe, Builtin.cap_, run_underlying ht, goInt]
theorem OpR.slNil {t e : TypeId} {sz : Nat} {x : Operand} {lo hi : Option Operand} (h : o.op = .slice t x lo hi none) (hx : aev a x = .nsl) (ht : P.underlying t = some (.slice e)) (he : (P.info? e).map (·.size) = some sz)
    (hlo : lo = none) (hhi : ∃ y k, hi = some y ∧ aev a y = .int k 0) : OpR P o a S .nsl S := by
  refine OpR.still fun F φ w ac hs ha => ?_
  have ex := VR.eval ha x
  rw [hx] at ex
  have hxe : ac.eval x = .slice none 0 0 := by cases ex with | pure ex => generalize ac.eval x = u at ex; cases ex; rfl
  obtain ⟨y, k, rfl, hy⟩ := hhi
  subst hlo
  have ey := VR.eval ha y
  rw [hy] at ey
  have hsz : (sizeOf e).run P w = .ok sz w := by
    cases hi : P.info? e with
    | none => rw [hi] at he; cases he
    | some ii => rw [hi] at he; simp at he; simp [Go.sizeOf, typeInfo, hi, he]
  refine ⟨.slice none 0 0, ?_, .pure .nsl⟩
  simp [execOp, h, hxe, Instr.sliceAt, Instr.slice, run_underlying ht, Instr.sliceBounds, Instr.sliceBound, asIntOf, ey.int_inv, hsz]
/-- append(nil, make([]T, n)...), n at least one. -/
theorem OpR.appZ {ts tn e : TypeId} {d : TypeDesc} {z : Value} {sz bytes n : Nat} {x y : Operand} {k kn : IntKind} (h : o.op = .call { callee := .builtin .append, args := #[x, y], argTypes := #[ts, tn] })
    (ht : P.underlying ts = some (.slice e)) (htn : P.underlying tn = some (.int kn)) (he : TY P e d z sz bytes) (hzs : z.cells.size = sz) (hz : (z.cells.toList.all fun u => u.oneCell') = true) (hsz : 0 < sz) (hx : aev a x = .nsl) (hy : aev a y = .int k n)
    (h0 : 0 < n) (hn : n ≤ maxLen) (hb : n * bytes ≤ 281474976710656) : OpR P o a S (.sl S.length n) (S ++ [some ⟨e, sz, List.replicate n (zcells z)⟩]) := by
  intro F φ w ac hs ha
  have ex := VR.eval ha x
  rw [hx] at ex
  have hxe : ac.eval x = .slice none 0 0 := by cases ex with | pure ex => generalize ac.eval x = u at ex; cases ex; rfl
  have ey := VR.eval ha y
  rw [hy] at ey
  obtain ⟨i, hi, hzz, hs', hb'⟩ := he.parts
  have hn' : (n : Int) ≤ 9223372036854775807 := by simp only [maxLen] at hn; omega
  have hr := run_append_nil_zeros (P := P) w ts tn o.type e i z k kn ht htn hi hzz n h0 (by rw [hs']; exact hsz) hn' (by rw [hb']; exact hb)
  have hgc : n ≤ grownCap w n 0 e ∧ grownCap w n 0 e ≤ maxLen := by
    have hlt := Nat.mod_lt (w.tape w.drawn (.appendCap n 0 e)) (show 0 < 2 ^ 63 - n by simp only [maxLen] at hn; omega)
    unfold grownCap Question.cut
    simp only [maxLen] at hn ⊢
    omega
  generalize hcap : grownCap w n 0 e = cap at hr hgc
  have hrun : (execOp ac.eval o).run P w = .ok (.value (.slice (some ⟨w.heap.size, 0, none⟩) n cap)) (w.drew.alloc (.cells (Builtin.zeroCells z.cells n ++ Builtin.zeroCells z.cells (cap - n)) e)) := by
    simp only [execOp, h, resolve, invoke, builtin, Sem.run_bind, Sem.run_pure, Result.andThen_ok, List.map_toArray, List.map_cons, List.map_nil, hxe, ey.int_inv, hr]
  have hz0 : ∀ m, (Builtin.zeroCells z.cells m).size = m * sz := by intro m; simp [Builtin.zeroCells, hzs]
  have hcs : (Builtin.zeroCells z.cells n ++ Builtin.zeroCells z.cells (cap - n)).size = cap * sz := by
    rw [Array.size_append, hz0, hz0, ← Nat.add_mul]
    congr 1; omega
  have hzl : (zcells z).length = sz := by simp [zcells, hzs]
  have key := hs.put S.length w.heap.size ⟨e, sz, List.replicate n (zcells z)⟩ (Builtin.zeroCells z.cells n ++ Builtin.zeroCells z.cells (cap - n)) (w' := w.drew.alloc (.cells (Builtin.zeroCells z.cells n ++ Builtin.zeroCells z.cells (cap - n)) e)) (St.ok_new S _) (.inl rfl) (.inr (Nat.le_refl _)) rfl rfl rfl (by simp)
    (fun k hk _ => (World.grownBy_alloc w.drew _ none).block k hk (by simp)) (heap_alloc_new w.drew _)
    (by simp only [List.length_replicate]; rw [hcs]; exact Nat.mul_le_mul_right _ hgc.1)
    (fun j k hj => by
      have hj' : j < n := by simpa using hj
      have e1 : (List.replicate n (zcells z)).getD j [] = zcells z := by simp [List.getD_eq_getElem?_getD, hj']
      simp only [e1]
      refine ⟨hzl, fun hk => ?_⟩
      have hlt := mul_lt hj' hk
      obtain ⟨_, hc⟩ := CR.zflat φ S (OO F φ S) w z n sz hzs hz
      obtain ⟨u, u1, u2, u3⟩ := hc (j * sz + k) (by simpa [zflat] using hlt)
      refine ⟨u, ?_, u2, ?_⟩
      · rw [Array.getElem?_append_left (by rw [hz0]; exact hlt)]
        have e2 : Builtin.zeroCells z.cells n = (Array.range (n * sz)).map (z.cells[· % z.cells.size]!) := by unfold Builtin.zeroCells; rw [hzs]
        rw [e2]; exact u1
      · have e3 : (zflat z n sz).getD (j * sz + k) .undef = (zcells z).getD k .undef := by
          have hm : (j * sz + k) % sz = k := by rw [Nat.mul_comm, Nat.mul_add_mod, Nat.mod_eq_of_lt hk]
          simp only [zflat, List.getD_eq_getElem?_getD, List.getElem?_map, List.getElem?_range hlt, Option.map_some, Option.getD_some, hm]
        rw [e3] at u3; exact u3)
  refine ⟨_, _, _, _, hrun, .inl rfl, key.1, ?_, key.2⟩
  refine .sl rfl (by simp) fun ob hob => ?_
  have : ob = ⟨e, sz, List.replicate n (zcells z)⟩ := by simp [St.at] at hob; exact hob.symm
  subst this
  refine ⟨by simp, fun _ => .inr ⟨h0, cap, by simp [phi], hgc.1, hgc.2, _, e, (0, 0), by simpa [phi] using heap_alloc_new w.drew _, hcs⟩⟩
end
def builtinOf (o : Oper) : Option (Builtin × List Operand × List TypeId) := match o.op with
  | .call c => match c.callee with
    | .builtin b => some (b, c.args.toList, c.argTypes.toList)
    | _ => none
  | _ => none
theorem builtinOf_ok {o : Oper} {b : Builtin} {xs : List Operand} {ts : List TypeId} (h : builtinOf o = some (b, xs, ts)) : o.op = .call { callee := .builtin b, args := xs.toArray, argTypes := ts.toArray } := by
  unfold builtinOf at h
  split at h
  · rename_i c hc
    split at h
    · rename_i b' hb
      cases h
      rw [hc]
      obtain ⟨ce, ar, at'⟩ := c
      simp only at hb
      subst hb
      rfl
    · cases h
  · cases h
def sliceOf (o : Oper) : Option (TypeId × Operand × Option Operand × Option Operand) := match o.op with
  | .slice t x lo hi none => some (t, x, lo, hi)
  | _ => none
theorem sliceOf_ok {o : Oper} {t : TypeId} {x : Operand} {lo hi : Option Operand} (h : sliceOf o = some (t, x, lo, hi)) : o.op = .slice t x lo hi none := by
  unfold sliceOf at h
  split at h
  · rename_i ho; cases h; exact ho
  · cases h
section
variable {P : Program} {ops : Array Oper} {Post : (Nat → AV) → St → Prop} {a : Nat → AV} {S : St} {o : Oper} {d : Option Nat} {m : Fr} {rest : List Oper}
theorem RG.capNil (T : Tab P) {t e : TypeId} {x : Operand} {j : TI} (h : builtinOf o = some (.cap, [x], [t])) (hd : o.dst = d) (ht : elTI T t = some (e, j)) (hx : aev a x = .nsl) (next : RG P m ops rest (upd a d (.int .i64 0)) S Post) (hgd : agd ops o a = some true := by rfl) (hok : (gdOK m.n ops o && dstOK m.n o.dst) = true := by rfl) : RG P m ops (o :: rest) a S Post := by
  subst hd
  exact RG.op (OpR.capNil (builtinOf_ok h) hx (elTI_ok ht).slice) next hgd hok
theorem RG.slNil (T : Tab P) {t e : TypeId} {x y : Operand} {j : TI} {k : IntKind} (h : sliceOf o = some (t, x, none, some y)) (hd : o.dst = d) (ht : elTI T t = some (e, j)) (hx : aev a x = .nsl) (hy : aev a y = .int k 0) (next : RG P m ops rest (upd a d .nsl) S Post) (hgd : agd ops o a = some true := by rfl) (hok : (gdOK m.n ops o && dstOK m.n o.dst) = true := by rfl) : RG P m ops (o :: rest) a S Post := by
  subst hd
  have hel := elTI_ok ht
  obtain ⟨dd, h1⟩ := hel.ty
  obtain ⟨i, hi, _, hs, _⟩ := h1.parts
  exact RG.op (OpR.slNil (sz := j.sz) (sliceOf_ok h) hx hel.slice (by rw [hi]; simp [hs]) rfl ⟨y, k, rfl, hy⟩) next hgd hok
theorem RG.appZ {α : Type} (T : Tab P) (f : α → List AV) (x0 : α) {t tn e : TypeId} {x y : Operand} {j jn : TI} {n : Nat} {k kn : IntKind} (h : builtinOf o = some (.append, [x, y], [t, tn])) (hd : o.dst = d) (ht : elTI T t = some (e, j)) (htn : T.at_ tn = some jn) (hkn : jn.kd = .int kn) (hx : aev a x = .nsl) (hy : aev a y = .int k n) (hz : zcells j.z = f x0) (hb : Nat.ble 1 j.bytes = true) (hsz : Nat.ble 1 j.sz = true) (h0 : 0 < n) (hn : n * j.bytes ≤ 281474976710656)
    (next : RG P m ops rest (upd a d (.sl S.length n)) (S ++ [some ⟨e, j.sz, (List.replicate n x0).map f⟩]) Post) (hgd : agd ops o a = some true := by rfl) (hok : (gdOK m.n ops o && dstOK m.n o.dst) = true := by rfl) : RG P m ops (o :: rest) a S Post := by
  subst hd
  have hel := elTI_ok ht
  obtain ⟨dd, hd1⟩ := hel.ty
  obtain ⟨d2, h1, h2, _⟩ := (T.ok tn jn htn).ty
  have hu : P.underlying tn = some (.int kn) := by
    rw [h1.1]; rw [hkn] at h2
    cases d2 <;> simp [kindOf] at h2
    rw [h2]
  have := OpR.appZ (S := S) (builtinOf_ok h) hel.slice hu hd1 hel.zsize hel.zone (Nat.le_of_ble_eq_true hsz) hx hy h0 (le_maxLen hb hn) hn
  refine RG.op this ?_ hgd hok
  rw [hz, ← List.map_replicate]
  exact next
/-- A slice of an owned row from its start, as a window. -/
theorem RG.slWin0 (T : Tab P) {t e : TypeId} {x y : Operand} {j : TI} {k : IntKind} {id n q : Nat} {ob : AObj} (h : sliceOf o = some (t, x, none, some y)) (hd : o.dst = d) (ht : elTI T t = some (e, j)) (hx : aev a x = .sl id n) (hy : aev a y = .int k q) (hob : S.at id = some ob) (hos : Nat.beq ob.sz j.sz = true) (hn : ob.els.length = n) (h0 : 0 < n) (hq : q ≤ n)
    (next : RG P m ops rest (upd a d (.win id n 0 q)) S Post) (hgd : agd ops o a = some true := by rfl) (hok : (gdOK m.n ops o && dstOK m.n o.dst) = true := by rfl) : RG P m ops (o :: rest) a S Post := by
  subst hd
  have hel := elTI_ok ht
  obtain ⟨dd, h1⟩ := hel.ty
  obtain ⟨i, hi, _, hs, _⟩ := h1.parts
  have hos' := Nat.eq_of_beq_eq_true hos
  have := OpR.slWin (S := S) (l := 0) (m := q) (sliceOf_ok h) hx hel.slice (by rw [hi]; simp [hs, hos']) hob hn h0 (.inl ⟨rfl, rfl⟩) (.inr ⟨y, k, rfl, hy⟩) (Nat.zero_le _) hq
  rw [Nat.sub_zero] at this
  exact RG.op this next hgd hok
/-- append of a row by value within a window that begins the row. -/
theorem RG.winApp0 {α : Type} (T : Tab P) (f : α → List AV) (x0 : α) (xs ys : List α) {t e : TypeId} {x y : Operand} {j : TI} {id n lo len : Nat} {ty : TypeId} {S' : St} {get : Nat → List AV} (h : builtinOf o = some (.append, [x, y], [t, t])) (hd : o.dst = d) (ht : elTI T t = some (e, j)) (hx : aev a x = .win id n 0 len) (hob : S.at id = some ⟨ty, j.sz, xs.map f⟩) (hty : Nat.beq ty e = true) (hn : xs.length = n) (hsz : Nat.ble 1 j.sz = true)
    (hy : aev a y = .isl j.sz lo get) (hg : ∀ i, i < lo → get i = f (ys.getD i x0)) (hlo : ys.length = lo) (hf : ∀ x, (f x).length = j.sz ∧ (f x).all leaf = true) (hfit : len + lo ≤ n) (hS : List.set S id (some ⟨ty, j.sz, (xs.take len ++ ys ++ xs.drop (len + lo)).map f⟩) = S')
    (next : RG P m ops rest (upd a d (.win id n 0 (len + lo))) S' Post) (hgd : agd ops o a = some true := by rfl) (hok : (gdOK m.n ops o && dstOK m.n o.dst) = true := by rfl) : RG P m ops (o :: rest) a S Post := by
  subst hd hS
  have hel := elTI_ok ht
  obtain ⟨dd, h1⟩ := hel.ty
  have hty' := Nat.eq_of_beq_eq_true hty
  have := OpR.winApp (S := S) (els := ys.map f) (m := lo) (builtinOf_ok h) hel.slice h1 hx hob (by simpa using hn) rfl hty' (Nat.le_of_ble_eq_true hsz) (fun F φ w ac hs ha => by
    have ey := VR.eval ha y
    rw [hy] at ey
    have := rowAt_isl ey (fun i hi => by rw [hg i hi]; exact hf _)
    rwa [els_isl ys x0 hlo hg] at this) (by omega)
  refine RG.op this ?_ hgd hok
  simp only [Nat.zero_add, ← List.map_take, ← List.map_drop, ← List.map_append]
  exact next
end
theorem SealB.rowsL {α : Type} {bo : Prop} {S : St} {id : Nat} {ty : TypeId} {sz : Nat} {l : List α} {f : α → List AV} (d0 : α) (h : S.at id = some ⟨ty, sz, l.map f⟩) (hf : ∀ x ∈ l, (f x).length = sz ∧ (f x).all pv0 = true) {n : Nat} (hn : l.length = n) :
    SealB bo S (.sl id n) (.isl sz l.length fun i => f (l.getD i d0)) := by
  subst hn
  exact SealB.rows d0 h hf rfl
theorem Drop.all (S : St) : Drop S [] := ⟨Nat.zero_le _, fun i o h => by simp [St.at] at h, fun i o h => by simp [St.at] at h⟩
/-- What a function hands on needs no store. -/
theorem FC.ho {P : Program} {g : FuncId} {as : List AV} {r0 : AV} (hc : FC P g as [] (fun r _ => r = r0)) (hr : ho2 r0 = true) : FC P g as [] (fun r S' => S' = [] ∧ r = r0) := by
  refine ⟨hc.1, fun F φ w vs hs hv => (hc.2 F φ w vs hs hv).mono ?_⟩
  rintro e w' ⟨r, S', F', φ', v, rfl, rfl, hs', hv', he, hgr⟩
  refine ⟨r, [], F', φ', v, ⟨rfl, rfl⟩, rfl, Sim.empty hs'.fl, ?_, he.drop (Drop.all _) (Nat.le_refl _), hgr⟩
  have h0 : ∀ u v, ho0 u = true → VR φ' S' (OO F' φ' S') w' u v → VR φ' [] (OO F' φ' []) w' u v := by
    intro u v hu hv
    cases hv with
    | pure hv => refine .pure ?_; cases hv <;> first | (simp [ho0] at hu; done) | constructor
    | own h1 h2 h3 h4 => exact .own (fun x hx => .inl ((h1 x hx).resolve_right (h2 x hx))) (fun x _ => own_nil _ _) h3 h4
    | _ => simp [ho0] at hu
  have h1 : ∀ u v, ho1 u = true → VR φ' S' (OO F' φ' S') w' u v → VR φ' [] (OO F' φ' []) w' u v := by
    intro u v hu hv
    cases u with
    | agg cs =>
      obtain ⟨xs, rfl, e1, e2⟩ := hv.agg_inv
      exact .agg e1 fun j hj => h0 _ _ (all_getD hu hj) (e2 j hj)
    | _ => exact h0 _ _ hu hv
  cases r with
  | tup cs =>
    obtain ⟨xs, rfl, e1, e2⟩ := hv'.tup_inv
    exact .tup e1 fun j hj => h1 _ _ (all_getD hr hj) (e2 j hj)
  | _ => exact h1 _ _ hr hv'
/-- The cells of an element that begins with what it owns and goes on with numbers. -/
theorem cells_ownS {I : Gh} {b : AV} {xs : List AV} {sz : Nat} (hb : Made0 (.own I b) b) (hx : xs.all scal0 = true) (hsz : xs.length + 1 = sz) : Cells sz (b :: xs) (.own I b :: xs) := by
  subst hsz
  have hs : ∀ j, j < xs.length → scal0 (xs.getD j .undef) = true := fun j hj => all_getD hx hj
  have hno : ∀ j x, j < xs.length → ¬ OS (xs.getD j .undef) x := fun j x hj h => by
    have := hs j hj
    revert h this
    generalize xs.getD j .undef = v
    intro h
    cases h <;> simp [scal0]
  refine ⟨rfl, fun j hj => ?_, fun j j' x hj hj' h1 h2 => ?_⟩
  · cases j with
    | zero => exact hb
    | succ j =>
      simp only [List.getD_cons_succ]
      have := hs j (by omega)
      revert this
      generalize xs.getD j .undef = v
      intro hv
      cases v <;> first | (simp [scal0] at hv; done) | exact ⟨rfl, hv⟩
  · cases j with
    | zero =>
      cases j' with
      | zero => rfl
      | succ j' => exact absurd h2 (by simpa using hno j' x (by omega))
    | succ j => exact absurd h1 (by simpa using hno j x (by omega))
end Go.Fw
