/-
  What is dropped, loops, whole functions.
-/
import Derived.Test.YthholadaflfpcaaFwJ
namespace Go.Fw
open Go Go.RowKit

/-! References below L alone. -/
def sc0 (L : Nat) : AV → Bool
  | .sl id _ => id < L
  | .ptr id _ _ _ => id < L
  | .win id _ _ _ => id < L
  | .agg _ | .tup _ | .fn .. => false
  | _ => true
def sc1 (L : Nat) : AV → Bool
  | .agg cs => cs.all (sc0 L)
  | v => sc0 L v
def sc (L : Nat) : AV → Bool
  | .tup vs => vs.all (sc1 L)
  | .fn _ first caps => first.all (sc1 L) && caps.all (sc1 L)
  | v => sc1 L v

/-- A store with fewer objects. -/
structure Drop (S S' : St) : Prop where
  len : S'.length ≤ S.length
  sub : ∀ i o, S'.at i = some o → S.at i = some o
  cells : ∀ i o, S'.at i = some o → ∀ j, j < o.els.length → ∀ k, k < o.sz → sc0 S'.length ((o.els.getD j []).getD k .undef) = true

theorem VI.sub {O O' : Nat → Prop} {w : World} {av : AV} {v : Value} (h : VI O w av v) (hO : ∀ b, O' b → O b) : VI O' w av v :=
  h.move (fun _ _ _ _ h => h) (fun b _ _ hb _ ho => hb (hO b ho))

theorem Own.sub {φ : Nat → Nat} {S S' : St} (h : ∀ i o, S'.at i = some o → S.at i = some o) {b : Nat} (hb : Own φ S' b) : Own φ S b := by
  obtain ⟨i, o, h1, h2, h3⟩ := hb
  exact ⟨i, o, h i o h1, h2, h3⟩

theorem sc0_drop {φ : Nat → Nat} {S S' : St} {O O' : Nat → Prop} {w : World} {av : AV} {v : Value} (h : VR φ S O w av v) (hs : ∀ i o, S'.at i = some o → S.at i = some o) (hO : ∀ b, O' b → O b) (hX : ∀ b, O b → ¬ Own φ S b → O' b) (hc : sc0 S'.length av = true) : VR φ S' O' w av v := by
  cases h with
  | pure h => exact .pure (h.sub hO)
  | sl h0 h1 h2 => exact .sl h0 (by simpa [sc0] using hc) fun o ho => h2 o (hs _ _ ho)
  | ptr h0 h1 h2 => exact .ptr h0 (by simpa [sc0] using hc) fun o ho => h2 o (hs _ _ ho)
  | win h0 h1 h2 => exact .win h0 (by simpa [sc0] using hc) fun o ho => h2 o (hs _ _ ho)
  | fn => simp [sc0] at hc
  | agg => simp [sc0] at hc
  | tup => simp [sc0] at hc
  | own h1 h2 h3 h4 => exact .own (fun x hx => hX x (h1 x hx) (h2 x hx)) (fun x hx ho => h2 x hx (Own.sub hs ho)) h3 h4

theorem all_getD {f : AV → Bool} {l : List AV} (h : l.all f = true) {j : Nat} (hj : j < l.length) : f (l.getD j .undef) = true := by
  rw [List.all_eq_true] at h
  refine h _ ?_
  rw [List.getD_eq_getElem?_getD, List.getElem?_eq_getElem hj]
  exact List.getElem_mem hj

theorem sc1_drop {φ : Nat → Nat} {S S' : St} {O O' : Nat → Prop} {w : World} {av : AV} {v : Value} (h : VR φ S O w av v) (hs : ∀ i o, S'.at i = some o → S.at i = some o) (hO : ∀ b, O' b → O b) (hX : ∀ b, O b → ¬ Own φ S b → O' b) (hc : sc1 S'.length av = true) : VR φ S' O' w av v := by
  cases h with
  | pure h => exact .pure (h.sub hO)
  | sl h0 h1 h2 => exact sc0_drop (.sl h0 h1 h2) hs hO hX hc
  | ptr h0 h1 h2 => exact sc0_drop (.ptr h0 h1 h2) hs hO hX hc
  | win h0 h1 h2 => exact sc0_drop (.win h0 h1 h2) hs hO hX hc
  | fn => simp [sc1, sc0] at hc
  | agg h1 h2 => exact .agg h1 fun j hj => sc0_drop (h2 j hj) hs hO hX (all_getD (by simpa [sc1] using hc) hj)
  | tup => simp [sc1, sc0] at hc
  | own h1 h2 h3 h4 => exact sc0_drop (.own h1 h2 h3 h4) hs hO hX hc

theorem sc_drop {φ : Nat → Nat} {S S' : St} {O O' : Nat → Prop} {w : World} {av : AV} {v : Value} (h : VR φ S O w av v) (hs : ∀ i o, S'.at i = some o → S.at i = some o) (hO : ∀ b, O' b → O b) (hX : ∀ b, O b → ¬ Own φ S b → O' b) (hc : sc S'.length av = true) : VR φ S' O' w av v := by
  cases h with
  | pure h => exact .pure (h.sub hO)
  | sl h0 h1 h2 => exact sc1_drop (.sl h0 h1 h2) hs hO hX hc
  | ptr h0 h1 h2 => exact sc1_drop (.ptr h0 h1 h2) hs hO hX hc
  | win h0 h1 h2 => exact sc1_drop (.win h0 h1 h2) hs hO hX hc
  | fn h1 h2 h3 h4 =>
    simp only [sc, Bool.and_eq_true] at hc
    exact .fn h1 (fun j hj => sc1_drop (h2 j hj) hs hO hX (all_getD hc.1 hj)) h3 (fun j hj => sc1_drop (h4 j hj) hs hO hX (all_getD hc.2 hj))
  | agg h1 h2 => exact sc1_drop (.agg h1 h2) hs hO hX hc
  | own h1 h2 h3 h4 => exact sc1_drop (.own h1 h2 h3 h4) hs hO hX hc
  | tup h1 h2 => exact .tup h1 fun j hj => sc1_drop (h2 j hj) hs hO hX (all_getD (by simpa [sc] using hc) hj)


theorem OO.rest {F : Nat → Prop} {φ : Nat → Nat} {S S' : St} (b : Nat) (hb : OO F φ S b) (hn : ¬ Own φ S b) : OO F φ S' b := .inl (hb.resolve_right hn)

theorem OO.sub {F : Nat → Prop} {φ : Nat → Nat} {S S' : St} (h : ∀ i o, S'.at i = some o → S.at i = some o) (b : Nat) (hb : OO F φ S' b) : OO F φ S b := hb.imp id (Own.sub h)

theorem Sim.drop {F : Nat → Prop} {φ : Nat → Nat} {S S' : St} {w : World} (hs : Sim F φ S w) (hd : Drop S S') : Sim F φ S' w := by
  refine ⟨hs.fl, fun i o h => hs.nf i o (hd.sub i o h), fun i j o o' h hn h' hn' => hs.inj i j o o' (hd.sub i o h) hn (hd.sub j o' h') hn', fun i o h hn => ?_⟩
  obtain ⟨C, h1, h2, h3⟩ := hs.obj i o (hd.sub i o h) hn
  refine ⟨C, h1, h2, fun j k hj => ⟨(h3 j k hj).1, fun hk => ?_⟩⟩
  obtain ⟨v, e1, e2, e3⟩ := (h3 j k hj).2 hk
  exact ⟨v, e1, e2, sc0_drop e3 hd.sub (OO.sub hd.sub) OO.rest (hd.cells i o h j hj k hk)⟩

theorem Evo.drop {φ φ' : Nat → Nat} {S S1 S2 : St} {w w' : World} (h : Evo φ S w φ' S1 w') (hd : Drop S1 S2) (hl : S.length ≤ S2.length) : Evo φ S w φ' S2 w' :=
  ⟨h.os, h.tape, h.output, h.hsize, hl, h.unch, h.csize, fun b hb ho => h.own b hb (Own.sub hd.sub ho), fun i o hi ho => h.old i o hi (hd.sub i o ho)⟩

theorem EvoB.drop {B F : Nat → Prop} {φ φ' : Nat → Nat} {S S1 S2 : St} {w w' : World} (h : EvoB B F φ S w φ' S1 w') (hd : Drop S1 S2) (hl : S.length ≤ S2.length) : EvoB B F φ S w φ' S2 w' :=
  ⟨h.os, h.tape, h.output, h.hsize, hl, h.unch, h.csize, fun b hb ho => h.own b hb (Own.sub hd.sub ho), fun i o hi ho => h.old i o hi (hd.sub i o ho)⟩

/-- Slots told one by one; all others hold anything. -/
def asl : List (Nat × AV) → Nat → AV
  | [], _ => .undef
  | (k, v) :: l, t => if t = k then v else asl l t

def Agree (a : Nat → AV) (L : Nat) : List (Nat × AV) → Prop
  | [] => True
  | (k, v) :: l => a k = v ∧ sc L v = true ∧ Agree a L l

theorem Agree.slots {a : Nat → AV} {L : Nat} : ∀ {l : List (Nat × AV)}, Agree a L l → ∀ t, asl l t = .undef ∨ (asl l t = a t ∧ sc L (a t) = true)
  | [], _, _ => .inl rfl
  | (k, v) :: l, h, t => by
    obtain ⟨h1, h2, h3⟩ := h
    by_cases e : t = k
    · subst e; right; simp [asl, h1, h2]
    · simp only [asl, if_neg e]; exact h3.slots t

theorem Good.drop {F : Nat → Prop} {φ : Nat → Nat} {S S' : St} {w : World} {m : Fr} {a : Nat → AV} {ac : Act} (h : Good F φ S w m a ac) (hd : Drop S S') {l : List (Nat × AV)} (hl : Agree a S'.length l) : Good F φ S' w m (asl l) ac := by
  refine ⟨h.sim.drop hd, h.defers, h.size, fun t => ?_, h.bd⟩
  rcases hl.slots t with e | ⟨e, hc⟩
  · rw [e]; exact .pure (.undef _)
  · rw [e]; exact sc_drop (h.slots t) hd.sub (OO.sub hd.sub) OO.rest hc

/-- Nothing is dropped that is kept. -/
theorem Drop.refl {S : St} (h : ∀ i o, S.at i = some o → ∀ j, j < o.els.length → ∀ k, k < o.sz → sc0 S.length ((o.els.getD j []).getD k .undef) = true) : Drop S S := ⟨Nat.le_refl _, fun _ _ h => h, h⟩

section
variable {P : Program} {m : Fr} {a : Nat → AV} {S : St} {Post : Exit → (Nat → AV) → St → Prop}

/-- A loop: at its head the slots and the store are as Inv tells them; each round lowers n. -/
theorem SC.loop {c : Code} (Inv : Nat → List (Nat × AV) → St → Prop) (n0 : Nat) (l0 : List (Nat × AV)) (S0 : St) (h0 : Inv n0 l0 S0) (hd : Drop S S0) (hl : Agree a S0.length l0) (hS : S.length ≤ S0.length)
    (hlen : ∀ n l S', Inv n l S' → S.length ≤ S'.length)
    (round : ∀ n l S1, Inv n l S1 → SC P m c (asl l) S1 (thenP (fun a' S' => ∃ n' l' S'', n' < n ∧ Inv n' l' S'' ∧ Drop S' S'' ∧ Agree a' S''.length l') Post)) : SC P m (.loop c) a S Post := by
  intro F φ w ac Q hg hq
  refine wp_loop_ghost (fun n ac' w' => ∃ l S' F' φ', Inv n l S' ∧ Good F' φ' S' w' m (asl l) ac' ∧ EvoB m.B F φ S w φ' S' w' ∧ Gro F w F') n0
    ⟨l0, S0, F, φ, h0, hg.drop hd hl, ((Evo.refl φ S w).drop hd hS).toB _ _, Gro.refl _ _⟩ ?_
  rintro n ac' w' ⟨l, S', F', φ', hi, hg', he, hgr⟩
  refine round n l S' hi F' φ' w' ac' _ hg' fun e a'' S'' F'' φ'' w'' ac'' hp hg'' he'' hgr'' => ?_
  cases e with
  | normal =>
    obtain ⟨n', l', S3, hlt, hi', hd', hl'⟩ := hp
    exact ⟨n', hlt, l', S3, F'', φ'', hi', hg''.drop hd' hl', (he.trans hgr he'').drop hd' (hlen _ _ _ hi'), hgr.trans hgr'' he.hsize⟩
  | _ => exact hq _ _ _ _ _ _ _ hp hg'' (he.trans hgr he'') (hgr.trans hgr'' he.hsize)

/-- What holds at one place is forgotten but for what is told. -/
theorem SC.weak {c : Code} {l : List (Nat × AV)} {S0 : St} (hd : Drop S S0) (hl : Agree a S0.length l) (hS : S.length ≤ S0.length) (h : SC P m c (asl l) S0 Post) : SC P m c a S Post := by
  intro F φ w ac Q hg hq
  refine h F φ w ac Q (hg.drop hd hl) fun e a' S' F' φ' w' ac' hp hg' he hgr => hq e a' S' F' φ' w' ac' hp hg' ?_ hgr
  exact (((Evo.refl φ S w).drop hd hS).toB _ _).trans (Gro.refl _ _) he
end

/-! Results. -/
def RV (P : Program) (a : Nat → AV) (S : St) : ResultVar → AV → Prop
  | .tmp t, v => a t = v
  | .cell t ty, v => ∃ sz agg, TyI P ty sz agg ∧ (agg = false → sz = 1) ∧ ald S sz agg (a t) = some v

def RVs (P : Program) (a : Nat → AV) (S : St) : List ResultVar → List AV → Prop
  | [], [] => True
  | r :: rs, v :: vs => RV P a S r v ∧ RVs P a S rs vs
  | _, _ => False

def tupOf : List AV → AV
  | [v] => v
  | vs => .tup vs

def rvSem (ts : Array Value) : ResultVar → Sem Value
  | .tmp t => pure (ts.getD t undef)
  | .cell t ty => do loadVar ty (← asAddr (ts.getD t undef))

theorem RV.run {P : Program} {F : Nat → Prop} {φ : Nat → Nat} {S : St} {w : World} {m : Fr} {a : Nat → AV} {ac : Act} (hg : Good F φ S w m a ac) {rv : ResultVar} {v : AV} (h : RV P a S rv v) :
    ∃ u, (rvSem ac.tmps rv).run P w = .ok u w ∧ VR φ S (OO F φ S) w v u := by
  cases rv with
  | tmp t =>
    subst h
    exact ⟨_, rfl, hg.slots t⟩
  | cell t ty =>
    obtain ⟨sz, agg, ht, h1, hl⟩ := h
    obtain ⟨ad, u, e, hrun, hv⟩ := load_at hg.sim (hg.slots t) ht h1 hl
    refine ⟨u, ?_, hv⟩
    simp only [rvSem, e, asAddr, Sem.run_bind, Sem.run_pure, Result.andThen_ok, hrun]

theorem results_run {P : Program} {F : Nat → Prop} {φ : Nat → Nat} {S : St} {w : World} {m : Fr} {a : Nat → AV} {ac : Act} (hg : Good F φ S w m a ac) : ∀ {rs : List ResultVar} {vs : List AV}, RVs P a S rs vs →
    ∃ us : List Value, (rs.mapM (rvSem ac.tmps)).run P w = .ok us w ∧ us.length = vs.length ∧ ∀ j, j < vs.length → VR φ S (OO F φ S) w (vs.getD j .undef) (us.getD j undef)
  | [], [], _ => ⟨[], by simp, rfl, fun j hj => absurd hj (Nat.not_lt_zero _)⟩
  | [], _ :: _, h => by cases h
  | _ :: _, [], h => by cases h
  | r :: rs, v :: vs, h => by
    obtain ⟨h1, h2⟩ := h
    obtain ⟨u, hu, hv⟩ := RV.run hg h1
    obtain ⟨us, hus, hl, hvs⟩ := results_run hg h2
    refine ⟨u :: us, ?_, by simp [hl], fun j hj => ?_⟩
    · simp only [List.mapM_cons, Sem.run_bind, hu, hus, Result.andThen_ok, Sem.run_pure]
    · cases j with
      | zero => exact hv
      | succ j => simpa using hvs j (by simpa using hj)

/-- A function's frame at its begin. -/
def argSlots (args : List AV) : Nat → AV := fun t => args.getD t .undef

theorem FC.body0 {P : Program} {g : FuncId} {fn : Func} {c : Code} {args : List AV} {S : St} {Post : AV → St → Prop} (hf : P.funcs[g]? = some fn) (hb : fn.body = some c) (hname : (fn.name == "runtime.NumGoroutine") = false) (hm : args.length ≤ fn.ntmps)
    (h : ∀ B, SC P ⟨fn.ntmps, B⟩ c (argSlots args) S (fun e a' S' => (e = .normal ∨ e = .ret) ∧ ∃ vs, RVs P a' S' fn.results.toList vs ∧ Post (tupOf vs) S')) : FC P g args S Post := by
  refine ⟨⟨fn, hf, hname, by rw [hb]; rfl⟩, fun F φ w vs hs hv => ?_⟩
  refine calls_of_wp hf hb ?_
  have hsz : (vs.toArray ++ Array.replicate (fn.ntmps - vs.toArray.size) undef).size = fn.ntmps := by simp [hv.1]; omega
  have hgood : Good F φ S w ⟨fn.ntmps, fun x => x < w.heap.size⟩ (argSlots args) { tmps := vs.toArray ++ Array.replicate (fn.ntmps - vs.toArray.size) undef, defers := [] } := by
    refine ⟨hs, rfl, hsz, fun t => ?_, fun _ hx => hx⟩
    by_cases ht : t < args.length
    · have := hv.2 t ht
      have e : (vs.toArray ++ Array.replicate (fn.ntmps - vs.toArray.size) undef).getD t undef = vs.getD t undef := by
        simp [Array.getD_eq_getD_getElem?, Array.getElem?_append, hv.1, ht]
      rw [e]
      exact this
    · have e : argSlots args t = .undef := by unfold argSlots; rw [List.getD_eq_getElem?_getD, List.getElem?_eq_none (by omega)]; rfl
      rw [e]
      exact .pure (.undef _)
  refine h _ F φ w _ _ hgood fun e a' S' F' φ' w' ac' hp hg' heB hgr => ?_
  have he := heB.all fun _ hx => hx
  obtain ⟨hend, vs', hr, hpost⟩ := hp
  obtain ⟨us, hrun, hul, huv⟩ := results_run hg' hr
  have hres : (results fn ac'.tmps).run P w' = .ok (if us.length = 1 then us.getD 0 undef else .tuple us.toArray) w' := by
    have e : results fn ac'.tmps = (do let vs ← fn.results.mapM (rvSem ac'.tmps); pure (if h : vs.size = 1 then vs[0] else .tuple vs)) := by
      unfold results
      congr 1
    rw [e, Array.mapM_eq_mapM_toList]
    simp only [Sem.run_bind, Sem.run_map, hrun, Result.andThen_ok, Sem.run_pure, List.size_toArray]
    by_cases h1 : us.length = 1
    · rw [dif_pos h1, if_pos h1]
      congr 1
      simp [List.getD_eq_getElem?_getD, h1]
    · rw [dif_neg h1, if_neg h1]
  have hv' : VR φ' S' (OO F' φ' S') w' (tupOf vs') (if us.length = 1 then us.getD 0 undef else .tuple us.toArray) := by
    match vs', hul, huv with
    | [], hul, huv => 
      rw [if_neg (by simp at hul; simp [hul])]
      exact .tup (by simp [hul]) fun j hj => absurd hj (Nat.not_lt_zero _)
    | [v], hul, huv => rw [if_pos (by simpa using hul)]; exact huv 0 (by simp)
    | v :: v' :: vs, hul, huv =>
      rw [if_neg (by simp at hul; omega)]
      refine .tup (by simp [hul]) fun j hj => ?_
      have := huv j hj
      simpa [List.getD_eq_getElem?_getD, Array.getD_eq_getD_getElem?] using this
  have hfin : ∃ r S3 F3 φ3 v, Post r S3 ∧ Ending.returned (if us.length = 1 then us.getD 0 undef else .tuple us.toArray) = .returned v ∧ Sim F3 φ3 S3 w' ∧ VR φ3 S3 (OO F3 φ3 S3) w' r v ∧ Evo φ S w φ3 S3 w' ∧ Gro F w F3 :=
    ⟨tupOf vs', S', F', φ', _, hpost, rfl, hg'.sim, hv', he, hgr⟩
  rcases hend with rfl | rfl
  · exact ⟨hg'.defers, _, hres, hfin⟩
  · exact ⟨hg'.defers, _, hres, hfin⟩

/-- Objects are dropped behind a call. -/
theorem FC.drop {P : Program} {g : FuncId} {args : List AV} {S : St} {Post : AV → St → Prop} (h : FC P g args S (fun r S' => ∃ S'', Drop S' S'' ∧ S.length ≤ S''.length ∧ sc S''.length r = true ∧ Post r S'')) : FC P g args S Post := by
  refine ⟨h.1, fun F φ w vs hs hv => (h.2 F φ w vs hs hv).mono ?_⟩
  rintro e w' ⟨r, S', F', φ', v, ⟨S'', hd, hl, hc, hp⟩, rfl, hs', hv', he, hgr⟩
  exact ⟨r, S'', F', φ', v, hp, rfl, hs'.drop hd, sc_drop hv' hd.sub (OO.sub hd.sub) OO.rest hc, he.drop hd hl, hgr⟩
end Go.Fw
