/-
  Functions that write what they own: their texts; rows of which each element owns a row.
-/
import Derived.Test.YthholadaflfpcaaFxD
namespace Go.Fw
open Go Go.RowKit

/-- Where a value of one's own stands. -/
def Has (a : Nat → AV) (S : St) (I : Gh) (b : AV) : Prop := (∃ t, (I, b) ∈ own2 (a t)) ∨ ∃ id ob i j, S.at id = some ob ∧ i < ob.els.length ∧ j < ob.sz ∧ (ob.els.getD i []).getD j .undef = .own I b

structure EndM (P : Program) (rs : List ResultVar) (L : OwnL) (r : AV) (bs' : List AV) (e : Exit) (a : Nat → AV) (S : St) : Prop where
  at_ : e = .normal ∨ e = .ret
  res : ∃ vs, RVs P a S rs vs ∧ tupOf vs = r
  has : ∀ (q : Nat) (I : Gh) (b : AV), L[q]? = some (I, b) → Has a S I (bs'.getD q .undef)

section
variable {P : Program} {g : FuncId}
theorem Has.phys {F : Nat → Prop} {φ : Nat → Nat} {S : St} {w : World} {m : Fr} {a : Nat → AV} {ac : Act} (hg : Good F φ S w m a ac) {I : Gh} {b : AV} (h : Has a S I b) : Phys w I.bl b I.val := by
  have key : ∀ v, VR φ S (OO F φ S) w (.own I b) v → Phys w I.bl b I.val := by
    intro v hv
    cases hv with
    | pure hv => cases hv
    | own h1 h2 h3 h4 => rw [← h4]; exact h3
  rcases h with ⟨t, ht⟩ | ⟨id, ob, i, j, h1, h2, h3, h4⟩
  · exact key _ ((hg.slots t).own2 ht)
  · obtain ⟨C, e1, e2, e3⟩ := hg.sim.obj id ob h1 (ne_of_lt_len rfl h2)
    obtain ⟨u, _, _, hu⟩ := (e3 i j h2).2 h3
    rw [h4] at hu
    exact key _ hu

theorem MO.text {fn : Func} {c : Code} {bs bs' : List AV} {asf : List Gh → List AV} {r : AV} (hf : P.funcs[g]? = some fn) (hb : fn.body = some c) (hname : (fn.name == "runtime.NumGoroutine") = false) (hm : ∀ Is : List Gh, Is.length = bs.length → (asf Is).length ≤ fn.ntmps) (hpure : ∀ Is : List Gh, Is.length = bs.length → (asf Is).all (fun v => pv v || ho2 v) = true) (hr : resOK r = true)
    (h : ∀ (L : OwnL), L.map (·.2) = bs → OwnDis L → ∀ B, (∀ x, MB L x → ¬ B x) → SC P ⟨fn.ntmps, B⟩ c (argSlots (asf (L.map (·.1)))) [] (EndM P fn.results.toList L r bs')) : MO P g bs asf r bs' := by
  refine ⟨⟨fn, hf, hname, by rw [hb]; rfl⟩, fun L hbs hd F φ S w vs hs hv hL => ?_⟩
  have hlen : (L.map (·.1)).length = bs.length := by rw [← hbs]; simp
  have hF : ∀ b, OO F φ S b → b < w.heap.size := by
    rintro b (h | ⟨i, o, h, hn, rfl⟩)
    · exact hs.fl b h
    · exact hs.lt h hn
  have h0 : ∀ u v, ho0 u = true → VR φ S (OO F φ S) w u v → VR φ [] (OO (OO F φ S) φ []) w u v := by
    intro u v hu hv
    cases hv with
    | pure hv => refine .pure ?_; cases hv <;> first | (simp [ho0] at hu; done) | constructor
    | own h1 h2 h3 h4 => exact .own (fun x hx => .inl (h1 x hx)) (fun x _ => own_nil _ _) h3 h4
    | _ => simp [ho0] at hu
  have h1 : ∀ u v, ho1 u = true → VR φ S (OO F φ S) w u v → VR φ [] (OO (OO F φ S) φ []) w u v := by
    intro u v hu hv
    cases u with
    | agg cs =>
      obtain ⟨xs, rfl, e1, e2⟩ := hv.agg_inv
      exact .agg e1 fun j hj => h0 _ _ (all_getD hu hj) (e2 j hj)
    | _ => exact h0 _ _ hu hv
  have h2 : ∀ u v, ho2 u = true → VR φ S (OO F φ S) w u v → VR φ [] (OO (OO F φ S) φ []) w u v := by
    intro u v hu hv
    cases u with
    | tup cs =>
      obtain ⟨xs, rfl, e1, e2⟩ := hv.tup_inv
      exact .tup e1 fun j hj => h1 _ _ (all_getD hu hj) (e2 j hj)
    | _ => exact h1 _ _ hu hv
  have hargs : VRs φ [] (OO (OO F φ S) φ []) w (asf (L.map (·.1))) vs := by
    refine ⟨hv.1, fun j hj => ?_⟩
    have := all_getD (f := fun v => pv v || ho2 v) (hpure _ hlen) hj
    simp only [Bool.or_eq_true] at this
    rcases this with h | h
    · exact .pure (((hv.2 j hj).vi h).sub fun b hb => oo_nil.1 hb)
    · exact h2 _ _ h (hv.2 j hj)
  have hMlt : ∀ x, MB L x → x < w.heap.size := by
    rintro x ⟨q, I, b, k1, k2⟩
    have := hL q I b k1
    generalize I.val = v at this
    cases this with
    | pure h => cases h
    | own e1 e2 e3 e4 => exact e3.lt x k2
  have hsc := h L hbs hd (fun x => x < w.heap.size ∧ ¬ MB L x) (fun x hx hb => hb.2 hx)
  refine calls_of_wp hf hb ?_
  have hml := hm _ hlen
  have hsz : (vs.toArray ++ Array.replicate (fn.ntmps - vs.toArray.size) undef).size = fn.ntmps := by simp [hv.1]; omega
  have hgood : Good (OO F φ S) φ [] w ⟨fn.ntmps, fun x => x < w.heap.size ∧ ¬ MB L x⟩ (argSlots (asf (L.map (·.1)))) { tmps := vs.toArray ++ Array.replicate (fn.ntmps - vs.toArray.size) undef, defers := [] } := by
    refine ⟨Sim.empty hF, rfl, hsz, fun t => ?_, fun _ hx => hx.1⟩
    by_cases ht : t < (asf (L.map (·.1))).length
    · have := hargs.2 t ht
      have e : (vs.toArray ++ Array.replicate (fn.ntmps - vs.toArray.size) undef).getD t undef = vs.getD t undef := by
        have : t < vs.length := by rw [hv.1]; exact ht
        simp [Array.getD_eq_getD_getElem?, Array.getElem?_append, this]
      rw [e]
      exact this
    · have e : argSlots (asf (L.map (·.1))) t = .undef := by unfold argSlots; rw [List.getD_eq_getElem?_getD, List.getElem?_eq_none (by omega)]; rfl
      rw [e]
      exact .pure (.undef _)
  refine hsc (OO F φ S) φ w _ _ hgood fun e a' S' F' φ' w' ac' hp hg' he hgr => ?_
  obtain ⟨hend, ⟨vs', hrv, hpost⟩, hhas⟩ := hp
  obtain ⟨us, hrun, hul, huv⟩ := results_run hg' hrv
  have hres : (results fn ac'.tmps).run P w' = .ok (if us.length = 1 then us.getD 0 undef else .tuple us.toArray) w' := by
    have e : results fn ac'.tmps = (do let vs ← fn.results.mapM (rvSem ac'.tmps); pure (if h : vs.size = 1 then vs[0] else .tuple vs)) := by
      unfold results
      congr 1
    rw [e, Array.mapM_eq_mapM_toList]
    simp only [Sem.run_bind, Sem.run_map, hrun, Result.andThen_ok, Sem.run_pure, List.size_toArray]
    by_cases h1 : us.length = 1
    · rw [dif_pos h1, if_pos h1]
      congr 1
      simp [List.getD_eq_getElem?_getD, h1]
    · rw [dif_neg h1, if_neg h1]
  have hv' : VR φ' S' (OO F' φ' S') w' (tupOf vs') (if us.length = 1 then us.getD 0 undef else .tuple us.toArray) := by
    match vs', hul, huv with
    | [], hul, huv => 
      rw [if_neg (by simp at hul; simp [hul])]
      exact .tup (by simp [hul]) fun j hj => absurd hj (Nat.not_lt_zero _)
    | [v], hul, huv => rw [if_pos (by simpa using hul)]; exact huv 0 (by simp)
    | v :: v' :: vs, hul, huv =>
      rw [if_neg (by simp at hul; omega)]
      refine .tup (by simp [hul]) fun j hj => ?_
      have := huv j hj
      simpa [List.getD_eq_getElem?_getD, Array.getD_eq_getD_getElem?] using this
  rw [hpost] at hv'
  have hfin : ∃ v, Ending.returned (if us.length = 1 then us.getD 0 undef else .tuple us.toArray) = .returned v ∧ (∀ φ S O, VR φ S O w' r v) ∧ (∀ (q : Nat) (I : Gh) (b : AV), L[q]? = some (I, b) → Phys w' I.bl (bs'.getD q .undef) I.val) ∧
      (∀ x, x < w.heap.size → ¬ MB L x → w'.heap[x]? = w.heap[x]?) ∧ w.heap.size ≤ w'.heap.size ∧ w'.os = w.os ∧ w'.tape = w.tape ∧ w'.output = w.output ∧
      ∀ (b : Nat) (C : Array Value) (ty : TypeId) (fr : Nat × Nat), w.heap[b]? = some (Obj.cells C ty fr) → ∃ (C' : Array Value) (ty' : TypeId) (fr' : Nat × Nat), w'.heap[b]? = some (Obj.cells C' ty' fr') ∧ C'.size = C.size :=
    ⟨_, rfl, fun φ S O => hv'.resOK hr, fun q I b hq => (hhas q I b hq).phys hg', fun x hx hM => he.unch x hx (own_nil _ _) ⟨hx, hM⟩, he.hsize, he.os, he.tape, he.output, he.csize⟩
  rcases hend with rfl | rfl
  · exact ⟨hg'.defers, _, hres, hfin⟩
  · exact ⟨hg'.defers, _, hres, hfin⟩
end

/-! Rows whose elements own one row and hold numbers. -/
theorem OpenS.one {b : AV} {S : St} (h : OpenS [b] S) : ∃ ty sz n get els, b = .isl sz n get ∧ S = [some ⟨ty, sz, els⟩] ∧ Arr sz n get els := by
  match S, h with
  | [so], h =>
    obtain ⟨⟨ty, sz, n, get, els, h1, h2, h3⟩, _⟩ := h
    exact ⟨ty, sz, n, get, els, h1, by rw [h2], h3⟩

theorem Arr.ints {l : List Int} {els : List (List AV)} (h : Arr 1 l.length (fun i => [.int .i64 (l.getD i 0)]) els) : els = l.map rI := by
  refine list_ext_getD [] (by simp [h.len]) fun j hj => ?_
  rw [h.len] at hj
  rw [getD_map' rI l j 0 [] hj]
  have hm := h.made j 0 hj (by omega)
  have hl := (h.cell j hj).1
  generalize els.getD j [] = c at hm hl
  match c, hl with
  | [c0], _ => simp only [List.getD_cons_zero] at hm; rw [hm.1]; rfl
theorem Arr.ints' {ty : TypeId} {l : List Int} : OpenS [Fw.ints l] [some ⟨ty, 1, l.map rI⟩] := by
  refine ⟨⟨ty, 1, l.length, _, l.map rI, rfl, rfl, by simp, fun i hi => ⟨?_, rfl⟩, fun i j hi hj => ?_, fun i j i' j' x hi hj hi' hj' h1 h2 => ?_⟩, trivial⟩
  · rw [getD_map' rI l i 0 [] hi]; rfl
  · have : j = 0 := by omega
    subst this
    rw [getD_map' rI l i 0 [] hi]; exact ⟨rfl, rfl⟩
  · have : j = 0 := by omega
    subst this
    rw [getD_map' rI l i 0 [] hi] at h1; cases h1
theorem foot_ints {ty : TypeId} {l : List Int} {q x : Nat} : ¬ footAt [some ⟨ty, 1, l.map rI⟩] q x := by
  rintro ⟨ob, h1, i, j, hi, hj, hx⟩
  cases q with
  | zero =>
    simp [St.at] at h1
    subst h1
    have hi' : i < l.length := by simpa using hi
    have hj' : j = 0 := by simp only at hj; omega
    subst hj'
    simp only [getD_map' rI l i 0 [] hi'] at hx
    cases hx
  | succ q => simp [St.at] at h1

/-- An element that owns a row and holds numbers. -/
def rO {α : Type} (g : α → AV) (sc : α → List AV) (p : Gh × α) : List AV := .own p.1 (g p.2) :: sc p.2
/-- No two owners share a block. -/
def GDis {α : Type} (gl : List (Gh × α)) : Prop := ∀ i j, i < gl.length → j < gl.length → ∀ p q : Gh × α, gl[i]? = some p → gl[j]? = some q → ∀ x, p.1.bl x → q.1.bl x → i = j

theorem Arr.rows1 {α : Type} {g : α → AV} {sc : α → List AV} {sz : Nat} (d : α) (hg : ∀ x, ∃ sz n get, g x = .isl sz n get) (hsc : ∀ x, (sc x).all scal0 = true ∧ (sc x).length + 1 = sz) {l : List α} {els : List (List AV)} (h : Arr sz l.length (fun i => g (l.getD i d) :: sc (l.getD i d)) els) :
    ∃ gl : List (Gh × α), gl.map (·.2) = l ∧ els = gl.map (rO g sc) ∧ GDis gl := by
  have hex : ∀ i, ∃ G : Gh, i < l.length → els.getD i [] = rO g sc (G, l.getD i d) := by
    intro i
    by_cases hi : i < l.length
    · have hl := (h.cell i hi).1
      have hz := (hsc (l.getD i d)).2
      have h0 := h.made i 0 hi (by omega)
      obtain ⟨s1, n1, g1, e1⟩ := hg (l.getD i d)
      simp only [List.getD_cons_zero, e1] at h0
      obtain ⟨G, hG⟩ := h0
      refine ⟨G, fun _ => ?_⟩
      apply List.ext_getElem (by rw [hl]; show sz = (sc (l.getD i d)).length + 1; omega)
      intro j k1 k2
      cases j with
      | zero =>
        have : (els.getD i [])[0] = (els.getD i []).getD 0 .undef := by rw [List.getD_eq_getElem?_getD (l := els.getD i []), List.getElem?_eq_getElem k1]; rfl
        rw [this, hG]
        show _ = AV.own G (g (l.getD i d))
        rw [e1]
      | succ j =>
        have hj : j < (sc (l.getD i d)).length := by omega
        have hm := h.made i (j + 1) hi (by omega)
        simp only [List.getD_cons_succ] at hm
        have e2 : (sc (l.getD i d)).getD j .undef = (sc (l.getD i d))[j] := by rw [List.getD_eq_getElem?_getD, List.getElem?_eq_getElem hj]; rfl
        have hs : scal0 ((sc (l.getD i d)).getD j .undef) = true := all_getD (hsc _).1 hj
        have := Made0.scal hm hs
        have e3 : (els.getD i [])[j + 1] = (els.getD i []).getD (j + 1) .undef := by rw [List.getD_eq_getElem?_getD (l := els.getD i []), List.getElem?_eq_getElem k1]; rfl
        rw [e3, this, e2]; rfl
    · exact ⟨⟨fun _ => False, undef⟩, fun h => absurd h hi⟩
  let Gf := fun i => Classical.choose (hex i)
  have hGf : ∀ i, i < l.length → els.getD i [] = Fw.rO g sc (Gf i, l.getD i d) := fun i => Classical.choose_spec (hex i)
  let gl : List (Gh × α) := (List.range l.length).map fun i => (Gf i, l.getD i d)
  have hgl : gl.length = l.length := by simp [gl]
  have hget : ∀ i, i < l.length → gl[i]? = some (Gf i, l.getD i d) := fun i hi => by simp [gl, hi]
  refine ⟨gl, ?_, ?_, fun i j hi hj p q hp hq x h1 h2 => ?_⟩
  · apply List.ext_getElem (by simp [hgl])
    intro i k1 k2
    simp only [gl, List.map_map, List.getElem_map, List.getElem_range, Function.comp]
    rw [List.getD_eq_getElem?_getD, List.getElem?_eq_getElem k2]; rfl
  · refine list_ext_getD [] (by simp [hgl, h.len]) fun j hj => ?_
    rw [h.len] at hj
    rw [hGf j hj]
    simp [List.getD_eq_getElem?_getD, hget j hj]
  · rw [hgl] at hi hj
    rw [hget i hi] at hp
    rw [hget j hj] at hq
    cases hp
    cases hq
    have hz := (hsc (l.getD i d)).2
    refine (h.dis i 0 j 0 x hi (by omega) hj (by omega) ?_ ?_).1
    · rw [hGf i hi]; exact .own h1
    · rw [hGf j hj]; exact .own h2

theorem OpenS.rows1 {α : Type} {g : α → AV} {sc : α → List AV} {sz : Nat} (d : α) (hg : ∀ x, ∃ sz n get, g x = .isl sz n get) (hsc : ∀ x, (sc x).all scal0 = true ∧ (sc x).length + 1 = sz) {gl : List (Gh × α)} (hd : GDis gl) {ty : TypeId} {n : Nat} (hn : gl.length = n) {get : Nat → List AV} (hget : ∀ i, i < n → get i = g ((gl.map (·.2)).getD i d) :: sc ((gl.map (·.2)).getD i d)) :
    OpenS [.isl sz n get] [some ⟨ty, sz, gl.map (rO g sc)⟩] := by
  subst hn
  have hel : ∀ i, i < gl.length → ∃ p, gl[i]? = some p ∧ (gl.map (Fw.rO g sc)).getD i [] = Fw.rO g sc p ∧ (gl.map (·.2)).getD i d = p.2 := by
    intro i hi
    exact ⟨gl[i], List.getElem?_eq_getElem hi, by simp [List.getD_eq_getElem?_getD, hi], by simp [List.getD_eq_getElem?_getD, hi]⟩
  refine ⟨⟨ty, sz, _, _, _, rfl, rfl, by simp, fun i hi => ?_, fun i j hi hj => ?_, fun i j i' j' x hi hj hi' hj' h1 h2 => ?_⟩, trivial⟩
  · obtain ⟨p, h1, h2, h3⟩ := hel i hi
    have := (hsc p.2).2
    rw [h2, hget i hi, h3]
    simp only [Fw.rO, List.length_cons]; omega
  · obtain ⟨p, h1, h2, h3⟩ := hel i hi
    rw [h2, hget i hi, h3]
    have hz := (hsc p.2).2
    cases j with
    | zero =>
      obtain ⟨s1, n1, g1, e1⟩ := hg p.2
      simp only [Fw.rO, List.getD_cons_zero, e1]
      exact ⟨_, rfl⟩
    | succ j =>
      simp only [Fw.rO, List.getD_cons_succ]
      have hs := all_getD (hsc p.2).1 (j := j) (by omega)
      generalize (sc p.2).getD j .undef = c at hs
      cases c <;> first | exact ⟨rfl, hs⟩ | (simp [scal0] at hs)
  · obtain ⟨p, k1, k2, k3⟩ := hel i hi
    obtain ⟨p', k1', k2', k3'⟩ := hel i' hi'
    rw [k2] at h1
    rw [k2'] at h2
    have own0 : ∀ (p : Gh × α) j, j < sz → OS ((Fw.rO g sc p).getD j .undef) x → j = 0 ∧ p.1.bl x := by
      intro p j hj h
      have hz := (hsc p.2).2
      cases j with
      | zero => simp only [Fw.rO, List.getD_cons_zero] at h; cases h with | own h => exact ⟨rfl, h⟩
      | succ j =>
        simp only [Fw.rO, List.getD_cons_succ] at h
        have hs := all_getD (hsc p.2).1 (j := j) (by omega)
        generalize (sc p.2).getD j .undef = c at hs h
        cases h <;> simp [scal0] at hs
    obtain ⟨rfl, e1⟩ := own0 p j hj h1
    obtain ⟨rfl, e2⟩ := own0 p' j' hj' h2
    exact ⟨hd i i' hi hi' p p' k1 k1' x e1 e2, rfl⟩

theorem foot_rO {α : Type} {g : α → AV} {sc : α → List AV} {sz : Nat} (hsc : ∀ x, (sc x).all scal0 = true ∧ (sc x).length + 1 = sz) {gl : List (Gh × α)} {ty : TypeId} {q x : Nat} : footAt [some ⟨ty, sz, gl.map (rO g sc)⟩] q x ↔ q = 0 ∧ ∃ p ∈ gl, p.1.bl x := by
  constructor
  · rintro ⟨ob, h1, i, j, hi, hj, hx⟩
    cases q with
    | zero =>
      simp [St.at] at h1
      subst h1
      have hi' : i < gl.length := by simpa using hi
      have e : (gl.map (rO g sc)).getD i [] = rO g sc gl[i] := by simp [List.getD_eq_getElem?_getD, hi']
      simp only [e] at hx
      refine ⟨rfl, gl[i], List.getElem_mem hi', ?_⟩
      have hz := (hsc gl[i].2).2
      simp only at hj
      cases j with
      | zero => simp only [rO, List.getD_cons_zero] at hx; cases hx with | own h => exact h
      | succ j =>
        simp only [rO, List.getD_cons_succ] at hx
        have hs := all_getD (hsc gl[i].2).1 (j := j) (by omega)
        generalize (sc gl[i].2).getD j .undef = c at hs hx
        cases hx <;> simp [scal0] at hs
    | succ q => simp [St.at] at h1
  · rintro ⟨rfl, p, hp, hx⟩
    obtain ⟨i, hi, rfl⟩ := List.getElem_of_mem hp
    have hz := (hsc gl[i].2).2
    refine ⟨_, rfl, i, 0, by simpa using hi, by simp only; omega, ?_⟩
    have e : (gl.map (rO g sc)).getD i [] = rO g sc gl[i] := by simp [List.getD_eq_getElem?_getD, hi]
    simp only [e]
    exact .own hx

/-- One element's row has been written. -/
theorem UpSt.rows1 {α : Type} {g : α → AV} {sc : α → List AV} {sz : Nat} (hsc : ∀ x, (sc x).all scal0 = true ∧ (sc x).length + 1 = sz) {gl : List (Gh × α)} (hd : GDis gl) {ty : TypeId} {i : Nat} {G : Gh} {x x' : α} (hi : gl[i]? = some (G, x)) (hs : sc x' = sc x) :
    UpSt [(G, g x)] [g x'] [some ⟨ty, sz, gl.map (rO g sc)⟩] [some ⟨ty, sz, (gl.set i (G, x')).map (rO g sc)⟩] := by
  have hlt := (List.getElem?_eq_some_iff.1 hi).1
  have hat : ∀ y, atomB y = false → scal0 y = false := by intro y; cases y <;> simp [atomB, scal0]
  refine ⟨⟨rfl, rfl, by simp, fun k hk => ?_⟩, trivial⟩
  have hk' : k < gl.length := by simpa using hk
  have e1 : (gl.map (Fw.rO g sc)).getD k [] = Fw.rO g sc gl[k] := by simp [List.getD_eq_getElem?_getD, hk']
  simp only [e1]
  by_cases e : k = i
  · subst e
    have e0 : gl[k] = (G, x) := by rw [List.getElem?_eq_getElem hk'] at hi; exact Option.some.inj hi
    have e2 : ((gl.set k (G, x')).map (Fw.rO g sc)).getD k [] = Fw.rO g sc (G, x') := by simp [List.getD_eq_getElem?_getD, hk']
    rw [e2, e0]
    refine ⟨by simp [Fw.rO, hs], fun j hj => ?_⟩
    cases j with
    | zero => exact .swap 0 rfl
    | succ j =>
      simp only [Fw.rO, List.getD_cons_succ, hs]
      have hz := (hsc x).2
      have hsj := all_getD (hsc x).1 (j := j) (by omega)
      refine .atom ?_
      cases hc : atomB ((sc x).getD j .undef) with
      | true => rfl
      | false => rw [hat _ hc] at hsj; cases hsj
  · have e2 : ((gl.set i (G, x')).map (Fw.rO g sc)).getD k [] = Fw.rO g sc gl[k] := by
      simp [List.getD_eq_getElem?_getD, hk', List.getElem?_set, Ne.symm e]
    rw [e2]
    refine ⟨rfl, fun j hj => ?_⟩
    cases j with
    | zero =>
      refine .dis fun y hy hM => ?_
      obtain ⟨q, I, b, h1, h2⟩ := hM
      cases q with
      | zero =>
        simp only [List.getElem?_cons_zero, Option.some.injEq, Prod.mk.injEq] at h1
        obtain ⟨rfl, rfl⟩ := h1
        exact e (hd k i hk' hlt _ _ (List.getElem?_eq_getElem hk') hi y hy h2)
      | succ q => simp at h1
    | succ j =>
      simp only [Fw.rO, List.getD_cons_succ]
      have hz := (hsc gl[k].2).2
      have hsj := all_getD (hsc gl[k].2).1 (j := j) (by omega)
      refine .atom ?_
      cases hc : atomB ((sc gl[k].2).getD j .undef) with
      | true => rfl
      | false => rw [hat _ hc] at hsj; cases hsj

theorem GDis.set {α : Type} {gl : List (Gh × α)} (h : GDis gl) {i : Nat} {G : Gh} {x x' : α} (hi : gl[i]? = some (G, x)) : GDis (gl.set i (G, x')) := by
  have hlt := (List.getElem?_eq_some_iff.1 hi).1
  have key : ∀ (k : Nat) (p : Gh × α), (gl.set i (G, x'))[k]? = some p → ∃ q : Gh × α, gl[k]? = some q ∧ q.1 = p.1 := by
    intro k p hp
    rw [List.getElem?_set] at hp
    by_cases e : i = k
    · subst e; rw [if_pos rfl] at hp; simp only [hlt, if_true, Option.some.injEq] at hp; exact ⟨_, hi, by rw [← hp]⟩
    · rw [if_neg e] at hp; exact ⟨p, hp, rfl⟩
  intro j k hj hk p q hp hq x hx hx'
  obtain ⟨p', h1, h2⟩ := key j p hp
  obtain ⟨q', h3, h4⟩ := key k q hq
  exact h j k (by simpa using hj) (by simpa using hk) p' q' h1 h3 x (by rw [h2]; exact hx) (by rw [h4]; exact hx')

theorem OwnDis.one (G : Gh) (b : AV) : OwnDis [(G, b)] := by
  intro q q' I b I' b' x h1 h2 _ _
  cases q with
  | zero =>
    cases q' with
    | zero => rfl
    | succ q' => simp at h2
  | succ q => simp at h1
theorem SameN.one {sz n : Nat} {get get' : Nat → List AV} : SameN [.isl sz n get] [.isl sz n get'] := ⟨rfl, fun q hq => by
  have : q = 0 := by simpa using hq
  subst this; exact ⟨sz, n, get, get', rfl, rfl⟩⟩
theorem MB.one {G : Gh} {b : AV} {x : Nat} (h : MB [(G, b)] x) : G.bl x := by
  obtain ⟨q, I, b', h1, h2⟩ := h
  cases q with
  | zero => simp only [List.getElem?_cons_zero, Option.some.injEq, Prod.mk.injEq] at h1; obtain ⟨rfl, rfl⟩ := h1; exact h2
  | succ q => simp at h1
end Go.Fw
