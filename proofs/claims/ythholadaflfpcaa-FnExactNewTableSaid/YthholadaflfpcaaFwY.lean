/-
  The rule of a call that writes what one owns; a maker's result taken by value; nil as a row without elements.
-/
import Derived.Test.YthholadaflfpcaaFwX
namespace Go.Fw
open Go Go.RowKit

def own0 : AV → OwnL
  | .own I b => [(I, b)]
  | _ => []
def own1 : AV → OwnL
  | .agg cs => cs.flatMap own0
  | v => own0 v
def own2 : AV → OwnL
  | .fn _ us cs => us.flatMap own1 ++ cs.flatMap own1
  | v => own1 v
def ownsA (as : List AV) : OwnL := as.flatMap own2

def atomB : AV → Bool
  | .own .. | .agg _ | .tup _ | .fn .. => false
  | _ => true

/-- What a value is behind a call that wrote: L tells what was given, bs' what it tells now. -/
inductive Up0 (L : OwnL) (bs' : List AV) : AV → AV → Prop
  | undef {u : AV} : Up0 L bs' u .undef
  | atom {u : AV} : atomB u = true → Up0 L bs' u u
  | dis {I : Gh} {b : AV} : (∀ x, I.bl x → ¬ MB L x) → Up0 L bs' (.own I b) (.own I b)
  | swap {I : Gh} {b : AV} (q : Nat) : L[q]? = some (I, b) → Up0 L bs' (.own I b) (.own I (bs'.getD q .undef))
inductive Up1 (L : OwnL) (bs' : List AV) : AV → AV → Prop
  | one {u v : AV} : Up0 L bs' u v → Up1 L bs' u v
  | agg {us vs : List AV} : All2 (Up0 L bs') us vs → Up1 L bs' (.agg us) (.agg vs)
inductive Up2 (L : OwnL) (bs' : List AV) : AV → AV → Prop
  | one {u v : AV} : Up1 L bs' u v → Up2 L bs' u v
  | tup {us vs : List AV} : All2 (Up1 L bs') us vs → Up2 L bs' (.tup us) (.tup vs)
  | fn {f : FuncId} {us vs us' vs' : List AV} : All2 (Up1 L bs') us vs → All2 (Up1 L bs') us' vs' → Up2 L bs' (.fn f us us') (.fn f vs vs')
def UpA (L : OwnL) (bs' : List AV) (a : Nat → AV) : List (Nat × AV) → Prop
  | [] => True
  | (k, v) :: l => Up2 L bs' (a k) v ∧ UpA L bs' a l
structure UpO (L : OwnL) (bs' : List AV) (o o' : AObj) : Prop where
  ty : o'.ty = o.ty
  sz : o'.sz = o.sz
  len : o'.els.length = o.els.length
  cells : ∀ i, i < o.els.length → (o'.els.getD i []).length = (o.els.getD i []).length ∧ ∀ j, j < o.sz → Up0 L bs' ((o.els.getD i []).getD j .undef) ((o'.els.getD i []).getD j .undef)
def UpSt (L : OwnL) (bs' : List AV) : St → St → Prop
  | [], [] => True
  | _ :: S, none :: S' => UpSt L bs' S S'
  | some o :: S, some o' :: S' => UpO L bs' o o' ∧ UpSt L bs' S S'
  | _, _ => False

theorem UpSt.at {L : OwnL} {bs' : List AV} : ∀ {S S' : St}, UpSt L bs' S S' → S'.length = S.length ∧ ∀ i o', S'.at i = some o' → ∃ o, S.at i = some o ∧ UpO L bs' o o'
  | [], [], _ => ⟨rfl, fun i o h => by simp [St.at] at h⟩
  | _ :: S, none :: S', h => by
    have h : UpSt L bs' S S' := by cases ‹Option AObj› <;> exact h
    obtain ⟨h1, h2⟩ := UpSt.at h
    refine ⟨by simp [h1], fun i o h => ?_⟩
    cases i with
    | zero => simp [St.at] at h
    | succ i => simpa [St.at] using h2 i o (by simpa [St.at] using h)
  | some o :: S, some o' :: S', h => by
    obtain ⟨h1, h2⟩ := UpSt.at h.2
    refine ⟨by simp [h1], fun i ob hi => ?_⟩
    cases i with
    | zero => simp [St.at] at hi; subst hi; exact ⟨o, rfl, h.1⟩
    | succ i => simpa [St.at] using h2 i ob (by simpa [St.at] using hi)
  | [], some _ :: _, h => h.elim
  | [], none :: _, h => h.elim
  | _ :: _, [], h => by cases ‹Option AObj› <;> exact h.elim
  | none :: _, some _ :: _, h => h.elim

theorem UpO.one {L : OwnL} {bs' : List AV} {ty : TypeId} {sz : Nat} {cs cs' : List AV} (h : All2 (Up0 L bs') cs cs') : UpO L bs' ⟨ty, sz, [cs]⟩ ⟨ty, sz, [cs']⟩ := by
  obtain ⟨h1, h2⟩ := h.at
  refine ⟨rfl, rfl, rfl, fun i hi => ?_⟩
  have : i = 0 := by simp at hi; exact hi
  subst this
  refine ⟨h1.symm, fun j hj => ?_⟩
  by_cases hj' : j < cs.length
  · exact h2 j hj'
  · simp only [List.getD_cons_zero]
    rw [show cs'.getD j .undef = .undef by rw [List.getD_eq_getElem?_getD, List.getElem?_eq_none (by omega)]; rfl]
    exact .undef

theorem UpO.same {L : OwnL} {bs' : List AV} {o : AObj} (h : ∀ i j, i < o.els.length → j < o.sz → Up0 L bs' ((o.els.getD i []).getD j .undef) ((o.els.getD i []).getD j .undef)) : UpO L bs' o o :=
  ⟨rfl, rfl, rfl, fun i hi => ⟨rfl, fun j hj => h i j hi hj⟩⟩

/-- What a call of a function's value runs. -/
theorem call_run {P : Program} {o : Oper} {a : Nat → AV} {g : FuncId} {as : List AV} (h : callA o a = some (g, as)) (hc : Callable P g) {φ : Nat → Nat} {S : St} {O : Nat → Prop} {w : World} {ac : Act} (hs : Slots φ S O w a ac) :
    ∃ vs : List Value, VRs φ S O w as vs ∧ (execOp ac.eval o).run P w = .ok (.enter g vs.toArray) w := by
  obtain ⟨f, args, ts, first, caps, ho, hf, rfl⟩ := callA_ok h
  have ef := VR.eval hs f
  rw [hf] at ef
  generalize hfe : ac.eval f = fv at ef
  obtain ⟨us, vs, rfl, h1, h2, h3, h4⟩ := ef.fn_inv
  obtain ⟨fn, hfn, hname, hbody⟩ := hc
  refine ⟨us.toList ++ (args.map ac.eval).toList ++ vs.toList, ⟨by simp [h1, h3], fun j hj => ?_⟩, ?_⟩
  · simp only [List.length_append, List.length_map, Array.length_toList] at hj
    by_cases j1 : j < first.length
    · rw [List.append_assoc, getD_append_left _ _ _ _ j1, List.append_assoc, getD_append_left _ _ _ _ (by simpa [h1] using j1)]
      have := h2 j j1
      simpa [List.getD_eq_getElem?_getD, Array.getD_eq_getD_getElem?] using this
    · by_cases j2 : j < first.length + args.size
      · rw [getD_append_left _ _ _ _ (by simp; omega), getD_append_right _ _ _ _ (by omega), getD_append_left _ _ _ _ (by simp; omega), getD_append_right _ _ _ _ (by simp; omega)]
        have hlt : j - first.length < args.size := by omega
        have e1 : (args.toList.map (aev a)).getD (j - first.length) .undef = aev a args[j - first.length] := by simp [List.getD_eq_getElem?_getD, hlt]
        have e2 : (args.map ac.eval).toList.getD (j - us.toList.length) undef = ac.eval args[j - first.length] := by simp [List.getD_eq_getElem?_getD, h1, hlt]
        rw [e1, e2]
        exact VR.eval hs _
      · rw [getD_append_right _ _ _ _ (by simp; omega), getD_append_right _ _ _ _ (by simp [h1]; omega)]
        have := h4 (j - (first.length + args.size)) (by omega)
        simpa [List.getD_eq_getElem?_getD, Array.getD_eq_getD_getElem?, h1] using this
  · have hbody' : fn.body.isNone = true → False := fun h => by rw [hbody] at h; cases h
    have e : (us.toList ++ (args.map ac.eval).toList ++ vs.toList).toArray = us ++ args.map ac.eval ++ vs := by simp
    rw [e]
    simp only [execOp, ho, resolve, Deferred.ofValue, hfe, Sem.run_bind, Sem.run_pure, Result.andThen_ok, invoke, callFunc, run_program, hfn, hname, hbody]
    rfl

section
variable {φ : Nat → Nat} {S : St} {O : Nat → Prop} {w : World}
theorem VR.own0 {u : AV} {v : Value} (hv : VR φ S O w u v) {I : Gh} {b : AV} (h : (I, b) ∈ Fw.own0 u) : VR φ S O w (.own I b) I.val := by
  cases u with
  | own J c =>
    simp only [Fw.own0, List.mem_singleton] at h
    cases h
    have ev : v = I.val := by
      cases hv with
      | pure hv => cases hv
      | own h1 h2 h3 h4 => exact h4
    exact ev ▸ hv
  | _ => simp [Fw.own0] at h
theorem mem_flat {f : AV → OwnL} {cs : List AV} {p : Gh × AV} (h : p ∈ cs.flatMap f) : ∃ j, j < cs.length ∧ p ∈ f (cs.getD j .undef) := by
  obtain ⟨c, hc, hp⟩ := List.mem_flatMap.1 h
  obtain ⟨j, hj, rfl⟩ := List.getElem_of_mem hc
  exact ⟨j, hj, by simpa [List.getD_eq_getElem?_getD, hj] using hp⟩
theorem VR.own1 {u : AV} {v : Value} (hv : VR φ S O w u v) {I : Gh} {b : AV} (h : (I, b) ∈ Fw.own1 u) : VR φ S O w (.own I b) I.val := by
  cases u with
  | agg cs =>
    obtain ⟨j, hj, hp⟩ := mem_flat h
    obtain ⟨xs, rfl, h1, h2⟩ := hv.agg_inv
    exact (h2 j hj).own0 hp
  | _ => exact hv.own0 h
theorem VR.own2 {u : AV} {v : Value} (hv : VR φ S O w u v) {I : Gh} {b : AV} (h : (I, b) ∈ Fw.own2 u) : VR φ S O w (.own I b) I.val := by
  cases u with
  | fn f us cs =>
    obtain ⟨xs, ys, rfl, h1, h2, h3, h4⟩ := hv.fn_inv
    rcases List.mem_append.1 h with h | h
    · obtain ⟨j, hj, hp⟩ := mem_flat h; exact (h2 j hj).own1 hp
    · obtain ⟨j, hj, hp⟩ := mem_flat h; exact (h4 j hj).own1 hp
  | _ => exact hv.own1 h
end

section
variable {P : Program} {m : Fr} {ops : Array Oper} {o : Oper} {rest : List Oper} {a : Nat → AV} {S : St} {Post : (Nat → AV) → St → Prop} {g : FuncId} {as : List AV} {d : Option Nat}

/-- What one owns is written by a call. -/
theorem RG.mut {L : OwnL} {bs bs' : List AV} {asf : List Gh → List AV} {r : AV} {S' : St} (l' : List (Nat × AV)) (h : callA o a = some (g, as)) (hd : o.dst = d) (hm : MO P g bs asf r bs') (hLe : ownsA as = L) (hbs : L.map (·.2) = bs) (has : asf (L.map (·.1)) = as)
    (hB : ∀ x, MB L x → ¬ m.B x) (hdis : OwnDis L)
    (hl : UpA L bs' a l') (hS : UpSt L bs' S S') (next : RG P m ops rest (upd (asl l') d r) S' Post)
    (hgd : agd ops o a = some true := by rfl) (hok : (gdOK m.n ops o && dstOK m.n o.dst) = true := by rfl) : RG P m ops (o :: rest) a S Post := by
  subst hd
  intro F φ w ac Q hg hq
  rw [Bool.and_eq_true] at hok
  have hw := agd_wanted hg (gdOK_spec hok.1) hgd
  unfold wpList
  rw [if_pos hw]
  obtain ⟨vs, hvs, hrun⟩ := call_run h hm.1 hg.slots
  have hown : ∀ (q : Nat) (I : Gh) (b : AV), L[q]? = some (I, b) → VR φ S (OO F φ S) w (.own I b) I.val := by
    intro q I b hq
    have hmem : (I, b) ∈ ownsA as := by rw [hLe]; exact List.mem_of_getElem? hq
    obtain ⟨j, hj, hp⟩ := mem_flat hmem
    exact (hvs.2 j hj).own2 hp
  have hMO : ∀ x, MB L x → OO F φ S x ∧ ¬ Own φ S x := by
    rintro x ⟨q, I, b, h1, h2⟩
    have := hown q I b h1
    generalize I.val = v at this
    cases this with
    | pure h => cases h
    | own k1 k2 k3 k4 => exact ⟨k1 x h2, k2 x h2⟩
  refine .inl ?_
  unfold Oper.wp
  rw [hrun]
  refine (hm.2 L hbs hdis F φ S w vs hg.sim (by rw [has]; exact hvs) hown).mono ?_
  rintro e w' ⟨v, rfl, hres, hphys, hun, hsize, hos, htape, hout, hcs⟩
  obtain ⟨hSl, hSa⟩ := hS.at
  have hownS : ∀ x, Own φ S' x → Own φ S x := by
    rintro x ⟨i, o', h1, h2, h3⟩
    obtain ⟨o, k1, k2⟩ := hSa i o' h1
    exact ⟨i, o, k1, fun e => h2 (List.length_eq_zero_iff.1 (by rw [k2.len, e]; rfl)), h3⟩
  have up0 : ∀ u u' v, Up0 L bs' u u' → VR φ S (OO F φ S) w u v → VR φ S' (OO F φ S') w' u' v := by
    intro u u' v hu hv
    cases hu with
    | undef => exact .pure (.undef _)
    | atom ha =>
      cases hv with
      | pure hv =>
        refine .pure (hv.move (fun b k c hb hc => ?_) (fun b k c hb hc hO => hb (hO.imp id (hownS b))))
        rw [cell_of_heap (hun b (cell_lt hc) fun hM => hb (hMO b hM).1)]
        exact hc
      | @sl id n v h1c hl hs =>
        refine .sl h1c (by rw [hSl]; exact hl) fun o' ho' => ?_
        obtain ⟨o, ho, hu⟩ := hSa id o' ho'
        obtain ⟨hn, hv⟩ := hs o ho
        refine ⟨by rw [hu.len]; exact hn, fun heq => ?_⟩
        rcases hv (by rw [← hu.len]; exact heq) with ⟨h0, hv⟩ | ⟨h0, cap, rfl, h1, h2, C, ty, fr, hC, hsz⟩
        · rw [hu.ty]; exact .inl ⟨h0, hv⟩
        · obtain ⟨C', ty', fr', hC', hsz'⟩ := hcs _ _ _ _ hC
          exact .inr ⟨h0, cap, rfl, h1, h2, C', ty', fr', hC', by rw [hsz', hu.sz]; exact hsz⟩
      | @ptr id n i off v h1c hl hs =>
        refine .ptr h1c (by rw [hSl]; exact hl) fun o' ho' => ?_
        obtain ⟨o, ho, hu⟩ := hSa id o' ho'
        obtain ⟨hn, hv⟩ := hs o ho
        exact ⟨by rw [hu.len]; exact hn, fun heq => by rw [hu.sz]; exact hv (by rw [← hu.len]; exact heq)⟩
      | @win id n lo len v h1c hl hs =>
        refine .win h1c (by rw [hSl]; exact hl) fun o' ho' => ?_
        obtain ⟨o, ho, hu⟩ := hSa id o' ho'
        obtain ⟨hn, hv⟩ := hs o ho
        refine ⟨by rw [hu.len]; exact hn, fun heq => ?_⟩
        obtain ⟨h0, h1, A, cap, rfl, h2, h3, h4, C, ty, fr, hC, hsz⟩ := hv (by rw [← hu.len]; exact heq)
        obtain ⟨C', ty', fr', hC', hsz'⟩ := hcs _ _ _ _ hC
        exact ⟨h0, h1, A, cap, rfl, by rw [hu.sz]; exact h2, h3, h4, C', ty', fr', hC', by rw [hsz', hu.sz]; exact hsz⟩
      | fn => simp [atomB] at ha
      | agg => simp [atomB] at ha
      | tup => simp [atomB] at ha
      | own => simp [atomB] at ha
    | dis hI =>
      cases hv with
      | pure hv => cases hv
      | own h1 h2 h3 h4 =>
        exact .own (fun x hx => (h1 x hx).elim .inl fun h => absurd h (h2 x hx)) (fun x hx h => h2 x hx (hownS x h)) (h3.move fun x hx => hun x (h3.lt x hx) (hI x hx)) h4
    | swap q hq =>
      cases hv with
      | pure hv => cases hv
      | own h1 h2 h3 h4 =>
        have := hphys q _ _ hq
        rw [← h4] at this
        exact .own (fun x hx => (h1 x hx).elim .inl fun h => absurd h (h2 x hx)) (fun x hx h => h2 x hx (hownS x h)) this h4
  have up1 : ∀ u u' v, Up1 L bs' u u' → VR φ S (OO F φ S) w u v → VR φ S' (OO F φ S') w' u' v := by
    intro u u' v hu hv
    cases hu with
    | one hu => exact up0 _ _ _ hu hv
    | agg hu =>
      obtain ⟨e1, e2⟩ := hu.at
      obtain ⟨xs, rfl, h1, h2⟩ := hv.agg_inv
      exact .agg (by omega) fun j hj => up0 _ _ _ (e2 j (by omega)) (h2 j (by omega))
  have up2 : ∀ u u' v, Up2 L bs' u u' → VR φ S (OO F φ S) w u v → VR φ S' (OO F φ S') w' u' v := by
    intro u u' v hu hv
    cases hu with
    | one hu => exact up1 _ _ _ hu hv
    | tup hu =>
      obtain ⟨e1, e2⟩ := hu.at
      obtain ⟨xs, rfl, h1, h2⟩ := hv.tup_inv
      exact .tup (by omega) fun j hj => up1 _ _ _ (e2 j (by omega)) (h2 j (by omega))
    | fn hu hu' =>
      obtain ⟨e1, e2⟩ := hu.at
      obtain ⟨e3, e4⟩ := hu'.at
      obtain ⟨xs, ys, rfl, h1, h2, h3, h4⟩ := hv.fn_inv
      exact .fn (by omega) (fun j hj => up1 _ _ _ (e2 j (by omega)) (h2 j (by omega))) (by omega) fun j hj => up1 _ _ _ (e4 j (by omega)) (h4 j (by omega))
  have hslots : ∀ t, VR φ S' (OO F φ S') w' (asl l' t) (ac.tmps.getD t undef) := by
    intro t
    have : ∀ l : List (Nat × AV), UpA L bs' a l → asl l t = .undef ∨ Up2 L bs' (a t) (asl l t) := by
      intro l
      induction l with
      | nil => intro _; exact .inl rfl
      | cons p l ih =>
        obtain ⟨k, v⟩ := p
        intro hu
        by_cases e : t = k
        · subst e; right; simpa [asl] using hu.1
        · simp only [asl, if_neg e]; exact ih hu.2
    rcases this l' hl with e | e
    · rw [e]; exact .pure (.undef _)
    · exact up2 _ _ _ e (hg.slots t)
  have hsim : Sim F φ S' w' := by
    refine ⟨fun b hb => Nat.lt_of_lt_of_le (hg.sim.fl b hb) hsize, fun i o' h1 h2 => ?_, fun i j oi oj h1 h2 h3 h4 e => ?_, fun i o' h1 h2 => ?_⟩
    · obtain ⟨o, k1, k2⟩ := hSa i o' h1
      exact hg.sim.nf i o k1 fun e => h2 (List.length_eq_zero_iff.1 (by rw [k2.len, e]; rfl))
    · obtain ⟨o, k1, k2⟩ := hSa i oi h1
      obtain ⟨p, k3, k4⟩ := hSa j oj h3
      exact hg.sim.inj i j o p k1 (fun e => h2 (List.length_eq_zero_iff.1 (by rw [k2.len, e]; rfl))) k3 (fun e => h4 (List.length_eq_zero_iff.1 (by rw [k4.len, e]; rfl))) e
    · obtain ⟨o, k1, k2⟩ := hSa i o' h1
      have hne : o.els ≠ [] := fun e => h2 (List.length_eq_zero_iff.1 (by rw [k2.len, e]; rfl))
      obtain ⟨C, c1, c2, c3⟩ := hg.sim.obj i o k1 hne
      refine ⟨C, ?_, by rw [k2.len, k2.sz]; exact c2, fun j k hj => ?_⟩
      · rw [hun _ (hg.sim.lt k1 hne) fun hM => (hMO _ hM).2 ⟨i, o, k1, hne, rfl⟩, k2.ty]; exact c1
      · rw [k2.len] at hj
        obtain ⟨e1, e2⟩ := k2.cells j hj
        refine ⟨by rw [e1, k2.sz]; exact (c3 j k hj).1, fun hk => ?_⟩
        rw [k2.sz] at hk
        obtain ⟨u, u1, u2, u3⟩ := (c3 j k hj).2 hk
        exact ⟨u, by rw [k2.sz]; exact u1, u2, up0 _ _ _ (e2 k hk) u3⟩
  have hevo : EvoB m.B F φ S w φ S' w' := by
    refine ⟨hos, htape, hout, hsize, by omega, fun b hb hn hF => hun b hb fun hM => ?_, hcs, fun b _ h => hownS b h, fun i o' hi h => ?_⟩
    · exact hB b hM hF
    · obtain ⟨o, k1, k2⟩ := hSa i o' h
      exact ⟨o, k1, k2.sz.symm, k2.ty.symm, by rw [k2.len]; exact Nat.le_refl _, fun _ => rfl⟩
  refine next F φ w' (ac.put o.dst v) Q ⟨hsim, ?_, ?_, ?_, fun x hx => Nat.lt_of_lt_of_le (hg.bd x hx) hsize⟩ (fun a'' S'' F'' φ'' w'' ac'' hp hg'' he'' hgr => hq a'' S'' F'' φ'' w'' ac'' hp hg'' (hevo.trans (Gro.refl _ _) he'') ((Gro.refl F w).trans hgr hsize))
  · cases hd : o.dst <;> simp [Act.put, hg.defers]
  · cases hd : o.dst <;> simp [Act.put, hg.size]
  · exact Slots.put hslots o.dst (fun t ht => by rw [hg.size]; exact dstOK_spec hok.2 t ht) (hres _ _ _)

/-! A maker's result by value. -/
theorem Made0.vi {φ : Nat → Nat} {S : St} {O O' : Nat → Prop} {w : World} {r b : AV} {v : Value} (h : Made0 r b) (hv : VR φ S O w r v) (hO : ∀ x, O' x → ¬ O x) : VI O' w b v := by
  have hp := h.phys hv
  refine hp.vi fun x hx hx' => ?_
  exact hO x hx' (VR.os hx hv).1
theorem MadeL.vi {φ : Nat → Nat} {S : St} {O O' : Nat → Prop} {w : World} {R : AV → AV → Prop} (hR : ∀ r b v, R r b → VR φ S O w r v → VI O' w b v) : ∀ {rs bs : List AV}, MadeL R rs bs → rs.length = bs.length ∧ ∀ (f : Nat → Value), (∀ j, j < rs.length → VR φ S O w (rs.getD j .undef) (f j)) → ∀ j, j < bs.length → VI O' w (bs.getD j .undef) (f j)
  | [], [], _ => ⟨rfl, fun f hf j hj => absurd hj (Nat.not_lt_zero _)⟩
  | [], _ :: _, h => h.elim
  | _ :: _, [], h => h.elim
  | r :: rs, b :: bs, h => by
    obtain ⟨h1, h2⟩ := MadeL.vi hR h.2.2
    refine ⟨by simp [h1], fun f hf j hj => ?_⟩
    cases j with
    | zero => exact hR r b _ h.1 (by simpa using hf 0 (by simp))
    | succ j => simpa using h2 (fun j => f (j + 1)) (fun j hj => by simpa using hf (j + 1) (by simpa using hj)) j (by simpa using hj)
theorem Made1.vi {φ : Nat → Nat} {S : St} {O O' : Nat → Prop} {w : World} {r b : AV} {v : Value} (h : Made1 r b) (hv : VR φ S O w r v) (hO : ∀ x, O' x → ¬ O x) : VI O' w b v := by
  cases b with
  | agg bs =>
    obtain ⟨rs, rfl, h⟩ := h
    obtain ⟨xs, rfl, h1, h2⟩ := hv.agg_inv
    obtain ⟨k1, k2⟩ := MadeL.vi (O' := O') (fun r b v (h : Made0 r b) hv => h.vi hv hO) h
    exact .agg (by omega) (k2 _ h2)
  | _ => exact Made0.vi h hv hO
theorem Made.vi {φ : Nat → Nat} {S : St} {O O' : Nat → Prop} {w : World} {r b : AV} {v : Value} (h : Made r b) (hv : VR φ S O w r v) (hO : ∀ x, O' x → ¬ O x) : VI O' w b v := by
  cases b with
  | tup bs =>
    obtain ⟨rs, rfl, h⟩ := h
    obtain ⟨xs, rfl, h1, h2⟩ := hv.tup_inv
    obtain ⟨k1, k2⟩ := MadeL.vi (O' := O') (fun r b v (h : Made1 r b) hv => h.vi hv hO) h
    exact .tup (by omega) (k2 _ h2)
  | _ => exact Made1.vi h hv hO

theorem MF.byv {as' : List AV} {b : AV} (hc : MF P g as' b) (S : St) (hs : Seals True S as as') : FC P g as S (fun r S' => r = b ∧ S' = S) := by
  refine ⟨hc.1, fun F φ w vs hsim hv => ?_⟩
  have hl := hs.all
  have hargs : VRs φ [] (OO (fun _ => False) φ []) w as' vs := ⟨by rw [hv.1, hl.1], fun j hj => .pure ((hl.2 j (by omega)).vi hsim (fun b hb => ((oo_nil.1 hb : False)).elim) (fun _ b hb => (oo_nil.1 hb : False)) (hv.2 j (by omega)))⟩
  refine (hc.2 (fun _ => False) φ w vs (Sim.empty fun _ h => h.elim) hargs).mono ?_
  rintro e w' ⟨r, S', F1, φ', v, ⟨rfl, hq⟩, rfl, hs', hv', he, hgr⟩
  obtain ⟨k1, k2⟩ := hsim.kept he
  have hnew : ∀ x, F1 x → w.heap.size ≤ x := fun x hx => (hgr.new x hx).elim (fun h => h.elim) id
  refine ⟨b, S, F, φ, v, ⟨rfl, rfl⟩, rfl, k1, .pure (hq.vi hv' fun x hx hx' => ?_), k2, Gro.refl _ _⟩
  have h1 := hnew x (oo_nil.1 hx')
  rcases hx with hx | ⟨i, o, ho, hn, rfl⟩
  · have := hsim.fl x hx; omega
  · have := hsim.lt ho hn; omega

/-- A call of a maker, its result taken by value. -/
theorem RG.mv {as' : List AV} {b : AV} (h : callA o a = some (g, as)) (hd : o.dst = d) (hc : MF P g as' b) (hs : Seals True S as as') (hr : RG P m ops rest (upd a d b) S Post) (hgd : agd ops o a = some true := by rfl) (hok : (gdOK m.n ops o && dstOK m.n o.dst) = true := by rfl) : RG P m ops (o :: rest) a S Post :=
  RG.fc h hd (hc.byv S hs) (fun r' S' ⟨h1, h2⟩ => by rw [h1, h2]; exact hr) hgd hok
end

/-- A call of a maker in a region whose order is drawn, its result taken by value. -/
theorem QR.mvc {P : Program} {T : Tab P} {rows : List Nat} {ops : Array Oper} {con : Nat → CK} {pi ids : List Nat} {Post : (Nat → AV) → St → Prop} {o : Oper} {a : Nat → AV} {S : St} {l : List (Nat × Oper)} {H : Nat → Prop} {i : Nat} {d : Option Nat} {g : FuncId} {as : List AV} {b : AV}
    (h : callA o a = some (g, as)) (hd : o.dst = d) (hc : MF P g as b) (hs : as.all pv = true) (hr : QR T rows ops con pi ids Post l (upd a d b) S H) (hcon : con i = .pf b := by rfl) (hgd : agd ops o a = some true := by rfl) : QR T rows ops con pi ids Post ((i, o) :: l) a S H := by
  subst hd
  have hseal : ∀ S, Seals True S as as := by
    intro S
    induction as with
    | nil => trivial
    | cons u us ih =>
      simp only [List.all_cons, Bool.and_eq_true] at hs
      have : ∀ us : List AV, us.all pv = true → Seals True S us us := by
        intro us
        induction us with
        | nil => intro _; trivial
        | cons v vs ih => intro h; simp only [List.all_cons, Bool.and_eq_true] at h; exact ⟨.same h.1, ih h.2⟩
      exact ⟨.same hs.1, this us hs.2⟩
  exact .one (.pf hgd h hcon (fun S => hc.byv S (hseal S)) trivial) (fun _ _ _ => .pf hgd h hcon (fun S => hc.byv S (hseal S)) trivial) hr
end Go.Fw
