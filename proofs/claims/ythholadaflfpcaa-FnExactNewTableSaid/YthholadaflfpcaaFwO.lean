/-
  Ends of functions, calls of pure functions, counted loops.
-/
import Derived.Test.YthholadaflfpcaaFwN
namespace Go.Fw
open Go Go.RowKit

/-- The results at a function's end. -/
def res2 {P : Program} (T : Tab P) : List ResultVar → (Nat → AV) → St → Option (List AV)
  | [], _, _ => some []
  | .tmp t :: rs, a, S => f2 (a t) fun v => match res2 T rs a S with
    | some vs => some (v :: vs)
    | none => none
  | .cell t ty :: rs, a, S => match T.at_ ty with
    | some i => match ald S i.sz i.agg (a t) with
      | some v => f2 v fun v => match res2 T rs a S with
        | some vs => some (v :: vs)
        | none => none
      | none => none
    | none => none

theorem res2_ok {P : Program} (T : Tab P) {a : Nat → AV} {S : St} : ∀ {rs : List ResultVar} {vs : List AV}, res2 T rs a S = some vs → RVs P a S rs vs
  | [], vs, h => by simp only [res2, Option.some.injEq] at h; subst h; trivial
  | .tmp t :: rs, vs, h => by
    simp only [res2, f2_eq] at h
    split at h
    · rename_i vs' hr; cases h; exact ⟨rfl, res2_ok T hr⟩
    · cases h
  | .cell t ty :: rs, vs, h => by
    simp only [res2] at h
    split at h
    · rename_i i hi
      obtain ⟨d, h1, h1k, h2⟩ := (T.ok ty i hi).ty
      obtain ⟨h3, h4, h5, _⟩ := (T.ok ty i hi).one'
      split at h
      · rename_i v hl
        simp only [f2_eq] at h
        split at h
        · rename_i vs' hr; cases h; exact ⟨⟨_, _, h1.i h2, h3, hl⟩, res2_ok T hr⟩
        · cases h
      · cases h
    · cases h

def tup2 {P : Program} (T : Tab P) (rs : List ResultVar) (a : Nat → AV) (S : St) : Option AV := match res2 T rs a S with
  | some [v] => some v
  | some vs => some (.tup vs)
  | none => none

theorem tup2_ok {P : Program} {T : Tab P} {a : Nat → AV} {S : St} {rs : List ResultVar} {v : AV} (h : tup2 T rs a S = some v) : ∃ vs, RVs P a S rs vs ∧ tupOf vs = v := by
  unfold tup2 at h
  split at h
  · rename_i u hu; cases h; exact ⟨_, res2_ok T hu, rfl⟩
  · rename_i vs hne hu
    cases h
    refine ⟨_, res2_ok T hu, ?_⟩
    unfold tupOf
    split
    · exact (hne _ rfl).elim
    · rfl
  · cases h

/-- What is asked of a function's end. -/
structure End (P : Program) (rs : List ResultVar) (Q : AV → St → Prop) (e : Exit) (a : Nat → AV) (S : St) : Prop where
  at_ : e = .normal ∨ e = .ret
  res : ∃ vs, RVs P a S rs vs ∧ Q (tupOf vs) S

section
variable {P : Program} {m : Fr} {a : Nat → AV} {S : St}

theorem FC.text {g : FuncId} {fn : Func} {c : Code} {args : List AV} {Q : AV → St → Prop} (hf : P.funcs[g]? = some fn) (hb : fn.body = some c) (hname : (fn.name == "runtime.NumGoroutine") = false) (hm : Nat.ble args.length fn.ntmps = true)
    (h : ∀ B, SC P ⟨fn.ntmps, B⟩ c (argSlots args) S (End P fn.results.toList Q)) : FC P g args S Q := FC.body0 hf hb hname (Nat.le_of_ble_eq_true hm) (fun B => (h B).mono fun _ _ _ h => ⟨h.at_, h.res⟩)

theorem PF.text {g : FuncId} {fn : Func} {c : Code} {args : List AV} {r : AV} (hf : P.funcs[g]? = some fn) (hb : fn.body = some c) (hname : (fn.name == "runtime.NumGoroutine") = false) (hm : Nat.ble args.length fn.ntmps = true)
    (h : ∀ B, SC P ⟨fn.ntmps, B⟩ c (argSlots args) [] (End P fn.results.toList (fun r' S' => Seal S' r' r))) : PF P g args r := FC.byval (FC.text hf hb hname hm h)

/-- A function's end. -/
theorem End.ret {rs : List ResultVar} {Q : AV → St → Prop} {v : AV} (T : Tab P) (h : tup2 T rs a S = some v) (hq : Q v S) : End P rs Q .ret a S := by
  obtain ⟨vs, h1, rfl⟩ := tup2_ok h
  exact ⟨.inr rfl, vs, h1, hq⟩
theorem End.normal {rs : List ResultVar} {Q : AV → St → Prop} {v : AV} (T : Tab P) (h : tup2 T rs a S = some v) (hq : Q v S) : End P rs Q .normal a S := by
  obtain ⟨vs, h1, rfl⟩ := tup2_ok h
  exact ⟨.inl rfl, vs, h1, hq⟩

/-- The end of a text that returns. -/
theorem SC.end {rs : List ResultVar} {Q : AV → St → Prop} {v : AV} (T : Tab P) (h : tup2 T rs a S = some v) (hq : Q v S) : SC P m .ret a S (End P rs Q) := SC.ret (End.ret T h hq)
theorem SC.endT {rs : List ResultVar} {Q : AV → St → Prop} {next : (Nat → AV) → St → Prop} {v : AV} (T : Tab P) (h : tup2 T rs a S = some v) (hq : Q v S) : SC P m .ret a S (thenP next (End P rs Q)) := SC.ret (End.ret T h hq)

theorem seal_eq {v r : AV} (hs : pv v = true) (h : v = r) : Seal S v r := h ▸ .same hs
end

/-- What is called, with which arguments. -/
def callA (o : Oper) (a : Nat → AV) : Option (FuncId × List AV) := match o.op with
  | .call c => match c.callee with
    | .value f => match aev a f with
      | .fn g first caps => fL1 (c.args.toList.map (aev a)) fun as => some (g, first ++ as ++ caps)
      | _ => none
    | _ => none
  | _ => none

theorem callA_ok {o : Oper} {a : Nat → AV} {g : FuncId} {as : List AV} (h : callA o a = some (g, as)) : ∃ f args ts first caps, o.op = .call { callee := .value f, args := args, argTypes := ts } ∧ aev a f = .fn g first caps ∧ first ++ args.toList.map (aev a) ++ caps = as := by
  unfold callA at h
  split at h
  · rename_i c hc
    split at h
    · rename_i f hf
      split at h
      · rename_i g' first caps he
        simp only [fL1_eq, Option.some.injEq, Prod.mk.injEq] at h
        obtain ⟨rfl, rfl⟩ := h
        refine ⟨f, c.args, c.argTypes, first, caps, ?_, he, rfl⟩
        rw [hc]
        cases c
        simp only at hf
        subst hf
        rfl
      · cases h
    · cases h
  · cases h

section
variable {P : Program} {m : Fr} {ops : Array Oper} {o : Oper} {rest : List Oper} {a : Nat → AV} {S : St} {Post : (Nat → AV) → St → Prop} {g : FuncId} {as : List AV} {d : Option Nat}

theorem RG.fc {Post1 : AV → St → Prop} (h : callA o a = some (g, as)) (hd : o.dst = d) (hc : FC P g as S Post1) (hr : ∀ r S', Post1 r S' → RG P m ops rest (upd a d r) S' Post) (hgd : agd ops o a = some true := by rfl) (hok : (gdOK m.n ops o && dstOK m.n o.dst) = true := by rfl) : RG P m ops (o :: rest) a S Post := by
  obtain ⟨f, args, ts, first, caps, h1, h2, rfl⟩ := callA_ok h
  subst hd
  exact RG.call h1 h2 hc hr hgd hok

/-- A call of a pure function. -/
theorem RG.pf {r : AV} (h : callA o a = some (g, as)) (hd : o.dst = d) (hp : PF P g as r) (hs : (pv r && as.all pv) = true) (hr : RG P m ops rest (upd a d r) S Post) (hgd : agd ops o a = some true := by rfl) (hok : (gdOK m.n ops o && dstOK m.n o.dst) = true := by rfl) : RG P m ops (o :: rest) a S Post := by
  rw [Bool.and_eq_true] at hs
  exact RG.fc h hd (hp.fc S hs.2 hs.1) (fun r' S' ⟨h1, h2⟩ => by rw [h1, h2]; exact hr) hgd hok

/-- A Bool in a slot is told apart. -/
theorem RG.split {l : List Oper} {b : Bool} (d : Nat) (ha : a d = .bool b) (h : ∀ b', b = b' → RG P m ops l (upd a (some d) (.bool b')) S Post) : RG P m ops l a S Post := by
  have := h b rfl
  have e : upd a (some d) (.bool b) = a := by funext t; simp only [upd]; split <;> simp_all
  rw [e] at this
  exact this

/-- Values told one by one, sealed. -/
def Seals (bo : Prop) (S : St) : List AV → List AV → Prop
  | [], [] => True
  | u :: us, v :: vs => SealB bo S u v ∧ Seals bo S us vs
  | _, _ => False

theorem Seals.all {bo : Prop} {S : St} : ∀ {us vs : List AV}, Seals bo S us vs → us.length = vs.length ∧ ∀ j, j < us.length → SealB bo S (us.getD j .undef) (vs.getD j .undef)
  | [], [], _ => ⟨rfl, fun j hj => absurd hj (Nat.not_lt_zero _)⟩
  | [], _ :: _, h => h.elim
  | _ :: _, [], h => h.elim
  | u :: us, v :: vs, h => by
    obtain ⟨h1, h2⟩ := Seals.all h.2
    refine ⟨by simp [h1], fun j hj => ?_⟩
    cases j with
    | zero => exact h.1
    | succ j => simpa using h2 j (by simpa using hj)

/-- The blocks that a value owns. -/
inductive OS : AV → Nat → Prop
  | own {I : Gh} {b : AV} {x : Nat} : I x → OS (.own I b) x
  | agg {cs : List AV} {j x : Nat} : j < cs.length → OS (cs.getD j .undef) x → OS (.agg cs) x
  | tup {cs : List AV} {j x : Nat} : j < cs.length → OS (cs.getD j .undef) x → OS (.tup cs) x

/-- The blocks that values in slots and in the store own. -/
def Hid (a : Nat → AV) (S : St) (x : Nat) : Prop := (∃ t, OS (a t) x) ∨ ∃ id ob i j, S.at id = some ob ∧ i < ob.els.length ∧ j < ob.sz ∧ OS ((ob.els.getD i []).getD j .undef) x

theorem VR.os {φ : Nat → Nat} {S : St} {O : Nat → Prop} {w : World} {av : AV} {x : Nat} (h : OS av x) : ∀ {v : Value}, VR φ S O w av v → O x ∧ ¬ Own φ S x ∧ x < w.heap.size := by
  induction h with
  | own hx =>
    intro v hv
    cases hv with
    | pure hv => cases hv
    | own h1 h2 h3 h4 => exact ⟨h1 _ hx, h2 _ hx, h3.lt _ hx⟩
  | agg hj _ ih =>
    intro v hv
    obtain ⟨vs, rfl, h1, h2⟩ := hv.agg_inv
    exact ih (h2 _ hj)
  | tup hj _ ih =>
    intro v hv
    obtain ⟨vs, rfl, h1, h2⟩ := hv.tup_inv
    exact ih (h2 _ hj)

theorem Good.hid {F : Nat → Prop} {φ : Nat → Nat} {w : World} {ac : Act} (hg : Good F φ S w m a ac) {x : Nat} (h : Hid a S x) : x < w.heap.size := by
  rcases h with ⟨t, ht⟩ | ⟨id, ob, i, j, h1, h2, h3, h4⟩
  · exact (VR.os ht (hg.slots t)).2.2
  · obtain ⟨C, e1, e2, e3⟩ := hg.sim.obj id ob h1 (ne_of_lt_len rfl h2)
    obtain ⟨v, _, _, hv⟩ := (e3 i j h2).2 h3
    exact (VR.os h4 hv).2.2

/-- Values made of numbers and of what they own. -/
def mk0 : AV → Bool
  | .int .. | .bool _ | .str _ | .nsl | .nptr | .nfn | .own .. => true
  | _ => false
def mk1 : AV → Bool
  | .agg cs => cs.all mk0
  | v => mk0 v
def mk : AV → Bool
  | .tup cs => cs.all mk1
  | v => mk1 v

section
variable {φ φ' : Nat → Nat} {S' : St} {F1 F' : Nat → Prop} {w0 w : World}

theorem VR.mk0 {av : AV} {v : Value} (h : VR φ' [] (OO F1 φ' []) w av v) (hn : ∀ x, F1 x → F' x ∧ ¬ Own φ S' x) (hm : Fw.mk0 av = true) : VR φ S' (OO F' φ S') w av v := by
  cases h with
  | pure h => refine .pure ?_; cases h <;> first | (simp [Fw.mk0] at hm; done) | constructor
  | own h1 h2 h3 h4 => exact .own (fun x hx => .inl (hn x (oo_nil.1 (h1 x hx))).1) (fun x hx => (hn x (oo_nil.1 (h1 x hx))).2) h3 h4
  | _ => simp [Fw.mk0] at hm

theorem VR.mk1 {av : AV} {v : Value} (h : VR φ' [] (OO F1 φ' []) w av v) (hn : ∀ x, F1 x → F' x ∧ ¬ Own φ S' x) (hm : Fw.mk1 av = true) : VR φ S' (OO F' φ S') w av v := by
  cases av with
  | agg cs =>
    obtain ⟨vs, rfl, h1, h2⟩ := h.agg_inv
    exact .agg h1 fun j hj => (h2 j hj).mk0 hn (all_getD hm hj)
  | _ => exact h.mk0 hn hm

theorem VR.mk {av : AV} {v : Value} (h : VR φ' [] (OO F1 φ' []) w av v) (hn : ∀ x, F1 x → F' x ∧ ¬ Own φ S' x) (hm : Fw.mk av = true) : VR φ S' (OO F' φ S') w av v := by
  cases av with
  | tup cs =>
    obtain ⟨vs, rfl, h1, h2⟩ := h.tup_inv
    exact .tup h1 fun j hj => (h2 j hj).mk1 hn (all_getD hm hj)
  | _ => exact h.mk1 hn hm
end

/-- A function that makes its result out of values may be called with what owned objects tell. -/
theorem FC.mkX {as' : List AV} {Q : AV → Prop} (hc : FC P g as' [] (fun r S' => S' = [] ∧ Q r)) (hQ : ∀ r, Q r → mk r = true) (S : St) (hs : Seals True S as as') :
    FCX P g as S (fun F w r S' => S' = S ∧ Q r ∧ ∀ x, OS r x → w.heap.size ≤ x) := by
  refine ⟨hc.1, fun F φ w vs hsim hv => ?_⟩
  have hl := hs.all
  have hargs : VRs φ [] (OO (fun _ => False) φ []) w as' vs := ⟨by rw [hv.1, hl.1], fun j hj => .pure ((hl.2 j (by omega)).vi hsim (fun b hb => ((oo_nil.1 hb : False)).elim) (fun _ b hb => (oo_nil.1 hb : False)) (hv.2 j (by omega)))⟩
  refine (hc.2 (fun _ => False) φ w vs (Sim.empty fun _ h => h.elim) hargs).mono ?_
  rintro e w' ⟨r, S', F1, φ', v, ⟨rfl, hq⟩, rfl, hs', hv', he, hgr⟩
  obtain ⟨k1, k2⟩ := hsim.kept he
  have hnew : ∀ x, F1 x → w.heap.size ≤ x := fun x hx => (hgr.new x hx).elim (fun h => h.elim) id
  have hn : ∀ x, F1 x → (F x ∨ F1 x) ∧ ¬ Own φ S x := by
    refine fun x hx => ⟨.inr hx, ?_⟩
    rintro ⟨i, o, ho, hne, rfl⟩
    have := hsim.lt ho hne
    have := hnew _ hx
    omega
  refine ⟨r, S, fun x => F x ∨ F1 x, φ, v, ⟨rfl, hq, fun x hx => ?_⟩, rfl, ?_, hv'.mk hn (hQ r hq), k2, ⟨fun x hx => .inl hx, fun x hx => hx.elim .inl fun h => .inr (hnew x h)⟩⟩
  · exact hnew x (oo_nil.1 (VR.os hx hv').1)
  · refine ⟨fun b hb => hb.elim (k1.fl b) (hs'.fl b), fun i o ho hne => ?_, k1.inj, fun i o ho hne => ?_⟩
    · rintro (h | h)
      · exact k1.nf i o ho hne h
      · exact (hn _ h).2 ⟨i, o, ho, hne, rfl⟩
    · obtain ⟨C, e1, e2, e3⟩ := hsim.obj i o ho hne
      have := he.unch _ (hsim.lt ho hne) (own_nil _ _)
      refine ⟨C, by rw [this]; exact e1, e2, fun j k hj => ⟨(e3 j k hj).1, fun hk => ?_⟩⟩
      obtain ⟨u, u1, u2, u3⟩ := (e3 j k hj).2 hk
      exact ⟨u, u1, u2, u3.evo' k2 ⟨fun x hx => .inl hx, fun x hx => hx.elim .inl fun h => .inr (hnew x h)⟩⟩

/-- A call of such a function: what the result owns is new. -/
theorem RG.mk {as' : List AV} {Q : AV → Prop} (h : callA o a = some (g, as)) (hd : o.dst = d) (hc : FC P g as' [] (fun r S' => S' = [] ∧ Q r)) (hQ : ∀ r, Q r → Fw.mk r = true) (hs : Seals True S as as')
    (hr : ∀ r, Q r → (∀ x, OS r x → ¬ Hid a S x ∧ ¬ m.B x) → RG P m ops rest (upd a d r) S Post) (hgd : agd ops o a = some true := by rfl) (hok : (gdOK m.n ops o && dstOK m.n o.dst) = true := by rfl) : RG P m ops (o :: rest) a S Post := by
  obtain ⟨f, args, ts, first, caps, h1, h2, rfl⟩ := callA_ok h
  subst hd
  refine RG.callX h1 h2 (hc.mkX hQ S hs) (fun F φ w ac r S' hg hp => ?_) hgd hok
  obtain ⟨rfl, hq, hx⟩ := hp
  exact hr r hq fun x h1 => by
    have := hx x h1
    refine ⟨fun h2 => ?_, fun h2 => ?_⟩
    · have := hg.hid h2
      omega
    · have := hg.bd x h2
      omega

/-- A call of a pure function with what owned objects tell; its result is no memory. -/
theorem RG.pfb {r : AV} {as' : List AV} (h : callA o a = some (g, as)) (hd : o.dst = d) (hp : PF P g as' r) (hs : Seals True S as as') (hsc : Fw.mk r = true) (hr : RG P m ops rest (upd a d r) S Post) (hgd : agd ops o a = some true := by rfl) (hok : (gdOK m.n ops o && dstOK m.n o.dst) = true := by rfl) : RG P m ops (o :: rest) a S Post :=
  RG.mk (Q := fun r' => r' = r) h hd (hp.mono fun r' S' h => ⟨h.2, h.1⟩) (fun r' e => by rw [e]; exact hsc) hs (fun r' e _ => by rw [e]; exact hr) hgd hok

/-- A variable, sealed. -/
theorem SealB.var {bo : Prop} {id : Nat} {ty : TypeId} {sz : Nat} {cells : List AV} (h : S.at id = some ⟨ty, sz, [cells]⟩) (hz : cells.length = sz) (hs : cells.all pv0 = true) : SealB bo S (.ptr id 1 0 0) (.iptr cells) := by
  refine .ptr h rfl (by omega) (by simpa using hz) fun j hj => ?_
  simp only [Nat.zero_add, List.getD_cons_zero]
  refine .same ?_
  have := all_getD hs hj
  revert this
  generalize cells.getD j .undef = v
  cases v <;> simp [pv, pv1, pv0]
end

section
variable {P : Program} {m : Fr} {a : Nat → AV} {S : St} {Post : Exit → (Nat → AV) → St → Prop}

/-- A counted loop: at its head the slots are st i and the store is ss i; N rounds at most. -/
theorem SC.for {c : Code} (N : Nat) (I : Nat → Prop) (st : Nat → List (Nat × AV)) (ss : Nat → St) (i0 : Nat) (h0 : I i0) (hN : i0 ≤ N) (hd : Drop S (ss i0)) (hl : Agree a (ss i0).length (st i0)) (hS : ∀ i, S.length ≤ (ss i).length)
    (round : ∀ i, i ≤ N → I i → SC P m c (asl (st i)) (ss i) (thenP (fun a' S' => i < N ∧ I (i + 1) ∧ Drop S' (ss (i + 1)) ∧ Agree a' (ss (i + 1)).length (st (i + 1))) Post)) : SC P m (.loop c) a S Post := by
  refine SC.loop (fun n l S' => ∃ i, n = N - i ∧ i ≤ N ∧ I i ∧ l = st i ∧ S' = ss i) (N - i0) (st i0) (ss i0) ⟨i0, rfl, hN, h0, rfl, rfl⟩ hd hl (hS _) (fun n l S' ⟨i, _, _, _, _, e⟩ => e ▸ hS i) ?_
  rintro n l S1 ⟨i, rfl, hi, hI, rfl, rfl⟩
  refine (round i hi hI).mono fun e a' S' h => ?_
  cases e with
  | normal =>
    obtain ⟨h1, h2, h3, h4⟩ := h
    exact ⟨N - (i + 1), _, _, by omega, ⟨i + 1, rfl, by omega, h2, rfl, rfl⟩, h3, h4⟩
  | _ => exact h

/-- The same where there is no store. -/
theorem SC.for0 {c : Code} (N : Nat) (I : Nat → Prop) (st : Nat → List (Nat × AV)) (i0 : Nat) (h0 : I i0) (hN : i0 ≤ N) (hl : Agree a 0 (st i0))
    (round : ∀ i, i ≤ N → I i → SC P m c (asl (st i)) [] (thenP (fun a' S' => i < N ∧ I (i + 1) ∧ S' = [] ∧ Agree a' 0 (st (i + 1))) Post)) : SC P m (.loop c) a [] Post := by
  have hd0 : Drop [] [] := Drop.refl fun i o h => (by rw [at_nil] at h; cases h)
  refine SC.for N I st (fun _ => []) i0 h0 hN hd0 hl (fun _ => Nat.le_refl _) fun i hi hI => ?_
  refine (round i hi hI).mono fun e a' S' h => ?_
  cases e with
  | normal =>
    obtain ⟨h1, h2, rfl, h4⟩ := h
    exact ⟨h1, h2, hd0, h4⟩
  | _ => exact h
end

theorem all1 {L : Nat} {l : List AV} (h : l.all (sc1 L) = true) : l.all (sc L) = true := by
  rw [List.all_eq_true] at h ⊢
  intro v hv
  have := h v hv
  cases v <;> simp_all [sc, sc1, sc0]
theorem pvsc {l : List AV} (h : l.all pv1 = true) : l.all (sc1 0) = true ∧ l.all pv = true := by
  rw [List.all_eq_true] at h
  have key : ∀ l : List AV, l.all pv0 = true → l.all (sc0 0) = true := by
    intro l hl
    rw [List.all_eq_true] at hl ⊢
    intro v hv
    have := hl v hv
    cases v <;> simp_all [pv0, sc0]
  constructor <;> rw [List.all_eq_true]
  · intro v hv
    have := h v hv
    cases v <;> simp_all [pv1, pv0, sc1, sc0]
    rename_i cs
    have := key cs
    simp only [List.all_eq_true] at this
    exact this ‹_›
  · intro v hv
    have := h v hv
    cases v <;> simp_all [pv, pv1, pv0]

/-! Values by value. -/
def vInt (n : Int) : AV := .int .i64 n
def ints (l : List Int) : AV := .isl 1 l.length fun i => [.int .i64 (l.getD i 0)]

end Go.Fw
