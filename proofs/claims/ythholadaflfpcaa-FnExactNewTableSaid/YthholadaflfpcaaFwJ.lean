/-
  Judgements on functions, regions and code; their rules.
-/
import Derived.Test.YthholadaflfpcaaFwI
namespace Go.Fw
open Go Go.RowKit

/-- A frame: how many temporaries; which blocks must stay as they are. -/
structure Fr where
  n : Nat
  B : Nat → Prop

/-- A frame and a world that fit an abstract frame and store. -/
structure Good (F : Nat → Prop) (φ : Nat → Nat) (S : St) (w : World) (m : Fr) (a : Nat → AV) (ac : Act) : Prop where
  sim : Sim F φ S w
  defers : ac.defers = []
  size : ac.tmps.size = m.n
  slots : Slots φ S (OO F φ S) w a ac
  bd : ∀ x, m.B x → x < w.heap.size

/-- How a world goes on where others' blocks outside B may be written. -/
structure EvoB (B F : Nat → Prop) (φ : Nat → Nat) (S : St) (w : World) (φ' : Nat → Nat) (S' : St) (w' : World) : Prop where
  os : w'.os = w.os
  tape : w'.tape = w.tape
  output : w'.output = w.output
  hsize : w.heap.size ≤ w'.heap.size
  len : S.length ≤ S'.length
  unch : ∀ b : Nat, b < w.heap.size → ¬ Own φ S b → B b → w'.heap[b]? = w.heap[b]?
  csize : ∀ (b : Nat) (C : Array Value) (ty : TypeId) (fr : Nat × Nat), w.heap[b]? = some (Obj.cells C ty fr) → ∃ (C' : Array Value) (ty' : TypeId) (fr' : Nat × Nat), w'.heap[b]? = some (Obj.cells C' ty' fr') ∧ C'.size = C.size
  own : ∀ b : Nat, b < w.heap.size → Own φ' S' b → Own φ S b
  old : ∀ i o', i < S.length → S'.at i = some o' → ∃ o, S.at i = some o ∧ o.sz = o'.sz ∧ o.ty = o'.ty ∧ o.els.length ≤ o'.els.length ∧ (o.els.length = o'.els.length → φ' i = φ i)

theorem Evo.toB {φ φ' : Nat → Nat} {S S' : St} {w w' : World} (h : Evo φ S w φ' S' w') (B F : Nat → Prop) : EvoB B F φ S w φ' S' w' :=
  ⟨h.os, h.tape, h.output, h.hsize, h.len, fun b hb ho _ => h.unch b hb ho, h.csize, h.own, h.old⟩

theorem EvoB.trans {B F F1 : Nat → Prop} {φ φ1 φ2 : Nat → Nat} {S S1 S2 : St} {w w1 w2 : World} (h : EvoB B F φ S w φ1 S1 w1) (g : Gro F w F1) (k : EvoB B F1 φ1 S1 w1 φ2 S2 w2) : EvoB B F φ S w φ2 S2 w2 where
  os := k.os.trans h.os
  tape := k.tape.trans h.tape
  output := k.output.trans h.output
  hsize := Nat.le_trans h.hsize k.hsize
  len := Nat.le_trans h.len k.len
  unch b hb hn hB := (k.unch b (Nat.lt_of_lt_of_le hb h.hsize) (fun ho => hn (h.own b hb ho)) hB).trans (h.unch b hb hn hB)
  csize b C ty fr hc := by
    obtain ⟨C1, t1, f1, h1, e1⟩ := h.csize b C ty fr hc
    obtain ⟨C2, t2, f2, h2, e2⟩ := k.csize b C1 t1 f1 h1
    exact ⟨C2, t2, f2, h2, e2.trans e1⟩
  own b hb ho := h.own b hb (k.own b (Nat.lt_of_lt_of_le hb h.hsize) ho)
  old i o2 hi h2 := by
    obtain ⟨o1, a1, b1, b1', c1, d1⟩ := k.old i o2 (Nat.lt_of_lt_of_le hi h.len) h2
    obtain ⟨o, a, b, b', c, d⟩ := h.old i o1 hi a1
    exact ⟨o, a, b.trans b1, b'.trans b1', Nat.le_trans c c1, fun e => (d1 (by omega)).trans (d (by omega))⟩

theorem EvoB.all {F : Nat → Prop} {φ φ' : Nat → Nat} {S S' : St} {w w' : World} {B : Nat → Prop} (h : EvoB B F φ S w φ' S' w') (hB : ∀ x, x < w.heap.size → B x) : Evo φ S w φ' S' w' :=
  ⟨h.os, h.tape, h.output, h.hsize, h.len, fun b hb ho => h.unch b hb ho (hB b hb), h.csize, h.own, h.old⟩

/-- A function that has a body. -/
def Callable (P : Program) (g : FuncId) : Prop := ∃ fn, P.funcs[g]? = some fn ∧ (fn.name == "runtime.NumGoroutine") = false ∧ fn.body.isNone = false

/-- Values and what they stand for, one by one. -/
def VRs (φ : Nat → Nat) (S : St) (O : Nat → Prop) (w : World) (as : List AV) (vs : List Value) : Prop := vs.length = as.length ∧ ∀ j, j < as.length → VR φ S O w (as.getD j .undef) (vs.getD j undef)

/-- What a call of a function comes to: it returns, with a value and a store of which Post holds. -/
def FC (P : Program) (g : FuncId) (args : List AV) (S : St) (Post : AV → St → Prop) : Prop :=
  Callable P g ∧ ∀ (F : Nat → Prop) (φ : Nat → Nat) (w : World) (vs : List Value), Sim F φ S w → VRs φ S (OO F φ S) w args vs →
    Calls P g vs.toArray w fun e w' => ∃ r S' F' φ' v, Post r S' ∧ e = .returned v ∧ Sim F' φ' S' w' ∧ VR φ' S' (OO F' φ' S') w' r v ∧ Evo φ S w φ' S' w' ∧ Gro F w F'

/-- The same, where what is said of the end may speak of the begin. -/
def FCX (P : Program) (g : FuncId) (args : List AV) (S : St) (Post : (Nat → Prop) → World → AV → St → Prop) : Prop :=
  Callable P g ∧ ∀ (F : Nat → Prop) (φ : Nat → Nat) (w : World) (vs : List Value), Sim F φ S w → VRs φ S (OO F φ S) w args vs →
    Calls P g vs.toArray w fun e w' => ∃ r S' F' φ' v, Post F w r S' ∧ e = .returned v ∧ Sim F' φ' S' w' ∧ VR φ' S' (OO F' φ' S') w' r v ∧ Evo φ S w φ' S' w' ∧ Gro F w F'

theorem FC.mono {P : Program} {g : FuncId} {args : List AV} {S : St} {Post Post' : AV → St → Prop} (h : FC P g args S Post) (hp : ∀ r S', Post r S' → Post' r S') : FC P g args S Post' :=
  ⟨h.1, fun F φ w vs hs hv => (h.2 F φ w vs hs hv).mono fun _ _ ⟨r, S', F', φ', v, h1, h2⟩ => ⟨r, S', F', φ', v, hp r S' h1, h2⟩⟩

def RG (P : Program) (m : Fr) (ops : Array Oper) (l : List Oper) (a : Nat → AV) (S : St) (Post : (Nat → AV) → St → Prop) : Prop :=
  ∀ (F : Nat → Prop) (φ : Nat → Nat) (w : World) (ac : Act) (Q : Exit → Act → World → Prop), Good F φ S w m a ac →
    (∀ a' S' F' φ' w' ac', Post a' S' → Good F' φ' S' w' m a' ac' → EvoB m.B F φ S w φ' S' w' → Gro F w F' → Q .normal ac' w') → wpList P ops Q l ac w

def SC (P : Program) (m : Fr) (c : Code) (a : Nat → AV) (S : St) (Post : Exit → (Nat → AV) → St → Prop) : Prop :=
  ∀ (F : Nat → Prop) (φ : Nat → Nat) (w : World) (ac : Act) (Q : Exit → Act → World → Prop), Good F φ S w m a ac →
    (∀ e a' S' F' φ' w' ac', Post e a' S' → Good F' φ' S' w' m a' ac' → EvoB m.B F φ S w φ' S' w' → Gro F w F' → Q e ac' w') → c.wp P Q ac w

/-- Is an operation's guard met? -/
def agd (ops : Array Oper) (o : Oper) (a : Nat → AV) : Option Bool :=
  match o.guard with
  | none => some true
  | some (j, b) => match (ops[j]?).bind (·.dst) with
    | none => some false
    | some d => match a d with
      | .bool b' => some (b' == b)
      | .tup [] => some false
      | _ => none

def dstOK (m : Nat) (d : Option Nat) : Bool := match d with | none => true | some d => d < m

section
variable {P : Program} {m : Fr} {ops : Array Oper} {o : Oper} {rest : List Oper} {a : Nat → AV} {S : St} {Post : (Nat → AV) → St → Prop}

theorem agd_wanted {F : Nat → Prop} {φ : Nat → Nat} {w : World} {ac : Act} (hg : Good F φ S w m a ac) (hm : ∀ d, ∀ j b, o.guard = some (j, b) → (ops[j]?).bind (·.dst) = some d → d < m.n) {b : Bool} (h : agd ops o a = some b) : Region.wanted o (yielded ops ac.tmps) = b := by
  unfold agd at h
  unfold Region.wanted
  split at h
  · rename_i hgd; simp at h; simp [hgd, h]
  · rename_i j b' hgd
    simp only [hgd]
    unfold yielded
    split at h
    · rename_i hd; simp at h; simp [hd, ← h]
    · rename_i d hd
      have hlt := hm d j b' hgd hd
      have hs := hg.slots d
      have hsz := hg.size
      have hlt2 : d < ac.tmps.size := by rw [hsz]; exact hlt
      have hget : ac.tmps[d]? = some (ac.tmps.getD d undef) := by
        rw [Array.getElem?_eq_getElem hlt2]; simp [Array.getD, hlt2]
      split at h
      · rename_i b'' hb
        rw [hb] at hs
        simp only [Option.some.injEq] at h
        simp only [hd, Option.bind_some, hget, hs.bool_inv]
        rw [← h]
        cases b'' <;> cases b' <;> rfl
      · rename_i hb
        rw [hb] at hs
        simp only [Option.some.injEq] at h
        have : ac.tmps.getD d undef = .tuple #[] := by
          have key : ∀ v, VR φ S (OO F φ S) w (.tup []) v → v = .tuple #[] := by
            intro v hv
            cases hv with
            | pure hv => cases hv with | tup h1 h2 => simp at h1; simp [h1]
            | tup h1 h2 => simp at h1; simp [h1]
          exact key _ hs
        simp only [hd, Option.bind_some, hget, this]
        rw [← h]
        rfl
      · cases h

/-- The guards' places lie in the frame. -/
def gdOK (m : Nat) (ops : Array Oper) (o : Oper) : Bool := match o.guard with | none => true | some (j, _) => match (ops[j]?).bind (·.dst) with | none => true | some d => d < m

theorem gdOK_spec (h : gdOK m.n ops o = true) : ∀ d, ∀ j b, o.guard = some (j, b) → (ops[j]?).bind (·.dst) = some d → d < m.n := by
  intro d j b h1 h2
  unfold gdOK at h
  simp only [h1, h2] at h
  simpa using h

theorem dstOK_spec {d : Option Nat} (h : dstOK m.n d = true) : ∀ t, d = some t → t < m.n := by
  rintro t rfl
  simpa [dstOK] using h

theorem RG.nil (h : Post a S) : RG P m ops [] a S Post := fun F φ w ac Q hg hq => hq a S F φ w ac h hg ((Evo.refl _ _ _).toB _ _) (Gro.refl _ _)

theorem RG.op {v : AV} {S' : St} (ho : OpR P o a S v S') (h : RG P m ops rest (upd a o.dst v) S' Post) (hgd : agd ops o a = some true := by rfl) (hok : (gdOK m.n ops o && dstOK m.n o.dst) = true := by rfl) : RG P m ops (o :: rest) a S Post := by
  intro F φ w ac Q hg hq
  rw [Bool.and_eq_true] at hok
  have hw := agd_wanted hg (gdOK_spec hok.1) hgd
  obtain ⟨res, vv, w', φ', hrun, hres, hs, hv, he⟩ := ho F φ w ac hg.sim hg.slots
  unfold wpList
  rw [if_pos hw]
  refine .inl ?_
  have hgood : Good F φ' S' w' m (upd a o.dst v) (ac.put o.dst vv) := by
    refine ⟨hs, ?_, ?_, ?_, fun x hx => Nat.lt_of_lt_of_le (hg.bd x hx) he.hsize⟩
    · cases hd : o.dst <;> simp [Act.put, hg.defers]
    · cases hd : o.dst <;> simp [Act.put, hg.size]
    · exact (hg.slots.evo he).put o.dst (fun t ht => by rw [hg.size]; exact dstOK_spec hok.2 t ht) hv
  have hrest := h F φ' w' (ac.put o.dst vv) Q hgood (fun a'' S'' F'' φ'' w'' ac'' hp hg'' he'' hgr => hq a'' S'' F'' φ'' w'' ac'' hp hg'' ((he.toB m.B F).trans (Gro.refl F w) he'') ((Gro.refl F w).trans hgr he.hsize))
  unfold Oper.wp
  rw [hrun]
  rcases hres with rfl | ⟨rfl, rfl⟩
  · exact hrest
  · exact hrest

theorem RG.skip (h : RG P m ops rest (upd a o.dst (.tup [])) S Post) (hgd : agd ops o a = some false := by rfl) (hok : (gdOK m.n ops o && dstOK m.n o.dst) = true := by rfl) : RG P m ops (o :: rest) a S Post := by
  intro F φ w ac Q hg hq
  rw [Bool.and_eq_true] at hok
  have hw := agd_wanted hg (gdOK_spec hok.1) hgd
  unfold wpList
  rw [if_neg (by rw [hw]; simp)]
  refine h F φ w _ Q ⟨hg.sim, ?_, ?_, ?_, hg.bd⟩ hq
  · cases hd : o.dst <;> simp [Act.put, hg.defers]
  · cases hd : o.dst <;> simp [Act.put, hg.size]
  · exact hg.slots.put o.dst (fun t ht => by rw [hg.size]; exact dstOK_spec hok.2 t ht) (.pure (.tup rfl (fun j hj => absurd hj (Nat.not_lt_zero _))))

theorem callX_wp {F : Nat → Prop} {φ : Nat → Nat} {w : World} {ac : Act} {K : Act → World → Prop} {Q : Exit → Act → World → Prop} (hg : Good F φ S w m a ac) {f : Operand} {args : Array Operand} {ts : Array TypeId} {g : FuncId} {first caps : List AV} {Post1 : (Nat → Prop) → World → AV → St → Prop} (ho : o.op = .call { callee := .value f, args := args, argTypes := ts }) (hf : aev a f = .fn g first caps)
    (hc : FCX P g (first ++ args.toList.map (aev a) ++ caps) S Post1) (hK : ∀ r S' F' φ' w' v, Post1 F w r S' → Sim F' φ' S' w' → VR φ' S' (OO F' φ' S') w' r v → Evo φ S w φ' S' w' → Gro F w F' → K (ac.put o.dst v) w') : o.wp P ac w K Q := by
  have ef := VR.eval hg.slots f
  rw [hf] at ef
  generalize hfe : ac.eval f = fv at ef
  have key : ∃ us vs : Array Value, fv = .func (.func g) us vs ∧ us.size = first.length ∧ (∀ j, j < first.length → VR φ S (OO F φ S) w (first.getD j .undef) (us.getD j undef)) ∧ vs.size = caps.length ∧ ∀ j, j < caps.length → VR φ S (OO F φ S) w (caps.getD j .undef) (vs.getD j undef) := by
    cases ef with
    | pure ef => cases ef with | fn h1 h2 h3 h4 => exact ⟨_, _, rfl, h1, fun j hj => .pure (h2 j hj), h3, fun j hj => .pure (h4 j hj)⟩
    | fn h1 h2 h3 h4 => exact ⟨_, _, rfl, h1, h2, h3, h4⟩
  obtain ⟨us, vs, rfl, h1, h2, h3, h4⟩ := key
  obtain ⟨⟨fn, hfn, hname, hbody⟩, hcall⟩ := hc
  have hargs : VRs φ S (OO F φ S) w (first ++ args.toList.map (aev a) ++ caps) (us.toList ++ (args.map ac.eval).toList ++ vs.toList) := by
    refine ⟨by simp [h1, h3], fun j hj => ?_⟩
    simp only [List.length_append, List.length_map, Array.length_toList] at hj
    by_cases j1 : j < first.length
    · rw [List.append_assoc, getD_append_left _ _ _ _ j1, List.append_assoc, getD_append_left _ _ _ _ (by simpa [h1] using j1)]
      have := h2 j j1
      simpa [List.getD_eq_getElem?_getD, Array.getD_eq_getD_getElem?] using this
    · by_cases j2 : j < first.length + args.size
      · rw [getD_append_left _ _ _ _ (by simp; omega), getD_append_right _ _ _ _ (by omega), getD_append_left _ _ _ _ (by simp; omega), getD_append_right _ _ _ _ (by simp; omega)]
        have hlt : j - first.length < args.size := by omega
        have e1 : (args.toList.map (aev a)).getD (j - first.length) .undef = aev a args[j - first.length] := by simp [List.getD_eq_getElem?_getD, hlt]
        have e2 : (args.map ac.eval).toList.getD (j - us.toList.length) undef = ac.eval args[j - first.length] := by simp [List.getD_eq_getElem?_getD, h1, hlt]
        rw [e1, e2]
        exact VR.eval hg.slots _
      · rw [getD_append_right _ _ _ _ (by simp; omega), getD_append_right _ _ _ _ (by simp [h1]; omega)]
        have := h4 (j - (first.length + args.size)) (by omega)
        simpa [List.getD_eq_getElem?_getD, Array.getD_eq_getD_getElem?, h1] using this
  have hC := hcall F φ w _ hg.sim hargs
  have hrun : (execOp ac.eval o).run P w = .ok (.enter g ((us.toList ++ (args.map ac.eval).toList ++ vs.toList).toArray)) w := by
    have hbody' : fn.body.isNone = true → False := fun h => by rw [hbody] at h; cases h
    have e : (us.toList ++ (args.map ac.eval).toList ++ vs.toList).toArray = us ++ args.map ac.eval ++ vs := by simp
    rw [e]
    simp only [execOp, ho, resolve, Deferred.ofValue, hfe, Sem.run_bind, Sem.run_pure, Result.andThen_ok, invoke, callFunc, run_program, hfn, hname, hbody]
    rfl
  unfold Oper.wp
  rw [hrun]
  refine hC.mono ?_
  rintro e w' ⟨r, S', F', φ', v, hp, rfl, hs, hv, he, hgr0⟩
  exact hK r S' F' φ' w' v hp hs hv he hgr0

theorem RG.callX {f : Operand} {args : Array Operand} {ts : Array TypeId} {g : FuncId} {first caps : List AV} {Post1 : (Nat → Prop) → World → AV → St → Prop} (ho : o.op = .call { callee := .value f, args := args, argTypes := ts }) (hf : aev a f = .fn g first caps)
    (hc : FCX P g (first ++ args.toList.map (aev a) ++ caps) S Post1) (h : ∀ F φ w ac r S', Good F φ S w m a ac → Post1 F w r S' → RG P m ops rest (upd a o.dst r) S' Post) (hgd : agd ops o a = some true := by rfl) (hok : (gdOK m.n ops o && dstOK m.n o.dst) = true := by rfl) : RG P m ops (o :: rest) a S Post := by
  intro F φ w ac Q hg hq
  rw [Bool.and_eq_true] at hok
  have hw := agd_wanted hg (gdOK_spec hok.1) hgd
  unfold wpList
  rw [if_pos hw]
  refine .inl (callX_wp hg ho hf hc fun r S' F' φ' w' v hp hs hv he hgr0 => ?_)
  refine h F φ w ac r S' hg hp F' φ' w' (ac.put o.dst v) Q ⟨hs, ?_, ?_, ?_, fun x hx => Nat.lt_of_lt_of_le (hg.bd x hx) he.hsize⟩ (fun a'' S'' F'' φ'' w'' ac'' hp hg'' he'' hgr => hq a'' S'' F'' φ'' w'' ac'' hp hg'' ((he.toB m.B F).trans hgr0 he'') (hgr0.trans hgr he.hsize))
  · cases hd : o.dst <;> simp [Act.put, hg.defers]
  · cases hd : o.dst <;> simp [Act.put, hg.size]
  · exact Slots.put (fun t => (hg.slots t).evo' he hgr0) o.dst (fun t ht => by rw [hg.size]; exact dstOK_spec hok.2 t ht) hv

theorem RG.call {f : Operand} {args : Array Operand} {ts : Array TypeId} {g : FuncId} {first caps : List AV} {Post1 : AV → St → Prop} (ho : o.op = .call { callee := .value f, args := args, argTypes := ts }) (hf : aev a f = .fn g first caps)
    (hc : FC P g (first ++ args.toList.map (aev a) ++ caps) S Post1) (h : ∀ r S', Post1 r S' → RG P m ops rest (upd a o.dst r) S' Post) (hgd : agd ops o a = some true := by rfl) (hok : (gdOK m.n ops o && dstOK m.n o.dst) = true := by rfl) : RG P m ops (o :: rest) a S Post :=
  RG.callX ho hf (Post1 := fun _ _ => Post1) hc (fun _ _ _ _ r S' _ hp => h r S' hp) hgd hok
end

section
variable {P : Program} {m : Fr} {a : Nat → AV} {S : St} {Post : Exit → (Nat → AV) → St → Prop}

theorem SC.mono {c : Code} {Post' : Exit → (Nat → AV) → St → Prop} (h : SC P m c a S Post) (hp : ∀ e a' S', Post e a' S' → Post' e a' S') : SC P m c a S Post' :=
  fun F φ w ac Q hg hq => h F φ w ac Q hg fun e a' S' F' φ' w' ac' h1 h2 h3 => hq e a' S' F' φ' w' ac' (hp e a' S' h1) h2 h3

theorem SC.skip (h : Post .normal a S) : SC P m .skip a S Post := fun F φ w ac Q hg hq => wp_skip (hq _ _ _ _ _ _ _ h hg ((Evo.refl _ _ _).toB _ _) (Gro.refl _ _))
theorem SC.exit {id : Nat} (h : Post (.exit id) a S) : SC P m (.exit id) a S Post := fun F φ w ac Q hg hq => wp_exit (hq _ _ _ _ _ _ _ h hg ((Evo.refl _ _ _).toB _ _) (Gro.refl _ _))
theorem SC.ret (h : Post .ret a S) : SC P m .ret a S Post := fun F φ w ac Q hg hq => wp_ret (hq _ _ _ _ _ _ _ h hg ((Evo.refl _ _ _).toB _ _) (Gro.refl _ _))

/-- What is asked of the end of a first part. -/
def thenP (next : (Nat → AV) → St → Prop) (Post : Exit → (Nat → AV) → St → Prop) : Exit → (Nat → AV) → St → Prop
  | .normal, a, S => next a S
  | e, a, S => Post e a S

theorem SC.seq {x y : Code} (h : SC P m x a S (thenP (fun a' S' => SC P m y a' S' Post) Post)) : SC P m (.seq x y) a S Post := by
  intro F φ w ac Q hg hq
  refine wp_seq (h F φ w ac _ hg fun e a' S' F' φ' w' ac' hp hg' he hgr => ?_)
  cases e with
  | normal => exact hp F' φ' w' ac' Q hg' fun e a'' S'' F'' φ'' w'' ac'' h1 h2 h3 h4 => hq _ _ _ _ _ _ _ h1 h2 (he.trans hgr h3) (hgr.trans h4 he.hsize)
  | _ => exact hq _ _ _ _ _ _ _ hp hg' he hgr

theorem SC.cond {c : Operand} {x y : Code} {b : Bool} (hc : aev a c = .bool b) (ht : b = true → SC P m x a S Post) (hf : b = false → SC P m y a S Post) : SC P m (.cond c x y) a S Post := by
  intro F φ w ac Q hg hq
  have ec := VR.eval hg.slots c
  rw [hc] at ec
  cases b with
  | true => exact wp_cond_true ec.bool_inv (ht rfl F φ w ac Q hg hq)
  | false => exact wp_cond_false ec.bool_inv (hf rfl F φ w ac Q hg hq)

def blockP (id : Nat) (Post : Exit → (Nat → AV) → St → Prop) : Exit → (Nat → AV) → St → Prop
  | .exit id', a, S => match Nat.beq id' id with
    | true => Post .normal a S
    | false => Post (.exit id') a S
  | e, a, S => Post e a S

theorem SC.block {id : Nat} {c : Code} (h : SC P m c a S (blockP id Post)) : SC P m (.block id c) a S Post := by
  intro F φ w ac Q hg hq
  refine wp_block (h F φ w ac _ hg fun e a' S' F' φ' w' ac' hp hg' he hgr => ?_)
  cases e with
  | exit id' =>
    simp only [blockP] at hp
    simp only [Exit.inBlock]
    split
    · rename_i e; subst e; simp only [Nat.beq_refl] at hp; exact hq _ _ _ _ _ _ _ hp hg' he hgr
    · rename_i e
      have e' : Nat.beq id' id = false := by
        cases hb : Nat.beq id' id with
        | true => exact (e (Nat.eq_of_beq_eq_true hb)).elim
        | false => rfl
      rw [e'] at hp; exact hq _ _ _ _ _ _ _ hp hg' he hgr
  | _ => exact hq _ _ _ _ _ _ _ hp hg' he hgr

theorem SC.region {id : Nat} {ops : Array Oper} (h : RG P m ops ops.toList a S (Post .normal)) : SC P m (.region id ops false) a S Post :=
  fun F φ w ac Q hg hq => wp_region_list (h F φ w ac Q hg fun a' S' F' φ' w' ac' h1 h2 h3 h4 => hq _ _ _ _ _ _ _ h1 h2 h3 h4)

end
end Go.Fw
