/-
  Rows told by a list of things; a row without elements out of nil; functions that hand on what they were given; calls with one object of the store.
-/
import Derived.Test.YthholadaflfpcaaFwZ
namespace Go.Fw
open Go Go.RowKit

section
variable {P : Program} {m : Fr} {ops : Array Oper} {o : Oper} {rest : List Oper} {a : Nat → AV} {S : St} {Post : (Nat → AV) → St → Prop} {g : FuncId} {as : List AV} {d : Option Nat}

/-! Another description of the same frame. -/
theorem Evo.addEmpty (φ : Nat → Nat) (S : St) (w : World) (ty : TypeId) (sz : Nat) : Evo φ S w φ (S ++ [some ⟨ty, sz, []⟩]) w := by
  have hat : ∀ i o, St.at (S ++ [some ⟨ty, sz, []⟩]) i = some o → S.at i = some o ∨ o.els = [] := by
    intro i o h
    obtain ⟨_, _, h3⟩ := St.ok_new S ⟨ty, sz, []⟩
    rw [h3] at h
    by_cases e : i = S.length
    · rw [if_pos e] at h; cases h; exact .inr rfl
    · rw [if_neg e] at h; exact .inl h
  refine ⟨rfl, rfl, rfl, Nat.le_refl _, by simp, fun _ _ _ => rfl, fun _ C ty fr h => ⟨C, ty, fr, h, rfl⟩, ?_, ?_⟩
  · rintro b _ ⟨i, o, h1, h2, h3⟩
    rcases hat i o h1 with h | h
    · exact ⟨i, o, h, h2, h3⟩
    · exact absurd h h2
  · intro i o hi h
    obtain ⟨_, _, h3⟩ := St.ok_new S ⟨ty, sz, []⟩
    rw [h3, if_neg (by omega)] at h
    exact ⟨o, h, rfl, rfl, Nat.le_refl _, fun _ => rfl⟩

theorem Sim.addEmpty {F : Nat → Prop} {φ : Nat → Nat} {w : World} (hs : Sim F φ S w) (ty : TypeId) (sz : Nat) : Sim F φ (S ++ [some ⟨ty, sz, []⟩]) w := by
  have hat : ∀ i o, St.at (S ++ [some ⟨ty, sz, []⟩]) i = some o → o.els ≠ [] → S.at i = some o := by
    intro i o h hn
    obtain ⟨_, _, h3⟩ := St.ok_new S ⟨ty, sz, []⟩
    rw [h3] at h
    by_cases e : i = S.length
    · rw [if_pos e] at h; cases h; exact absurd rfl hn
    · rw [if_neg e] at h; exact h
  refine ⟨hs.fl, fun i o h hn => hs.nf i o (hat i o h hn) hn, fun i j o o' h hn h' hn' => hs.inj i j o o' (hat i o h hn) hn (hat j o' h' hn') hn', fun i o h hn => ?_⟩
  obtain ⟨C, h1, h2, h3⟩ := hs.obj i o (hat i o h hn) hn
  refine ⟨C, h1, h2, fun j k hj => ⟨(h3 j k hj).1, fun hk => ?_⟩⟩
  obtain ⟨v, e1, e2, e3⟩ := (h3 j k hj).2 hk
  exact ⟨v, e1, e2, e3.evo (Evo.addEmpty φ S w ty sz)⟩

theorem Good.addEmpty {F : Nat → Prop} {φ : Nat → Nat} {w : World} {ac : Act} (h : Good F φ S w m a ac) (ty : TypeId) (sz : Nat) : Good F φ (S ++ [some ⟨ty, sz, []⟩]) w m a ac :=
  ⟨h.sim.addEmpty ty sz, h.defers, h.size, h.slots.evo (Evo.addEmpty φ S w ty sz), h.bd⟩

theorem VR.nil_sl {φ : Nat → Nat} {O : Nat → Prop} {w : World} {v : Value} {id : Nat} {ty : TypeId} {sz : Nat} (h : VR φ S O w .nsl v) (hat : S.at id = some ⟨ty, sz, []⟩) : VR φ S O w (.sl id 0) v := by
  cases h with
  | pure h =>
    cases h
    refine .sl rfl (St.lt_of_at hat) fun o ho => ?_
    rw [hat] at ho
    cases ho
    exact ⟨Nat.le_refl _, fun _ => .inl ⟨rfl, none, 0, rfl, Nat.zero_le _, .inl rfl⟩⟩

theorem at_last (ob : AObj) : St.at (S ++ [some ob]) S.length = some ob := by simp [St.at]

/-- nil in a slot is a row without elements. -/
theorem RG.liftSlot {l : List Oper} (d : Nat) (ty : TypeId) (sz : Nat) (ha : a d = .nsl) (h : RG P m ops l (upd a (some d) (.sl S.length 0)) (S ++ [some ⟨ty, sz, []⟩]) Post) : RG P m ops l a S Post := by
  intro F φ w ac Q hg hq
  have hg' := hg.addEmpty ty sz
  have hgood : Good F φ (S ++ [some ⟨ty, sz, []⟩]) w m (upd a (some d) (.sl S.length 0)) ac := by
    refine ⟨hg'.sim, hg'.defers, hg'.size, fun t => ?_, hg'.bd⟩
    by_cases e : t = d
    · subst e
      have := hg'.slots t
      rw [ha] at this
      simpa [upd] using this.nil_sl (at_last _)
    · simpa [upd, e] using hg'.slots t
  exact h F φ w ac Q hgood fun a' S' F' φ' w' ac' h1 h2 h3 h4 => hq a' S' F' φ' w' ac' h1 h2 (((Evo.addEmpty φ S w ty sz).toB _ _).trans (Gro.refl _ _) h3) h4

/-- Cells of a variable told otherwise. -/
theorem Good.cells {F : Nat → Prop} {φ : Nat → Nat} {w : World} {ac : Act} (h : Good F φ S w m a ac) {id : Nat} {ty : TypeId} {sz : Nat} {cs cs' : List AV} (hat : S.at id = some ⟨ty, sz, [cs]⟩) (hl : cs'.length = cs.length)
    (hc : ∀ k, k < sz → ∀ v, VR φ S (OO F φ S) w (cs.getD k .undef) v → VR φ S (OO F φ S) w (cs'.getD k .undef) v) : Good F φ (S.set id (some ⟨ty, sz, [cs']⟩)) w m a ac ∧ Evo φ S w φ (S.set id (some ⟨ty, sz, [cs']⟩)) w := by
  have hid := St.lt_of_at hat
  obtain ⟨_, _, h3⟩ := St.ok_set hid ⟨ty, sz, [cs']⟩
  have key : ∀ i o', St.at (S.set id (some ⟨ty, sz, [cs']⟩)) i = some o' → ∃ o, S.at i = some o ∧ o.sz = o'.sz ∧ o.ty = o'.ty ∧ o.els.length = o'.els.length ∧ (i ≠ id → o = o') := by
    intro i o' hi
    rw [h3] at hi
    by_cases e : i = id
    · subst e; rw [if_pos rfl] at hi; cases hi; exact ⟨_, hat, rfl, rfl, rfl, fun h => absurd rfl h⟩
    · rw [if_neg e] at hi; exact ⟨o', hi, rfl, rfl, rfl, fun _ => rfl⟩
  have evo : Evo φ S w φ (S.set id (some ⟨ty, sz, [cs']⟩)) w := by
    refine ⟨rfl, rfl, rfl, Nat.le_refl _, by simp, fun _ _ _ => rfl, fun _ C ty fr h => ⟨C, ty, fr, h, rfl⟩, ?_, ?_⟩
    · rintro b _ ⟨i, o', h1, h2, h3⟩
      obtain ⟨o, k1, _, _, k4, _⟩ := key i o' h1
      exact ⟨i, o, k1, fun e => h2 (List.length_eq_zero_iff.1 (by rw [← k4, e]; rfl)), h3⟩
    · intro i o' _ hi
      obtain ⟨o, k1, k2, k3, k4, _⟩ := key i o' hi
      exact ⟨o, k1, k2, k3, by omega, fun _ => rfl⟩
  have hne : ∀ i o', St.at (S.set id (some ⟨ty, sz, [cs']⟩)) i = some o' → o'.els ≠ [] → ∃ o, S.at i = some o ∧ o.els ≠ [] := by
    intro i o' hi hn
    obtain ⟨o, k1, _, _, k4, _⟩ := key i o' hi
    exact ⟨o, k1, fun e => hn (List.length_eq_zero_iff.1 (by rw [← k4, e]; rfl))⟩
  refine ⟨⟨⟨h.sim.fl, fun i o' hi hn => ?_, fun i j o o' hi hn hj hn' e => ?_, fun i o' hi hn => ?_⟩, h.defers, h.size, h.slots.evo evo, h.bd⟩, evo⟩
  · obtain ⟨o, k1, k2⟩ := hne i o' hi hn; exact h.sim.nf i o k1 k2
  · obtain ⟨p, k1, k2⟩ := hne i o hi hn
    obtain ⟨q, k3, k4⟩ := hne j o' hj hn'
    exact h.sim.inj i j p q k1 k2 k3 k4 e
  · obtain ⟨o, k1, k2, k3, k4, k5⟩ := key i o' hi
    by_cases e : i = id
    · subst e
      rw [h3, if_pos rfl] at hi
      cases hi
      obtain ⟨C, e1, e2, e3⟩ := h.sim.obj i _ hat (by simp)
      refine ⟨C, e1, e2, fun j k hj => ?_⟩
      have hj0 : j = 0 := by simp at hj; exact hj
      subst hj0
      have := e3 0 k (by simp)
      refine ⟨by simpa [hl] using this.1, fun hk => ?_⟩
      obtain ⟨u, u1, u2, u3⟩ := this.2 hk
      exact ⟨u, u1, u2, (hc k hk u (by simpa using u3)).evo evo⟩
    · obtain rfl := k5 e
      obtain ⟨C, e1, e2, e3⟩ := h.sim.obj i o k1 hn
      refine ⟨C, e1, e2, fun j k hj => ⟨(e3 j k hj).1, fun hk => ?_⟩⟩
      obtain ⟨u, u1, u2, u3⟩ := (e3 j k hj).2 hk
      exact ⟨u, u1, u2, u3.evo evo⟩

/-- nil in a variable's cell is a row without elements. -/
theorem RG.liftCell {l : List Oper} (id k : Nat) (ty : TypeId) (sz : Nat) {ty' : TypeId} {sz' : Nat} {cs : List AV} {S' : St} (hat : S.at id = some ⟨ty', sz', [cs]⟩) (hk : cs.getD k .undef = .nsl) (hS : List.set S id (some ⟨ty', sz', [cs.set k (.sl S.length 0)]⟩) ++ [some ⟨ty, sz, []⟩] = S')
    (h : RG P m ops l a S' Post) : RG P m ops l a S Post := by
  subst hS
  intro F φ w ac Q hg hq
  have hg1 := hg.addEmpty ty sz
  have hid := St.lt_of_at hat
  have hat1 : St.at (S ++ [some ⟨ty, sz, []⟩]) id = some ⟨ty', sz', [cs]⟩ := at_app hat
  have hcell : ∀ j v, VR φ (S ++ [some ⟨ty, sz, []⟩]) (OO F φ (S ++ [some ⟨ty, sz, []⟩])) w (cs.getD j .undef) v → VR φ (S ++ [some ⟨ty, sz, []⟩]) (OO F φ (S ++ [some ⟨ty, sz, []⟩])) w ((cs.set k (.sl S.length 0)).getD j .undef) v := by
    intro j v hv
    by_cases e : j = k
    · subst e
      rw [hk] at hv
      by_cases hlt : j < cs.length
      · have : (cs.set j (.sl S.length 0)).getD j .undef = .sl S.length 0 := by simp [List.getD_eq_getElem?_getD, hlt]
        rw [this]
        exact hv.nil_sl (at_last _)
      · have : (cs.set j (.sl S.length 0)).getD j .undef = .undef := by rw [List.getD_eq_getElem?_getD, List.getElem?_eq_none (by simp; omega)]; rfl
        rw [this]; exact .pure (.undef _)
    · have : (cs.set k (.sl S.length 0)).getD j .undef = cs.getD j .undef := by simp [List.getD_eq_getElem?_getD, List.getElem?_set, Ne.symm e]
      rw [this]; exact hv
  obtain ⟨h1, h2⟩ := hg1.cells hat1 (cs' := cs.set k (.sl S.length 0)) (by simp) (fun j _ v hv => hcell j v hv)
  have e : List.set (S ++ [some ⟨ty, sz, []⟩]) id (some ⟨ty', sz', [cs.set k (.sl S.length 0)]⟩) = List.set S id (some ⟨ty', sz', [cs.set k (.sl S.length 0)]⟩) ++ [some ⟨ty, sz, []⟩] := by
    rw [List.set_append_left _ _ hid]
  rw [e] at h1 h2
  exact h F φ w ac Q h1 fun a' S' F' φ' w' ac' q1 q2 q3 q4 => hq a' S' F' φ' w' ac' q1 q2 ((((Evo.addEmpty φ S w ty sz).trans h2).toB _ _).trans (Gro.refl _ _) q3) q4

/-- The whole of a row in a slot. -/
theorem RG.unwin {l : List Oper} (d : Nat) {id n : Nat} (ha : a d = .win id n 0 n) (h : RG P m ops l (upd a (some d) (.sl id n)) S Post) : RG P m ops l a S Post := by
  intro F φ w ac Q hg hq
  refine h F φ w ac Q ⟨hg.sim, hg.defers, hg.size, fun t => ?_, hg.bd⟩ hq
  by_cases e : t = d
  · subst e
    have := hg.slots t
    rw [ha] at this
    simpa [upd] using this.unwin
  · simpa [upd, e] using hg.slots t

/-! Rows told by a list. -/
theorem OpR.ldr {t : TypeId} {x : Operand} {id n i off sz : Nat} {agg : Bool} {ob : AObj} {cells : List AV} (h : o.op = .load t x) (hx : aev a x = .ptr id n i off) (ht : TyI P t sz agg) (h1 : agg = false → sz = 1) (hob : S.at id = some ob) (hn : ob.els.length = n) (hi : i < n) (hoff : off + sz ≤ ob.sz)
    (hc : ob.els.getD i [] = cells) : OpR P o a S (if agg then .agg ((cells.drop off).take sz) else cells.getD off .undef) S := by
  refine OpR.load h hx ht h1 ?_
  subst hc
  simp only [ald, hob]
  rw [if_pos ⟨hn.symm, hi, hoff⟩]

def ldv {P : Program} (T : Tab P) (t : TypeId) (sz off : Nat) (cells : List AV) : Option AV := match T.at_ t with
  | some i => if Nat.ble (off + i.sz) sz then match i.agg with
    | true => some (.agg ((cells.drop off).take i.sz))
    | false => some (cells.getD off .undef)
    else none
  | none => none
def loadOf (o : Oper) : Option (TypeId × Operand) := match o.op with
  | .load t x => some (t, x)
  | _ => none
theorem loadOf_ok {t : TypeId} {x : Operand} (h : loadOf o = some (t, x)) : o.op = .load t x := by
  unfold loadOf at h
  split at h
  · rename_i ho; cases h; exact ho
  · cases h

/-- An element of a row told by a list is loaded. -/
theorem RG.ldr {α : Type} (T : Tab P) {t : TypeId} {x : Operand} {id n i off : Nat} {ty : TypeId} {sz : Nat} {l : List α} {f : α → List AV} (d0 : α) {v : AV} (h : loadOf o = some (t, x)) (hd : o.dst = d) (hx : aev a x = .ptr id n i off) (hob : S.at id = some ⟨ty, sz, l.map f⟩) (hn : l.length = n) (hi : i < n) (hv : ldv T t sz off (f (l.getD i d0)) = some v)
    (hr : RG P m ops rest (upd a d v) S Post) (hgd : agd ops o a = some true := by rfl) (hok : (gdOK m.n ops o && dstOK m.n o.dst) = true := by rfl) : RG P m ops (o :: rest) a S Post := by
  subst hd
  have hc : (l.map f).getD i [] = f (l.getD i d0) := getD_map' f l i d0 [] (by omega)
  unfold ldv at hv
  split at hv
  case h_2 => cases hv
  rename_i ti hti
  split at hv
  case isFalse => cases hv
  rename_i hle
  obtain ⟨dd, h1, h1k, h2⟩ := (T.ok t ti hti).ty
  obtain ⟨h3, h4, h5, _⟩ := (T.ok t ti hti).one'
  have := OpR.ldr (loadOf_ok h) hx (h1.i h2) h3 hob (by simpa using hn) hi (Nat.le_of_ble_eq_true hle) hc
  refine RG.op this ?_ hgd hok
  split at hv <;> rename_i hagg <;> cases hv
  · rw [hagg]; exact hr
  · rw [hagg]; exact hr

def storeOf (o : Oper) : Option (TypeId × Operand × Operand) := match o.op with
  | .store t x y => some (t, x, y)
  | _ => none
theorem storeOf_ok {t : TypeId} {x y : Operand} (h : storeOf o = some (t, x, y)) : o.op = .store t x y := by
  unfold storeOf at h
  split at h
  · rename_i ho; cases h; exact ho
  · cases h

/-- Cells of an element of a row told by a list are stored. -/
theorem RG.str {α : Type} (T : Tab P) {t : TypeId} {x y : Operand} {ti : TI} {id n i off : Nat} {ty : TypeId} {sz : Nat} {l : List α} {f : α → List AV} (d0 x1 : α) {v : AV} {S' : St} (h : storeOf o = some (t, x, y)) (hd : o.dst = d) (hx : aev a x = .ptr id n i off) (hy : aev a y = v) (hti : T.at_ t = some ti) (hob : S.at id = some ⟨ty, sz, l.map f⟩) (hn : l.length = n) (hi : i < n)
    (hle : Nat.ble (off + ti.sz) sz = true) (hl : Nat.beq (acells v).length ti.sz = true) (hlf : (acells v).all leaf = true) (hf : splice (f (l.getD i d0)) off (acells v) = f x1) (hS : List.set S id (some ⟨ty, sz, (l.set i x1).map f⟩) = S')
    (hr : RG P m ops rest (upd a d .undef) S' Post) (hgd : agd ops o a = some true := by rfl) (hok : (gdOK m.n ops o && dstOK m.n o.dst) = true := by rfl) : RG P m ops (o :: rest) a S Post := by
  subst hd hS
  obtain ⟨dd, h1, h1k, h2⟩ := (T.ok t ti hti).ty
  have hc : (l.map f).getD i [] = f (l.getD i d0) := getD_map' f l i d0 [] (by omega)
  have := OpR.store (storeOf_ok h) hx hy (h1.i h2) hob (by simpa using hn.symm) hi (Nat.le_of_ble_eq_true hle) (Nat.eq_of_beq_eq_true hl) hlf
  refine RG.op this ?_ hgd hok
  simp only [hc, hf, ← List.map_set]
  exact hr

theorem SealB.rows {α : Type} {bo : Prop} {id : Nat} {ty : TypeId} {sz : Nat} {l : List α} {f : α → List AV} (d0 : α) (h : S.at id = some ⟨ty, sz, l.map f⟩) (hf : ∀ x ∈ l, (f x).length = sz ∧ (f x).all pv0 = true) {n : Nat} (hn : l.length = n) :
    SealB bo S (.sl id n) (.isl sz n fun i => f (l.getD i d0)) := by
  subst hn
  refine SealB.sl (ob := ⟨ty, sz, l.map f⟩) h (by simp) (fun i hi => (hf _ (getD_mem (d := d0) hi)).1) fun i j hi hj => ?_
  have hc : (l.map f).getD i [] = f (l.getD i d0) := getD_map' f l i d0 [] hi
  simp only [hc]
  refine .same ?_
  have hm := hf _ (getD_mem (d := d0) hi)
  have hj' : j < (f (l.getD i d0)).length := by rw [hm.1]; exact hj
  have hp : pv0 ((f (l.getD i d0)).getD j .undef) = true := all_getD hm.2 hj'
  revert hp
  generalize (f (l.getD i d0)).getD j .undef = v
  cases v <;> simp [pv, pv1, pv0]

/-! Functions that hand on what they were given. -/
/-- Nothing but numbers, and what is owned by L. -/
def ho0 : AV → Bool
  | .int .. | .bool _ | .str _ | .nsl | .own .. => true
  | _ => false
def ho1 : AV → Bool
  | .agg cs => cs.all ho0
  | v => ho0 v
def ho2 : AV → Bool
  | .tup cs => cs.all ho1
  | v => ho1 v
def owns3 : AV → OwnL
  | .tup cs => cs.flatMap own1
  | v => own1 v

theorem FC.hand {r0 : AV} (hc : FC P g as [] (fun r S' => S' = [] ∧ r = r0)) (S : St) (hr : ho2 r0 = true) (hsub : ∀ p ∈ owns3 r0, p ∈ ownsA as) (hpure : as.all (fun v => pv v || ho2 v) = true) : FC P g as S (fun r S' => r = r0 ∧ S' = S) := by
  refine ⟨hc.1, fun F φ w vs hs hv => ?_⟩
  have hF : ∀ b, OO F φ S b → b < w.heap.size := by
    rintro b (h | ⟨i, o, h, hn, rfl⟩)
    · exact hs.fl b h
    · exact hs.lt h hn
  have h0 : ∀ u v, ho0 u = true → VR φ S (OO F φ S) w u v → VR φ [] (OO (OO F φ S) φ []) w u v := by
    intro u v hu hv
    cases hv with
    | pure hv => refine .pure ?_; cases hv <;> first | (simp [ho0] at hu; done) | constructor
    | own h1 h2 h3 h4 => exact .own (fun x hx => .inl (h1 x hx)) (fun x _ => own_nil _ _) h3 h4
    | _ => simp [ho0] at hu
  have h1 : ∀ u v, ho1 u = true → VR φ S (OO F φ S) w u v → VR φ [] (OO (OO F φ S) φ []) w u v := by
    intro u v hu hv
    cases u with
    | agg cs =>
      obtain ⟨xs, rfl, e1, e2⟩ := hv.agg_inv
      exact .agg e1 fun j hj => h0 _ _ (all_getD hu hj) (e2 j hj)
    | _ => exact h0 _ _ hu hv
  have h2 : ∀ u v, ho2 u = true → VR φ S (OO F φ S) w u v → VR φ [] (OO (OO F φ S) φ []) w u v := by
    intro u v hu hv
    cases u with
    | tup cs =>
      obtain ⟨xs, rfl, e1, e2⟩ := hv.tup_inv
      exact .tup e1 fun j hj => h1 _ _ (all_getD hu hj) (e2 j hj)
    | _ => exact h1 _ _ hu hv
  have hargs : VRs φ [] (OO (OO F φ S) φ []) w as vs := by
    refine ⟨hv.1, fun j hj => ?_⟩
    have := all_getD (f := fun v => pv v || ho2 v) hpure hj
    simp only [Bool.or_eq_true] at this
    rcases this with h | h
    · exact .pure (((hv.2 j hj).vi h).sub fun b hb => oo_nil.1 hb)
    · exact h2 _ _ h (hv.2 j hj)
  have hown : ∀ p ∈ owns3 r0, (∀ x, p.1.bl x → OO F φ S x) ∧ ∀ x, p.1.bl x → ¬ Own φ S x := by
    rintro ⟨I, b⟩ hp
    obtain ⟨j, hj, hq⟩ := mem_flat (hsub _ hp)
    have := (hv.2 j hj).own2 hq
    generalize I.val = v at this
    cases this with
    | pure h => cases h
    | own k1 k2 k3 k4 => exact ⟨k1, k2⟩
  refine (hc.2 (OO F φ S) φ w vs (Sim.empty hF) hargs).mono ?_
  rintro e w' ⟨r', S', F', φ', v, ⟨rfl, rfl⟩, rfl, hs', hv', he, hgr⟩
  obtain ⟨k1, k2⟩ := hs.kept he
  refine ⟨r', S, F, φ, v, ⟨rfl, rfl⟩, rfl, k1, ?_, k2, Gro.refl _ _⟩
  have g0 : ∀ u v, ho0 u = true → (∀ p ∈ own0 u, (∀ x, p.1.bl x → OO F φ S x) ∧ ∀ x, p.1.bl x → ¬ Own φ S x) → VR φ' [] (OO F' φ' []) w' u v → VR φ S (OO F φ S) w' u v := by
    intro u v hu hp hv
    cases hv with
    | pure hv => refine .pure ?_; cases hv <;> first | (simp [ho0] at hu; done) | constructor
    | @own I b _ h1 h2 h3 h4 =>
      obtain ⟨q1, q2⟩ := hp (I, b) (by simp [own0])
      exact .own q1 q2 h3 h4
    | _ => simp [ho0] at hu
  have g1 : ∀ u v, ho1 u = true → (∀ p ∈ own1 u, (∀ x, p.1.bl x → OO F φ S x) ∧ ∀ x, p.1.bl x → ¬ Own φ S x) → VR φ' [] (OO F' φ' []) w' u v → VR φ S (OO F φ S) w' u v := by
    intro u v hu hp hv
    cases u with
    | agg cs =>
      obtain ⟨xs, rfl, e1, e2⟩ := hv.agg_inv
      refine .agg e1 fun j hj => g0 _ _ (all_getD hu hj) (fun p hpp => hp p ?_) (e2 j hj)
      refine List.mem_flatMap.2 ⟨cs.getD j .undef, getD_mem hj, hpp⟩
    | _ => exact g0 _ _ hu hp hv
  cases hr0 : r' with
  | tup cs =>
    subst hr0
    obtain ⟨xs, rfl, e1, e2⟩ := hv'.tup_inv
    refine .tup e1 fun j hj => g1 _ _ (all_getD hr hj) (fun p hpp => hown p ?_) (e2 j hj)
    exact List.mem_flatMap.2 ⟨cs.getD j .undef, getD_mem hj, hpp⟩
  | _ => subst hr0; exact g1 _ _ hr hown hv'

theorem RG.hand {r0 : AV} (h : callA o a = some (g, as)) (hd : o.dst = d) (hc : FC P g as [] (fun r S' => S' = [] ∧ r = r0)) (hr : ho2 r0 = true) (hsub : ∀ p ∈ owns3 r0, p ∈ ownsA as) (hpure : as.all (fun v => pv v || ho2 v) = true)
    (next : RG P m ops rest (upd a d r0) S Post) (hgd : agd ops o a = some true := by rfl) (hok : (gdOK m.n ops o && dstOK m.n o.dst) = true := by rfl) : RG P m ops (o :: rest) a S Post :=
  RG.fc h hd (hc.hand S hr hsub hpure) (fun r' S' ⟨h1, h2⟩ => by rw [h1, h2]; exact next) hgd hok
end
end Go.Fw
