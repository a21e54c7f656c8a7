/-
  Functions that make new memory: what they return owns its blocks.
-/
import Derived.Test.YthholadaflfpcaaFwO
namespace Go.Fw
open Go Go.RowKit

/-- Values that hold no memory at all. -/
def scal0 : AV → Bool
  | .int .. | .bool _ | .str _ => true
  | _ => false

theorem VI.scal0 {O O' : Nat → Prop} {w w' : World} {av : AV} {v : Value} (h : VI O w av v) (hc : Fw.scal0 av = true) : VI O' w' av v := by
  cases h <;> first | (simp [Fw.scal0] at hc; done) | constructor

/-- A row's cell, or a row: its own objects are those of D, its own blocks those of I; by value it is the second. -/
inductive SO (S : St) : (Nat → Prop) → (Nat → Prop) → AV → AV → Prop
  | scal {v : AV} : scal0 v = true → SO S (fun _ => False) (fun _ => False) v v
  | nsl {sz : Nat} {get : Nat → List AV} : SO S (fun _ => False) (fun _ => False) .nsl (.isl sz 0 get)
  | emp {sz : Nat} {get : Nat → List AV} : SO S (fun _ => False) (fun _ => False) (.isl sz 0 get) (.isl sz 0 get)
  | own {I : Gh} {sz n : Nat} {get : Nat → List AV} : SO S (fun _ => False) I.bl (.own I (.isl sz n get)) (.isl sz n get)
  | sl {id n : Nat} {ob : AObj} {get : Nat → List AV} (D I : Nat → Nat → Nat → Prop) : S.at id = some ob → ob.els.length = n → (∀ i, i < n → (get i).length = ob.sz) →
      (∀ i j, i < n → j < ob.sz → SO S (D i j) (I i j) ((ob.els.getD i []).getD j .undef) ((get i).getD j .undef)) → (∀ i j, i < n → j < ob.sz → ¬ D i j id) →
      (∀ i j i' j' x, i < n → j < ob.sz → i' < n → j' < ob.sz → D i j x → D i' j' x → i = i' ∧ j = j') → (∀ i j i' j' x, i < n → j < ob.sz → i' < n → j' < ob.sz → I i j x → I i' j' x → i = i' ∧ j = j') →
      SO S (fun k => k = id ∨ ∃ i j, i < n ∧ j < ob.sz ∧ D i j k) (fun x => ∃ i j, i < n ∧ j < ob.sz ∧ I i j x) (.sl id n) (.isl ob.sz n get)

theorem Phys.congr {w : World} {I I' : Nat → Prop} {b : AV} {v : Value} (h : Phys w I b v) (hI : ∀ x, I x ↔ I' x) : Phys w I' b v := by
  have : I = I' := funext fun x => propext (hI x)
  exact this ▸ h

theorem Phys.scal {O : Nat → Prop} {w : World} {b : AV} {v : Value} (h : VI O w b v) (hs : scal0 b = true) : Phys w (fun _ => False) b v := by
  cases h <;> first | (simp [scal0] at hs; done) | constructor

/-- What an owner's value owns. -/
def PO (φ : Nat → Nat) (S : St) (D I : Nat → Prop) (x : Nat) : Prop := I x ∨ ∃ i o, D i ∧ S.at i = some o ∧ o.els ≠ [] ∧ φ i = x

theorem SO.live {S : St} {D I : Nat → Prop} {c b : AV} (h : SO S D I c b) : ∀ i, D i → ∃ o, S.at i = some o := by
  induction h with
  | scal | nsl | emp | own => intro i hi; exact hi.elim
  | sl D I h1 h2 h3 h4 h5 h6 h7 ih =>
    rintro k (rfl | ⟨i, j, hi, hj, hk⟩)
    · exact ⟨_, h1⟩
    · exact ih i j hi hj k hk

theorem SO.ins {F : Nat → Prop} {φ : Nat → Nat} {S : St} {w : World} (hs : Sim F φ S w) {D I : Nat → Prop} {c b : AV} (h : SO S D I c b) : ∀ {v : Value}, VR φ S (OO F φ S) w c v → ∀ x, I x → OO F φ S x ∧ ¬ Own φ S x := by
  induction h with
  | scal | nsl | emp => intro v hv x hx; exact hx.elim
  | own => 
    intro v hv x hx
    have := VR.os (OS.own hx) hv
    exact ⟨this.1, this.2.1⟩
  | @sl id n ob get D I h1 h2 h3 h4 h5 h6 h7 ih =>
    rintro v hv x ⟨i, j, hi, hj, hx⟩
    obtain ⟨C, e1, e2, e3⟩ := hs.obj id ob h1 (ne_of_lt_len h2 hi)
    obtain ⟨u, _, _, hu⟩ := (e3 i j (by omega)).2 hj
    exact ih i j hi hj hu x hx

theorem SO.phys {F : Nat → Prop} {φ : Nat → Nat} {S : St} {w : World} (hs : Sim F φ S w) {D I : Nat → Prop} {c b : AV} (h : SO S D I c b) : ∀ {v : Value}, VR φ S (OO F φ S) w c v → Phys w (PO φ S D I) b v := by
  induction h with
  | @scal c hc =>
    intro v hv
    refine (Phys.scal (hv.vi (by revert hc; cases c <;> simp [scal0, pv, pv1, pv0])) hc).congr fun x => ?_
    simp [PO]
  | nsl =>
    intro v hv
    cases hv with
    | pure hv => cases hv; exact (Phys.emp (Nat.zero_le _)).congr fun x => by simp [PO]
  | emp =>
    intro v hv
    cases hv with
    | pure hv => cases hv with | isl vals h1 h2 h3 h4 => exact (Phys.emp h2).congr fun x => by simp [PO]
  | own =>
    intro v hv
    cases hv with
    | pure hv => cases hv
    | own h1 h2 h3 => exact h3.congr fun x => by simp [PO]
  | @sl id n ob get D I h1 h2 h3 h4 h5 h6 h7 ih =>
    intro v hv
    cases hv with
    | pure hv => cases hv
    | sl hh0 hh1 hh2 =>
      obtain ⟨_, e⟩ := hh2 ob h1
      rcases e h2.symm with ⟨rfl, A, c0, rfl, hc0, _⟩ | ⟨hpos, cap, rfl, k1, k2, C, ty', fr', k3, k4⟩
      · refine (Phys.emp hc0).congr fun x => ⟨fun h => h.elim, ?_⟩
        rintro (⟨i, j, hi, _⟩ | ⟨k, o, hk, ho, hne, rfl⟩)
        · exact absurd hi (Nat.not_lt_zero _)
        · rcases hk with rfl | ⟨i, j, hi, _⟩
          · rw [h1] at ho; cases ho; exact hne (List.length_eq_zero_iff.1 h2)
          · exact absurd hi (Nat.not_lt_zero _)
      have hne : ob.els ≠ [] := ne_of_lt_len h2 hpos
      obtain ⟨Cx, e1, e2, e3⟩ := hs.obj id ob h1 hne
      rw [e1] at k3
      cases k3
      have hcell : ∀ i j, i < n → j < ob.sz → ∃ u, C.getD (i * ob.sz + j) undef = u ∧ u.oneCell' = true ∧ VR φ S (OO F φ S) w ((ob.els.getD i []).getD j .undef) u := by
        intro i j hi hj
        obtain ⟨u, u1, u2, u3⟩ := (e3 i j (by omega)).2 hj
        exact ⟨u, by rw [Array.getD_eq_getD_getElem?, u1]; rfl, u2, u3⟩
      refine (Phys.isl (fun i j => PO φ S (D i j) (I i j)) k1 k2 e1 k4 h3 (fun i j hi hj => ?_) (fun i j hi hj => ?_) (fun i j hi hj => ?_) (fun i j i' j' x hi hj hi' hj' => ?_)).congr fun x => ?_
      · obtain ⟨u, u1, u2, _⟩ := hcell i j hi hj; rw [u1]; exact u2
      · obtain ⟨u, u1, _, u3⟩ := hcell i j hi hj; rw [u1]; exact ih i j hi hj u3
      · obtain ⟨u, u1, _, u3⟩ := hcell i j hi hj
        rintro (hx | ⟨k, o, hk, ho, hn, hx⟩)
        · exact ((h4 i j hi hj).ins hs u3 _ hx).2 ⟨id, ob, h1, hne, rfl⟩
        · have := hs.inj k id o ob ho hn h1 hne hx
          subst this
          exact h5 i j hi hj hk
      · obtain ⟨u, u1, _, u3⟩ := hcell i j hi hj
        obtain ⟨u', u1', _, u3'⟩ := hcell i' j' hi' hj'
        rintro (hx | ⟨k, o, hk, ho, hn, rfl⟩) (hx' | ⟨k', o', hk', ho', hn', hx'⟩)
        · exact h7 i j i' j' x hi hj hi' hj' hx hx'
        · exact (((h4 i j hi hj).ins hs u3 _ hx).2 ⟨k', o', ho', hn', hx'⟩).elim
        · exact (((h4 i' j' hi' hj').ins hs u3' _ hx').2 ⟨k, o, ho, hn, rfl⟩).elim
        · have := hs.inj k' k o' o ho' hn' ho hn hx'
          subst this
          exact h6 i j i' j' _ hi hj hi' hj' hk hk'
      · constructor
        · rintro (rfl | ⟨i, j, hi, hj, hx | ⟨k, o, hk, ho, hn, rfl⟩⟩)
          · exact .inr ⟨id, ob, .inl rfl, h1, hne, rfl⟩
          · exact .inl ⟨i, j, hi, hj, hx⟩
          · exact .inr ⟨k, o, .inr ⟨i, j, hi, hj, hk⟩, ho, hn, rfl⟩
        · rintro (⟨i, j, hi, hj, hx⟩ | ⟨k, o, rfl | ⟨i, j, hi, hj, hk⟩, ho, hn, rfl⟩)
          · exact .inr ⟨i, j, hi, hj, .inl hx⟩
          · exact .inl rfl
          · exact .inr ⟨i, j, hi, hj, .inr ⟨k, o, hk, ho, hn, rfl⟩⟩

/-! What is made, by value. -/
def Made0 (r b : AV) : Prop := match b with
  | .isl .. => ∃ I, r = .own I b
  | _ => r = b ∧ scal0 b = true
def MadeL (R : AV → AV → Prop) : List AV → List AV → Prop
  | [], [] => True
  | r :: rs, b :: bs => R r b ∧ (∀ x, OS r x → ¬ OS (.agg rs) x) ∧ MadeL R rs bs
  | _, _ => False
def Made1 (r b : AV) : Prop := match b with
  | .agg bs => ∃ rs, r = .agg rs ∧ MadeL Made0 rs bs
  | _ => Made0 r b
def Made (r b : AV) : Prop := match b with
  | .tup bs => ∃ rs, r = .tup rs ∧ MadeL Made1 rs bs
  | _ => Made1 r b

theorem Made0.mk {r b : AV} (h : Made0 r b) : mk0 r = true := by
  unfold Made0 at h
  split at h
  · obtain ⟨I, rfl⟩ := h; rfl
  · obtain ⟨rfl, h⟩ := h; revert h; cases r <;> simp [scal0, mk0]
theorem MadeL.mk {R : AV → AV → Prop} {f : AV → Bool} (hR : ∀ r b, R r b → f r = true) : ∀ {rs bs : List AV}, MadeL R rs bs → rs.all f = true
  | [], [], _ => rfl
  | r :: rs, b :: bs, h => by simp only [List.all_cons, hR r b h.1, MadeL.mk hR h.2.2, Bool.and_self]
  | [], _ :: _, h => h.elim
  | _ :: _, [], h => h.elim
theorem Made1.mk {r b : AV} (h : Made1 r b) : mk1 r = true := by
  unfold Made1 at h
  split at h
  · obtain ⟨rs, rfl, h⟩ := h; exact MadeL.mk (fun r b (h : Made0 r b) => h.mk) h
  · have := h.mk; revert this; cases r <;> simp [mk0, mk1]
theorem Made.mk {r b : AV} (h : Made r b) : Fw.mk r = true := by
  unfold Made at h
  split at h
  · obtain ⟨rs, rfl, h⟩ := h; exact MadeL.mk (fun r b (h : Made1 r b) => h.mk) h
  · have := h.mk; revert this; cases r <;> simp [mk0, mk1, Fw.mk]

/-- A maker: of these values it makes this value, in new memory; nothing that was is written. -/
def MF (P : Program) (g : FuncId) (args : List AV) (b : AV) : Prop := FC P g args [] (fun r S' => S' = [] ∧ Made r b)

/-! The ends of makers. -/
inductive SOL (S : St) (R : (Nat → Prop) → (Nat → Prop) → AV → AV → Prop) : (Nat → Prop) → (Nat → Prop) → List AV → List AV → Prop
  | nil : SOL S R (fun _ => False) (fun _ => False) [] []
  | cons {D I D' I' : Nat → Prop} {c b : AV} {cs bs : List AV} : R D I c b → SOL S R D' I' cs bs → (∀ x, D x → ¬ D' x) → (∀ x, I x → ¬ I' x) → SOL S R (fun x => D x ∨ D' x) (fun x => I x ∨ I' x) (c :: cs) (b :: bs)
inductive SO1 (S : St) : (Nat → Prop) → (Nat → Prop) → AV → AV → Prop
  | one {D I : Nat → Prop} {c b : AV} : SO S D I c b → SO1 S D I c b
  | agg {D I : Nat → Prop} {cs bs : List AV} : SOL S (SO S) D I cs bs → SO1 S D I (.agg cs) (.agg bs)
inductive SO2 (S : St) : (Nat → Prop) → (Nat → Prop) → AV → AV → Prop
  | one {D I : Nat → Prop} {c b : AV} : SO1 S D I c b → SO2 S D I c b
  | tup {D I : Nat → Prop} {cs bs : List AV} : SOL S (SO1 S) D I cs bs → SO2 S D I (.tup cs) (.tup bs)

theorem os_cons {r : AV} {rs : List AV} {x : Nat} (h : OS (.agg (r :: rs)) x) : OS r x ∨ OS (.agg rs) x := by
  cases h with
  | @agg _ j _ hj h =>
    cases j with
    | zero => exact .inl h
    | succ j => exact .inr (.agg (by simpa using hj) (by simpa using h))

section
variable {F F2 : Nat → Prop} {φ : Nat → Nat} {S : St} {w : World}

/-- Turned: the value that owns what the store owned. -/
def Turned (F2 : Nat → Prop) (φ : Nat → Nat) (S : St) (w : World) (D I : Nat → Prop) (R : AV → AV → Prop) (b : AV) (v : Value) : Prop := ∃ r, R r b ∧ VR φ [] (OO F2 φ []) w r v ∧ ∀ x, OS r x → PO φ S D I x

theorem SO.turn (hs : Sim F φ S w) (h2 : ∀ x, OO F φ S x → F2 x) {D I : Nat → Prop} {c b : AV} (h : SO S D I c b) {v : Value} (hv : VR φ S (OO F φ S) w c v) : Turned F2 φ S w D I Made0 b v := by
  have hp := h.phys hs hv
  have hin := h.ins hs hv
  have hlive := h.live
  have hpo : ∀ x, PO φ S D I x → F2 x := by
    rintro x (hx | ⟨i, o, hi, ho, hn, rfl⟩)
    · exact h2 x (hin x hx).1
    · exact h2 _ (.inr ⟨i, o, ho, hn, rfl⟩)
  have key : ∀ sz n get, b = .isl sz n get → Turned F2 φ S w D I Made0 b v := by
    rintro sz n get rfl
    exact ⟨.own ⟨PO φ S D I, v⟩ (.isl sz n get), ⟨_, rfl⟩, .own (fun x hx => .inl (hpo x hx)) (fun x _ => own_nil _ _) hp rfl, fun x hx => by cases hx with | own hx => exact hx⟩
  cases h with
  | scal hc =>
    refine ⟨c, ?_, .pure ((hv.vi (by revert hc; cases c <;> simp [scal0, pv, pv1, pv0])).scal0 hc), fun x hx => ?_⟩
    · revert hc; cases c <;> simp [scal0, Made0]
    · cases hx <;> simp [scal0] at hc
  | nsl => exact key _ _ _ rfl
  | emp => exact key _ _ _ rfl
  | own => exact key _ _ _ rfl
  | sl => exact key _ _ _ rfl

theorem SOL.turn {R : (Nat → Prop) → (Nat → Prop) → AV → AV → Prop} {M : AV → AV → Prop} (hR : ∀ D I c b v, R D I c b → VR φ S (OO F φ S) w c v → Turned F2 φ S w D I M b v)
    (hdis : ∀ D I c b v, R D I c b → VR φ S (OO F φ S) w c v → (∀ i, D i → ∃ o, S.at i = some o) ∧ ∀ x, I x → ¬ Own φ S x) (hs : Sim F φ S w) : ∀ {cs bs : List AV} {D I : Nat → Prop}, SOL S R D I cs bs → ∀ {f : Nat → Value}, (∀ j, j < cs.length → VR φ S (OO F φ S) w (cs.getD j .undef) (f j)) →
    ∃ rs, MadeL M rs bs ∧ rs.length = cs.length ∧ (∀ j, j < rs.length → VR φ [] (OO F2 φ []) w (rs.getD j .undef) (f j)) ∧ (∀ x, OS (.agg rs) x → PO φ S D I x) ∧ (∀ i, D i → ∃ o, S.at i = some o) ∧ ∀ x, I x → ¬ Own φ S x
  | _, _, _, _, .nil, f, hf => ⟨[], trivial, rfl, fun j hj => absurd hj (Nat.not_lt_zero _), fun x hx => by cases hx with | agg hj _ => exact absurd hj (Nat.not_lt_zero _), fun i hi => hi.elim, fun i hi => hi.elim⟩
  | _, _, _, _, .cons (D := D) (I := I) (D' := D') (I' := I') h1 h2 h3 h4, f, hf => by
    obtain ⟨rs, e1, e2, e3, e4, e5, e6⟩ := SOL.turn hR hdis hs h2 (f := fun j => f (j + 1)) (fun j hj => by simpa using hf (j + 1) (by simpa using hj))
    have hv0 := hf 0 (by simp)
    simp only [List.getD_cons_zero] at hv0
    obtain ⟨r, k1, k2, k3⟩ := hR _ _ _ _ _ h1 hv0
    obtain ⟨k4, k5⟩ := hdis _ _ _ _ _ h1 hv0
    refine ⟨r :: rs, ⟨k1, fun x hx hx' => ?_, e1⟩, by simp [e2], fun j hj => ?_, fun x hx => ?_, fun i hi => hi.elim (k4 i) (e5 i), fun x hx => hx.elim (k5 x) (e6 x)⟩
    · rcases k3 x hx with a | ⟨i, o, hi, ho, hn, rfl⟩
      · rcases e4 x hx' with a' | ⟨i', o, hi', ho, hn, rfl⟩
        · exact h4 x a a'
        · exact k5 _ a ⟨i', o, ho, hn, rfl⟩
      · rcases e4 _ hx' with a' | ⟨i', o', hi', ho', hn', ee⟩
        · exact e6 _ a' ⟨i, o, ho, hn, rfl⟩
        · have := hs.inj i' i o' o ho' hn' ho hn ee
          subst this
          exact h3 _ hi hi'
    · cases j with
      | zero => exact k2
      | succ j => simpa using e3 j (by simpa using hj)
    · rcases os_cons hx with h | h
      · exact (k3 x h).imp .inl fun ⟨i, o, hi, e⟩ => ⟨i, o, .inl hi, e⟩
      · exact (e4 x h).imp .inr fun ⟨i, o, hi, e⟩ => ⟨i, o, .inr hi, e⟩

theorem SO.dis (hs : Sim F φ S w) {D I : Nat → Prop} {c b : AV} (h : SO S D I c b) {v : Value} (hv : VR φ S (OO F φ S) w c v) : (∀ i, D i → ∃ o, S.at i = some o) ∧ ∀ x, I x → ¬ Own φ S x := ⟨h.live, fun x hx => (h.ins hs hv x hx).2⟩

theorem SO1.turn (hs : Sim F φ S w) (h2 : ∀ x, OO F φ S x → F2 x) {D I : Nat → Prop} {c b : AV} (h : SO1 S D I c b) {v : Value} (hv : VR φ S (OO F φ S) w c v) : Turned F2 φ S w D I Made1 b v ∧ (∀ i, D i → ∃ o, S.at i = some o) ∧ ∀ x, I x → ¬ Own φ S x := by
  cases h with
  | one h =>
    obtain ⟨r, k1, k2, k3⟩ := h.turn hs h2 hv
    refine ⟨⟨r, ?_, k2, k3⟩, h.dis hs hv⟩
    unfold Made1
    split
    · cases h with | scal h => simp [scal0] at h
    · exact k1
  | agg h =>
    obtain ⟨vs, rfl, h1, hh2⟩ := hv.agg_inv
    obtain ⟨rs, e1, e2, e3, e4, e5, e6⟩ := SOL.turn (M := Made0) (fun D I c b v hh hv => SO.turn hs h2 hh hv) (fun D I c b v hh hv => SO.dis hs hh hv) hs h hh2
    exact ⟨⟨.agg rs, ⟨rs, rfl, e1⟩, .agg (by rw [h1, e2]) e3, e4⟩, e5, e6⟩

theorem SO2.turn (hs : Sim F φ S w) (h2 : ∀ x, OO F φ S x → F2 x) {D I : Nat → Prop} {c b : AV} (h : SO2 S D I c b) {v : Value} (hv : VR φ S (OO F φ S) w c v) : ∃ r, Made r b ∧ VR φ [] (OO F2 φ []) w r v := by
  cases h with
  | one h =>
    obtain ⟨⟨r, k1, k2, k3⟩, _⟩ := h.turn hs h2 hv
    refine ⟨r, ?_, k2⟩
    unfold Made
    split
    · cases h with
      | one h => cases h with | scal h => simp [scal0] at h
    · exact k1
  | tup h =>
    obtain ⟨vs, rfl, h1, hh2⟩ := hv.tup_inv
    obtain ⟨rs, e1, e2, e3, e4, e5, e6⟩ := SOL.turn (M := Made1) (fun D I c b v hh hv => (SO1.turn hs h2 hh hv).1) (fun D I c b v hh hv => (SO1.turn hs h2 hh hv).2) hs h hh2
    exact ⟨.tup rs, ⟨rs, rfl, e1⟩, .tup (by rw [h1, e2]) e3⟩
end

/-- A maker, from what its text does. -/
theorem FC.made {P : Program} {g : FuncId} {args : List AV} {b : AV} (h : FC P g args [] (fun r' S' => ∃ D I, SO2 S' D I r' b)) : MF P g args b := by
  refine ⟨h.1, fun F φ w vs hs hv => (h.2 F φ w vs hs hv).mono ?_⟩
  rintro e w' ⟨r', S', F', φ', v, ⟨D, I, hso⟩, rfl, hs', hv', he, hgr⟩
  obtain ⟨r, hm, hr⟩ := hso.turn (F2 := OO F' φ' S') hs' (fun _ h => h) hv'
  refine ⟨r, [], OO F' φ' S', φ', v, ⟨rfl, hm⟩, rfl, Sim.empty ?_, hr, ?_, ⟨fun x hx => .inl (hgr.sub x hx), fun x hx => ?_⟩⟩
  · rintro b (h | ⟨i, o, h, hn, rfl⟩)
    · exact hs'.fl b h
    · exact hs'.lt h hn
  · exact ⟨he.os, he.tape, he.output, he.hsize, Nat.le_refl _, he.unch, he.csize, fun b _ ho => absurd ho (own_nil _ _), fun i o _ ho => by rw [at_nil] at ho; cases ho⟩
  · rcases hx with hx | hx
    · exact hgr.new x hx
    · by_cases hlt : x < w.heap.size
      · exact absurd (he.own x hlt hx) (own_nil _ _)
      · exact .inr (by omega)

theorem MF.text {P : Program} {g : FuncId} {fn : Func} {c : Code} {args : List AV} {b : AV} (hf : P.funcs[g]? = some fn) (hb : fn.body = some c) (hname : (fn.name == "runtime.NumGoroutine") = false) (hm : Nat.ble args.length fn.ntmps = true)
    (h : ∀ B, SC P ⟨fn.ntmps, B⟩ c (argSlots args) [] (End P fn.results.toList (fun r' S' => ∃ D I, SO2 S' D I r' b))) : MF P g args b := FC.made (FC.text hf hb hname hm h)

section
variable {P : Program} {m : Fr} {ops : Array Oper} {o : Oper} {rest : List Oper} {a : Nat → AV} {S : St} {Post : (Nat → AV) → St → Prop} {g : FuncId} {as : List AV} {d : Option Nat}
/-- A call of a maker. -/
theorem RG.mf {as' : List AV} {b : AV} (h : callA o a = some (g, as)) (hd : o.dst = d) (hc : MF P g as' b) (hs : Seals True S as as')
    (hr : ∀ r, Made r b → (∀ x, OS r x → ¬ Hid a S x ∧ ¬ m.B x) → RG P m ops rest (upd a d r) S Post) (hgd : agd ops o a = some true := by rfl) (hok : (gdOK m.n ops o && dstOK m.n o.dst) = true := by rfl) : RG P m ops (o :: rest) a S Post :=
  RG.mk (Q := fun r => Made r b) h hd hc (fun r h => h.mk) hs hr hgd hok
end
end Go.Fw
