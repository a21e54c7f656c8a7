/-
  Pure functions: what owned rows tell, by value; calls of pure functions.
-/
import Derived.Test.YthholadaflfpcaaFwL
namespace Go.Fw
open Go Go.RowKit

/-! Pure values. -/
def pv0 : AV → Bool
  | .sl .. | .ptr .. | .win .. | .agg _ | .tup _ | .fn .. | .own .. => false
  | _ => true
def pv1 : AV → Bool
  | .agg cs => cs.all pv0
  | v => pv0 v
def pv : AV → Bool
  | .tup vs => vs.all pv1
  | .fn _ first caps => first.all pv1 && caps.all pv1
  | v => pv1 v

theorem VR.vi0 {φ : Nat → Nat} {S : St} {O : Nat → Prop} {w : World} {av : AV} {v : Value} (h : VR φ S O w av v) (hc : pv0 av = true) : VI O w av v := by
  cases h with
  | pure h => exact h
  | _ => simp [pv0] at hc

theorem VR.vi1 {φ : Nat → Nat} {S : St} {O : Nat → Prop} {w : World} {av : AV} {v : Value} (h : VR φ S O w av v) (hc : pv1 av = true) : VI O w av v := by
  cases h with
  | pure h => exact h
  | agg h1 h2 => exact .agg h1 fun j hj => (h2 j hj).vi0 (all_getD (by simpa [pv1] using hc) hj)
  | _ => simp [pv1, pv0] at hc

theorem VR.vi {φ : Nat → Nat} {S : St} {O : Nat → Prop} {w : World} {av : AV} {v : Value} (h : VR φ S O w av v) (hc : pv av = true) : VI O w av v := by
  cases h with
  | pure h => exact h
  | fn h1 h2 h3 h4 =>
    simp only [pv, Bool.and_eq_true] at hc
    exact .fn h1 (fun j hj => (h2 j hj).vi1 (all_getD hc.1 hj)) h3 (fun j hj => (h4 j hj).vi1 (all_getD hc.2 hj))
  | agg h1 h2 => exact (VR.agg h1 h2).vi1 hc
  | tup h1 h2 => exact .tup h1 fun j hj => (h2 j hj).vi1 (all_getD (by simpa [pv] using hc) hj)
  | _ => simp [pv, pv1, pv0] at hc

/-- What is one's own, read by value. -/
theorem Phys.vi {w : World} {I : Nat → Prop} {b : AV} {v : Value} (h : Phys w I b v) : ∀ {O : Nat → Prop}, (∀ x, I x → ¬ O x) → VI O w b v := by
  induction h with
  | int k n => intro O hO; exact .int k n
  | bool b => intro O hO; exact .bool b
  | str s => intro O hO; exact .str s
  | emp h => intro O hO; exact .isl (fun _ _ => undef) (Nat.zero_le _) h (fun hn => absurd hn (Nat.lt_irrefl _)) (fun i j hi => absurd hi (Nat.not_lt_zero _))
  | @isl b ty sz n cap get C I h1 h2 h3 h4 h5 h6 h7 h8 h9 ih =>
    intro O hO
    refine .isl (fun i j => C.getD (i * sz + j) undef) h1 h2 (fun hn => ⟨_, rfl, rfl, fun i j hi hj => ⟨hO _ (.inl rfl), ?_⟩⟩) (fun i j hi hj => ?_)
    · rw [h5 i hi] at hj
      have hlt : i * sz + j < C.size := by rw [h4]; exact mul_lt (Nat.lt_of_lt_of_le hi h1) hj
      rw [cell_at h3]
      simp [Array.getD, hlt]
    · rw [h5 i hi] at hj
      exact ih i j hi hj fun x hx => hO x (.inr ⟨i, j, hi, hj, hx⟩)
  | agg I h1 h2 h3 ih => intro O hO; exact .agg h1 fun j hj => ih j hj fun x hx => hO x ⟨j, hj, hx⟩

/-- What a value tells of owned objects, by value. -/
inductive SealB (bo : Prop) (S : St) : AV → AV → Prop
  | same {av : AV} : pv av = true → SealB bo S av av
  | own {I : Gh} {b : AV} : bo → SealB bo S (.own I b) b
  | sl {id n : Nat} {ob : AObj} {get : Nat → List AV} : S.at id = some ob → ob.els.length = n → (∀ i, i < n → (get i).length = ob.sz) →
      (∀ i j, i < n → j < ob.sz → SealB bo S ((ob.els.getD i []).getD j .undef) ((get i).getD j .undef)) → SealB bo S (.sl id n) (.isl ob.sz n get)
  | ptr {id n i off : Nat} {ob : AObj} {cells : List AV} : S.at id = some ob → ob.els.length = n → i < n → off + cells.length = ob.sz →
      (∀ j, j < cells.length → SealB bo S ((ob.els.getD i []).getD (off + j) .undef) (cells.getD j .undef)) → SealB bo S (.ptr id n i off) (.iptr cells)
  | fn {f : FuncId} {us us' cs cs' : List AV} : us.length = us'.length → (∀ j, j < us.length → SealB bo S (us.getD j .undef) (us'.getD j .undef)) → cs.length = cs'.length → (∀ j, j < cs.length → SealB bo S (cs.getD j .undef) (cs'.getD j .undef)) → SealB bo S (.fn f us cs) (.fn f us' cs')
  | agg {cs cs' : List AV} : cs.length = cs'.length → (∀ j, j < cs.length → SealB bo S (cs.getD j .undef) (cs'.getD j .undef)) → SealB bo S (.agg cs) (.agg cs')
  | tup {cs cs' : List AV} : cs.length = cs'.length → (∀ j, j < cs.length → SealB bo S (cs.getD j .undef) (cs'.getD j .undef)) → SealB bo S (.tup cs) (.tup cs')

abbrev Seal (S : St) : AV → AV → Prop := SealB False S

theorem VR.fn_inv {φ : Nat → Nat} {S : St} {O : Nat → Prop} {w : World} {f : FuncId} {first caps : List AV} {fv : Value} (ef : VR φ S O w (.fn f first caps) fv) :
    ∃ us vs : Array Value, fv = .func (.func f) us vs ∧ us.size = first.length ∧ (∀ j, j < first.length → VR φ S O w (first.getD j .undef) (us.getD j undef)) ∧ vs.size = caps.length ∧ ∀ j, j < caps.length → VR φ S O w (caps.getD j .undef) (vs.getD j undef) := by
  cases ef with
  | pure ef => cases ef with | fn h1 h2 h3 h4 => exact ⟨_, _, rfl, h1, fun j hj => .pure (h2 j hj), h3, fun j hj => .pure (h4 j hj)⟩
  | fn h1 h2 h3 h4 => exact ⟨_, _, rfl, h1, h2, h3, h4⟩

theorem VR.agg_inv {φ : Nat → Nat} {S : St} {O : Nat → Prop} {w : World} {cs : List AV} {v : Value} (h : VR φ S O w (.agg cs) v) : ∃ vs : Array Value, v = .agg vs ∧ vs.size = cs.length ∧ ∀ j, j < cs.length → VR φ S O w (cs.getD j .undef) (vs.getD j undef) := by
  cases h with
  | pure h => cases h with | agg h1 h2 => exact ⟨_, rfl, h1, fun j hj => .pure (h2 j hj)⟩
  | agg h1 h2 => exact ⟨_, rfl, h1, h2⟩

theorem VR.tup_inv {φ : Nat → Nat} {S : St} {O : Nat → Prop} {w : World} {cs : List AV} {v : Value} (h : VR φ S O w (.tup cs) v) : ∃ vs : Array Value, v = .tuple vs ∧ vs.size = cs.length ∧ ∀ j, j < cs.length → VR φ S O w (cs.getD j .undef) (vs.getD j undef) := by
  cases h with
  | pure h => cases h with | tup h1 h2 => exact ⟨_, rfl, h1, fun j hj => .pure (h2 j hj)⟩
  | tup h1 h2 => exact ⟨_, rfl, h1, h2⟩

/-- Sealed values lie in memory that nobody writes while O' does not hold of it. -/
theorem SealB.vi {bo : Prop} {F : Nat → Prop} {φ : Nat → Nat} {S : St} {w : World} (hs : Sim F φ S w) {O' : Nat → Prop} (hO : ∀ b, O' b → F b) (hbo : bo → ∀ b, ¬ O' b) {av av' : AV} (h : SealB bo S av av') : ∀ {v : Value}, VR φ S (OO F φ S) w av v → VI O' w av' v := by
  induction h with
  | same hc => intro v hv; exact (hv.vi hc).sub fun b hb => .inl (hO b hb)
  | own h =>
    intro v hv
    cases hv with
    | pure hv => cases hv
    | own h1 h2 h3 h4 => exact h3.vi fun x _ => hbo h x
  | @sl id n ob get h1 h2 h3 h4 ih =>
    intro v hv
    cases hv with
    | pure hv => cases hv
    | sl hh0 hh1 hh2 =>
      obtain ⟨_, e⟩ := hh2 ob h1
      rcases e h2.symm with ⟨rfl, A, c0, rfl, hc0, _⟩ | ⟨hpos, cap, rfl, e1, e2, _⟩
      · exact .isl (fun _ _ => undef) (Nat.zero_le _) hc0 (fun hn => absurd hn (Nat.lt_irrefl _)) (fun i j hi => absurd hi (Nat.not_lt_zero _))
      obtain ⟨C, hC, hCs, hcs⟩ := hs.obj id ob h1 (ne_of_lt_len h2 hpos)
      refine .isl (fun i j => (C[i * ob.sz + j]?).getD undef) e1 e2 (fun hn => ⟨_, rfl, rfl, fun i j hi hj => ?_⟩) (fun i j hi hj => ?_)
      · rw [h3 i hi] at hj
        obtain ⟨u, hu, _, _⟩ := (hcs i j (by omega)).2 hj
        refine ⟨fun ho => hs.nf id ob h1 (ne_of_lt_len h2 hpos) (hO _ ho), ?_⟩
        rw [cell_at hC]
        simp only [Nat.zero_add, hu, Option.getD_some]
      · rw [h3 i hi] at hj
        obtain ⟨u, hu, _, hv⟩ := (hcs i j (by omega)).2 hj
        simp only [hu, Option.getD_some]
        exact ih i j hi hj hv
  | @ptr id n i off ob cells h1 h2 h3 h4 h5 ih =>
    intro v hv
    obtain ⟨rfl, hc⟩ := ptr_cells hs hv h1 h2.symm h3
    refine .iptr (fun j => (w.cell? ⟨φ id, i * ob.sz + off + j, none⟩).getD undef) rfl (fun hn => ⟨fun ho => hs.nf id ob h1 (ne_of_lt_len h2 h3) (hO _ ho), fun j hj => ?_⟩) (fun j hj => ?_)
    · obtain ⟨u, hu, _, _⟩ := hc j (by omega)
      simp only [hu, Option.getD_some]
    · obtain ⟨u, hu, _, hv⟩ := hc j (by omega)
      simp only [hu, Option.getD_some]
      exact ih j hj hv
  | @fn f us us' cs cs' h1 h2 h3 h4 ih1 ih2 =>
    intro v hv
    obtain ⟨xs, ys, rfl, e1, e2, e3, e4⟩ := hv.fn_inv
    exact .fn (by omega) (fun j hj => ih1 j (by omega) (e2 j (by omega))) (by omega) (fun j hj => ih2 j (by omega) (e4 j (by omega)))
  | @agg cs cs' h1 h2 ih =>
    intro v hv
    obtain ⟨xs, rfl, e1, e2⟩ := hv.agg_inv
    exact .agg (by omega) (fun j hj => ih j (by omega) (e2 j (by omega)))
  | @tup cs cs' h1 h2 ih =>
    intro v hv
    obtain ⟨xs, rfl, e1, e2⟩ := hv.tup_inv
    exact .tup (by omega) (fun j hj => ih j (by omega) (e2 j (by omega)))

/-- A pure function: of these values it makes this value; nothing that was is written. -/
def PF (P : Program) (g : FuncId) (args : List AV) (r : AV) : Prop := FC P g args [] (fun r' S' => r' = r ∧ S' = [])

theorem at_nil (i : Nat) : St.at [] i = none := by simp [St.at]

theorem Sim.empty {F : Nat → Prop} {φ : Nat → Nat} {w : World} (hf : ∀ b, F b → b < w.heap.size) : Sim F φ [] w :=
  ⟨hf, fun i o h => (by rw [at_nil] at h; cases h), fun i j o o' h => (by rw [at_nil] at h; cases h), fun i o h => (by rw [at_nil] at h; cases h)⟩

theorem own_nil (φ : Nat → Nat) (b : Nat) : ¬ Own φ [] b := by rintro ⟨i, o, h, _⟩; rw [at_nil] at h; cases h

theorem oo_nil {F : Nat → Prop} {φ : Nat → Nat} {b : Nat} : OO F φ [] b ↔ F b := ⟨fun h => h.resolve_right (own_nil φ b), .inl⟩

/-- Where nothing that was has been written, a store is as it was. -/
theorem Sim.kept {F : Nat → Prop} {φ φ' : Nat → Nat} {S : St} {w w' : World} (hs : Sim F φ S w) {S0 : St} (e : Evo φ [] w φ' S0 w') : Sim F φ S w' ∧ Evo φ S w φ S w' := by
  have hb : ∀ b, b < w.heap.size → w'.heap[b]? = w.heap[b]? := fun b h => e.unch b h (own_nil φ b)
  have evo : Evo φ S w φ S w' := ⟨e.os, e.tape, e.output, e.hsize, Nat.le_refl _, fun b h _ => hb b h, e.csize, fun b _ h => h, fun i o _ h => ⟨o, h, rfl, rfl, Nat.le_refl _, fun _ => rfl⟩⟩
  refine ⟨⟨fun b h => Nat.lt_of_lt_of_le (hs.fl b h) e.hsize, hs.nf, hs.inj, fun i o h hn => ?_⟩, evo⟩
  obtain ⟨C, h1, h2, h3⟩ := hs.obj i o h hn
  refine ⟨C, by rw [hb _ (hs.lt h hn)]; exact h1, h2, fun j k hj => ⟨(h3 j k hj).1, fun hk => ?_⟩⟩
  obtain ⟨v, e1, e2, e3⟩ := (h3 j k hj).2 hk
  exact ⟨v, e1, e2, e3.evo evo⟩

theorem VR.nil_pv {φ : Nat → Nat} {O : Nat → Prop} {w : World} {av : AV} {v : Value} (h : VR φ [] O w av v) (hc : pv av = true) : VI O w av v := h.vi hc

/-- A pure function may be called with any store: its arguments are values. -/
theorem PF.fc {P : Program} {g : FuncId} {args : List AV} {r : AV} (h : PF P g args r) (S : St) (ha : args.all pv = true) (hr : pv r = true) : FC P g args S (fun r' S' => r' = r ∧ S' = S) := by
  refine ⟨h.1, fun F φ w vs hs hv => ?_⟩
  have hF : ∀ b, OO F φ S b → b < w.heap.size := by
    rintro b (h | ⟨i, o, h, hn, rfl⟩)
    · exact hs.fl b h
    · exact hs.lt h hn
  have hargs : VRs φ [] (OO (OO F φ S) φ []) w args vs := ⟨hv.1, fun j hj => .pure (((hv.2 j hj).vi (all_getD ha hj)).sub fun b hb => oo_nil.1 hb)⟩
  refine (h.2 (OO F φ S) φ w vs (Sim.empty hF) hargs).mono ?_
  rintro e w' ⟨r', S', F', φ', v, ⟨rfl, rfl⟩, rfl, hs', hv', he, hgr⟩
  obtain ⟨k1, k2⟩ := hs.kept he
  exact ⟨r', S, F, φ, v, ⟨rfl, rfl⟩, rfl, k1, .pure ((hv'.vi hr).sub fun b hb => .inl (hgr.sub b hb)), k2, Gro.refl _ _⟩

/-- What a function made is told by value. -/
theorem FC.byval {P : Program} {g : FuncId} {args : List AV} {r : AV} (h : FC P g args [] (fun r' S' => Seal S' r' r)) : PF P g args r := by
  refine ⟨h.1, fun F φ w vs hs hv => (h.2 F φ w vs hs hv).mono ?_⟩
  rintro e w' ⟨r', S', F', φ', v, hseal, rfl, hs', hv', he, hgr⟩
  refine ⟨r, [], F', φ', v, ⟨rfl, rfl⟩, rfl, Sim.empty hs'.fl, .pure (hseal.vi hs' (fun b hb => oo_nil.1 hb) (fun h => h.elim) hv'), ?_, hgr⟩
  exact ⟨he.os, he.tape, he.output, he.hsize, Nat.le_refl _, he.unch, he.csize, fun b _ ho => absurd ho (own_nil _ _), fun i o _ ho => by rw [at_nil] at ho; cases ho⟩

end Go.Fw
