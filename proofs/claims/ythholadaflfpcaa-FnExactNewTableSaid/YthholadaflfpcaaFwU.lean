/-
  Is a slice nil? Rows of numbers.
-/
import Derived.Test.YthholadaflfpcaaFwT
namespace Go.Fw
open Go Go.RowKit

section
variable {P : Program} {m : Fr} {ops : Array Oper} {o : Oper} {rest : List Oper} {a : Nat → AV} {S : St} {Post : (Nat → AV) → St → Prop}

theorem run_equalIn_nil {t e : TypeId} (ht : P.underlying t = some (.slice e)) (d : Nat) (A : Option Addr) (n c : Nat) (w : World) : (Op.equalIn (d + 1) t (.slice A n c) (.slice none 0 0)).run P w = .ok A.isNone w := by
  cases A with
  | none => simp only [Op.equalIn, Sem.run_bind, run_underlying ht, Result.andThen_ok, Sem.run_pure, Option.isNone_none]
  | some A => simp only [Op.equalIn, Sem.run_bind, run_underlying ht, Result.andThen_ok, Sem.run_pure, Option.isNone_some]
theorem run_equal_nil {t e : TypeId} (ht : P.underlying t = some (.slice e)) (A : Option Addr) (n c : Nat) (w : World) : (Op.equal t (.slice A n c) (.slice none 0 0)).run P w = .ok A.isNone w := run_equalIn_nil ht 9999 A n c w

/-- What a slice looks like. -/
theorem VR.slice {F : Nat → Prop} {φ : Nat → Nat} {w : World} {sz n : Nat} {get : Nat → List AV} {v : Value} (h : VR φ S (OO F φ S) w (.isl sz n get) v ∨ ∃ I, VR φ S (OO F φ S) w (.own I (.isl sz n get)) v) : ∃ A c, v = .slice A n c ∧ (A = none → n = 0) := by
  rcases h with h | ⟨I, h⟩
  · cases h with
    | pure h =>
      cases h with
      | isl vals h1 h2 h3 h4 =>
        refine ⟨_, _, rfl, fun e => ?_⟩
        by_cases hn : 0 < n
        · obtain ⟨a, ea, _⟩ := h3 hn
          rw [e] at ea; cases ea
        · omega
  · cases h with
    | pure h => cases h
    | @own I _ _ h1 h2 h3 h4 =>
      revert h3
      generalize I.bl = J
      intro h3
      cases h3 with
      | emp h => exact ⟨_, _, rfl, fun _ => rfl⟩
      | isl => exact ⟨_, _, rfl, fun e => by cases e⟩

/-- Is a slice nil? -/
theorem RG.isnil {t yt : TypeId} {x : Operand} {sz n : Nat} {get : Nat → List AV} {d : Option Nat} (ti : TI) (T : Tab P) (ho : o.op = .binOp .eql t x (.const (.slice none 0 0)) yt) (hd : o.dst = d) (hx : aev a x = .isl sz n get) (ht : T.at_ t = some ti) (hk : isSlice ti.kd = true)
    (hr : ∀ b : Bool, (b = true → n = 0) → RG P m ops rest (upd a d (.bool b)) S Post) (hgd : agd ops o a = some true := by rfl) (hok : (gdOK m.n ops o && dstOK m.n o.dst) = true := by rfl) : RG P m ops (o :: rest) a S Post := by
  subst hd
  intro F φ w ac Q hg hq
  have ex := VR.eval hg.slots x
  rw [hx] at ex
  obtain ⟨A, c, hv, hn⟩ := VR.slice (.inl ex)
  obtain ⟨d, h1, h1k, _⟩ := (T.ok t ti ht).ty
  obtain ⟨e, he⟩ : ∃ e, d = .slice e := by rw [← h1k] at hk; revert hk; cases d <;> simp [isSlice, kindOf]
  have hrun : (binOp .eql t (.slice A n c) (.slice none 0 0)).run P w = .ok (.bool A.isNone) w := by
    show ((Op.equal t (.slice A n c) (.slice none 0 0)) >>= fun x => pure (Value.bool x)).run P w = _
    rw [Sem.run_bind, run_equal_nil (by rw [← he]; exact h1.1)]; rfl
  have hb := hr A.isNone (fun h => hn (by cases A <;> simp_all))
  rw [Bool.and_eq_true] at hok
  have hw := agd_wanted hg (gdOK_spec hok.1) hgd
  unfold wpList
  rw [if_pos hw]
  refine .inl ?_
  unfold Oper.wp
  rw [execOp_bin ho hv rfl (fun c => by simp) (by simp) hrun]
  refine hb F φ w (ac.put o.dst _) Q ⟨hg.sim, ?_, ?_, ?_, hg.bd⟩ hq
  · cases hd : o.dst <;> simp [Act.put, hg.defers]
  · cases hd : o.dst <;> simp [Act.put, hg.size]
  · exact hg.slots.put o.dst (fun t ht => by rw [hg.size]; exact dstOK_spec hok.2 t ht) (.pure (.bool _))
end

theorem getD_map' {α β : Type} (f : α → β) (l : List α) (j : Nat) (d : α) (e : β) (hj : j < l.length) : (l.map f).getD j e = f (l.getD j d) := by
  simp [List.getD_eq_getElem?_getD, hj]

/-- A row of values without memory, owned. -/
theorem SO.flat {S : St} {id n sz : Nat} {ty : TypeId} {els : List (List AV)} {get : Nat → List AV} (h : S.at id = some ⟨ty, sz, els⟩) (hn : els.length = n) (hg : ∀ i, i < n → els.getD i [] = get i ∧ (get i).length = sz ∧ (get i).all scal0 = true) :
    ∃ D, SO S D (fun _ => False) (.sl id n) (.isl sz n get) := by
  have := SO.sl (S := S) (get := get) (fun _ _ _ => False) (fun _ _ _ => False) h hn (fun i hi => (hg i hi).2.1) (fun i j hi hj => ?_) (fun _ _ _ _ h => h) (fun _ _ _ _ _ _ _ _ _ h => h.elim) (fun _ _ _ _ _ _ _ _ _ h => h.elim)
  · have e : (fun _ : Nat => ∃ i j, i < n ∧ j < (AObj.mk ty sz els).sz ∧ False) = fun _ => False := by funext x; simp
    rw [e] at this
    exact ⟨_, this⟩
  · rw [(hg i hi).1]
    exact SO.scal (all_getD (hg i hi).2.2 (by rw [(hg i hi).2.1]; exact hj))

/-! Stores with fewer objects. -/
def maskS : List Bool → St → St
  | true :: m, x :: S => x :: maskS m S
  | false :: m, _ :: S => none :: maskS m S
  | _, _ => []

def Sc (L : Nat) (o : AObj) : Prop := ∀ j, j < o.els.length → ∀ k, k < o.sz → sc0 L ((o.els.getD j []).getD k .undef) = true
def ScS (L : Nat) : St → Prop
  | [] => True
  | none :: S => ScS L S
  | some o :: S => Sc L o ∧ ScS L S

theorem maskS_len : ∀ (m : List Bool) (S : St), (maskS m S).length ≤ S.length
  | [], S => by simp [maskS]
  | true :: m, [] => by simp [maskS]
  | false :: m, [] => by simp [maskS]
  | true :: m, x :: S => by simp [maskS]; exact maskS_len m S
  | false :: m, x :: S => by simp [maskS]; exact maskS_len m S

theorem maskS_at : ∀ (m : List Bool) (S : St) (i : Nat) (o : AObj), (maskS m S).at i = some o → S.at i = some o
  | [], S, i, o, h => by simp [maskS, St.at] at h
  | true :: m, [], i, o, h => by simp [maskS, St.at] at h
  | false :: m, [], i, o, h => by simp [maskS, St.at] at h
  | true :: m, x :: S, i, o, h => by
    cases i with
    | zero => exact h
    | succ i => exact maskS_at m S i o h
  | false :: m, x :: S, i, o, h => by
    cases i with
    | zero => simp [maskS, St.at] at h
    | succ i => exact maskS_at m S i o h

theorem ScS.at {L : Nat} : ∀ {S : St}, ScS L S → ∀ i o, S.at i = some o → Sc L o
  | [], _, i, o, h => by simp [St.at] at h
  | none :: S, hs, i, o, h => by
    cases i with
    | zero => simp [St.at] at h
    | succ i => exact ScS.at (S := S) hs i o h
  | some o' :: S, hs, i, o, h => by
    cases i with
    | zero => simp [St.at] at h; subst h; exact hs.1
    | succ i => exact ScS.at (S := S) hs.2 i o h

theorem Drop.mask {S S' : St} (m : List Bool) (h : maskS m S = S') (hc : ScS S'.length S') : Drop S S' := by
  subst h
  exact ⟨maskS_len m S, maskS_at m S, fun i o ho => hc.at i o ho⟩

theorem Sc.one {L : Nat} {ty : TypeId} {sz : Nat} {cells : List AV} (h : cells.all (sc0 L) = true) (hz : Nat.beq cells.length sz = true := by rfl) : Sc L ⟨ty, sz, [cells]⟩ := by
  have hz := Nat.eq_of_beq_eq_true hz
  subst hz
  intro j hj k hk
  have : j = 0 := by simpa using hj
  subst this
  exact all_getD h hk

theorem Sc.row {L : Nat} {ty : TypeId} {sz : Nat} {els : List (List AV)} (h : ∀ c ∈ els, c.all (sc0 L) = true ∧ c.length = sz) : Sc L ⟨ty, sz, els⟩ := by
  intro j hj k hk
  have hm : els.getD j [] ∈ els := by rw [List.getD_eq_getElem?_getD, List.getElem?_eq_getElem hj]; exact List.getElem_mem hj
  obtain ⟨h1, h2⟩ := h _ hm
  exact all_getD h1 (by rw [h2]; exact hk)

/-- Growing. -/
theorem range_map_succ {α : Type} (f : Nat → α) (i : Nat) : (List.range (i + 1)).map f = (List.range i).map f ++ [f i] := by
  rw [List.range_succ, List.map_append]; rfl

theorem getD_mem {α : Type} {l : List α} {i : Nat} {d : α} (h : i < l.length) : l.getD i d ∈ l := by
  rw [List.getD_eq_getElem?_getD, List.getElem?_eq_getElem h]; exact List.getElem_mem h

def snoc (J : Nat → Nat → Prop) (i : Nat) (I : Nat → Prop) : Nat → Nat → Prop := fun j => if j = i then I else J j
theorem snoc_map {α : Type} (f : (Nat → Prop) → Nat → α) (J : Nat → Nat → Prop) (i : Nat) (I : Nat → Prop) : (List.range (i + 1)).map (fun j => f (snoc J i I j) j) = (List.range i).map (fun j => f (J j) j) ++ [f I i] := by
  rw [range_map_succ]
  congr 1
  · refine List.map_congr_left fun j hj => ?_
    have : j ≠ i := by have := List.mem_range.1 hj; omega
    simp [snoc, this]
  · simp [snoc]

def Dis (J : Nat → Nat → Prop) (n : Nat) : Prop := ∀ j j' x, j < n → j' < n → J j x → J j' x → j = j'
theorem Dis.zero (J : Nat → Nat → Prop) : Dis J 0 := fun _ _ _ h => absurd h (Nat.not_lt_zero _)
theorem Dis.snoc {J : Nat → Nat → Prop} {n : Nat} {I : Nat → Prop} (h : Dis J n) (hI : ∀ j x, j < n → J j x → ¬ I x) : Dis (snoc J n I) (n + 1) := by
  intro j j' x hj hj' h1 h2
  unfold Fw.snoc at h1 h2
  split at h1
  · split at h2
    · omega
    · exact absurd h1 (hI j' x (by omega) h2)
  · split at h2
    · exact absurd h2 (hI j x (by omega) h1)
    · exact h j j' x (by omega) (by omega) h1 h2
end Go.Fw
