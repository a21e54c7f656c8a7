/-
  Rows that are filled with what is made.
-/
import Derived.Test.YthholadaflfpcaaFxC
namespace Go.Fw
open Go Go.RowKit

def rI (n : Int) : List AV := [.int .i64 n]
theorem list_ext_getD {α : Type} (d : α) {l l' : List α} (hl : l.length = l'.length) (h : ∀ j, j < l.length → l.getD j d = l'.getD j d) : l = l' := by
  apply List.ext_getElem hl
  intro j h1 h2
  have := h j h1
  simpa [List.getD_eq_getElem?_getD, h1, h2] using this
theorem getD_set {α : Type} (d : α) {l : List α} {i : Nat} (h : i < l.length) (x : α) (j : Nat) : (l.set i x).getD j d = if j = i then x else l.getD j d := by
  simp only [List.getD_eq_getElem?_getD, List.getElem?_set]
  by_cases e : i = j
  · subst e; simp [h]
  · simp [e, Ne.symm e]

theorem SO.rowsI {S : St} {id n : Nat} {ty : TypeId} {l : List Int} (h : S.at id = some ⟨ty, 1, l.map rI⟩) (hn : l.length = n) : ∃ D, SO S D (fun _ => False) (.sl id n) (ints l) := by
  subst hn
  refine SO.flat (get := fun i => [.int .i64 (l.getD i 0)]) h (by simp) fun i hi => ⟨?_, rfl, rfl⟩
  rw [getD_map' rI l i 0 [] hi]; rfl

/-- The first rows are made. -/
structure ArrI (sz i : Nat) (get : Nat → List AV) (els : List (List AV)) : Prop where
  made : ∀ k j, k < i → j < sz → Made0 ((els.getD k []).getD j .undef) ((get k).getD j .undef)
  dis : ∀ k j k' j' x, k < i → j < sz → k' < i → j' < sz → OS ((els.getD k []).getD j .undef) x → OS ((els.getD k' []).getD j' .undef) x → k = k' ∧ j = j'

theorem ArrI.zero (sz : Nat) (get : Nat → List AV) (els : List (List AV)) : ArrI sz 0 get els := ⟨fun _ _ h => absurd h (Nat.not_lt_zero _), fun _ _ _ _ _ h => absurd h (Nat.not_lt_zero _)⟩

/-- An element's cells are made. -/
structure Cells (sz : Nat) (bs cs : List AV) : Prop where
  len : cs.length = sz
  made : ∀ j, j < sz → Made0 (cs.getD j .undef) (bs.getD j .undef)
  dis : ∀ j j' x, j < sz → j' < sz → OS (cs.getD j .undef) x → OS (cs.getD j' .undef) x → j = j'

theorem ArrI.of {sz i : Nat} {get : Nat → List AV} {els els' : List (List AV)} {cs : List AV} (h : ArrI sz i get els) (hold : ∀ k, k < i → els'.getD k [] = els.getD k []) (hnew : els'.getD i [] = cs) (hc : Cells sz (get i) cs) (hf : ∀ k j j' x, k < i → j < sz → j' < sz → OS (cs.getD j .undef) x → ¬ OS ((els.getD k []).getD j' .undef) x) : ArrI sz (i + 1) get els' := by
  refine ⟨fun k j hk hj => ?_, fun k j k' j' x hk hj hk' hj' h1 h2 => ?_⟩
  · by_cases e : k = i
    · subst e; rw [hnew]; exact hc.made j hj
    · rw [hold k (by omega)]; exact h.made k j (by omega) hj
  · by_cases e : k = i
    · subst e
      rw [hnew] at h1
      by_cases e' : k' = k
      · subst e'; rw [hnew] at h2; exact ⟨rfl, hc.dis j j' x hj hj' h1 h2⟩
      · rw [hold k' (by omega)] at h2; exact absurd h2 (hf k' j j' x (by omega) hj hj' h1)
    · rw [hold k (by omega)] at h1
      by_cases e' : k' = i
      · subst e'; rw [hnew] at h2; exact absurd h1 (hf k j' j x (by omega) hj' hj h2)
      · rw [hold k' (by omega)] at h2; exact h.dis k j k' j' x (by omega) hj (by omega) hj' h1 h2

theorem ArrI.set {sz i : Nat} {get : Nat → List AV} {els : List (List AV)} {cs : List AV} (h : ArrI sz i get els) (hi : i < els.length) (hc : Cells sz (get i) cs) (hf : ∀ k j j' x, k < i → j < sz → j' < sz → OS (cs.getD j .undef) x → ¬ OS ((els.getD k []).getD j' .undef) x) : ArrI sz (i + 1) get (els.set i cs) :=
  h.of (fun k hk => by rw [getD_set [] hi, if_neg (by omega)]) (by rw [getD_set [] hi, if_pos rfl]) hc hf

theorem ArrI.app {sz i : Nat} {get : Nat → List AV} {els : List (List AV)} {cs : List AV} (h : ArrI sz i get els) (hi : els.length = i) (hc : Cells sz (get i) cs) (hf : ∀ k j j' x, k < i → j < sz → j' < sz → OS (cs.getD j .undef) x → ¬ OS ((els.getD k []).getD j' .undef) x) : ArrI sz (i + 1) get (els ++ [cs]) :=
  h.of (fun k hk => getD_append_left _ _ _ _ (by omega)) (by rw [getD_append_right _ _ _ _ (by omega), hi, Nat.sub_self]; rfl) hc hf

/-- The same rows, told by another list. -/
theorem ArrI.congr {sz i : Nat} {get get' : Nat → List AV} {els : List (List AV)} (h : ArrI sz i get els) (hg : ∀ k, k < i → get k = get' k) : ArrI sz i get' els :=
  ⟨fun k j hk hj => by rw [← hg k hk]; exact h.made k j hk hj, h.dis⟩

theorem SO.arr {S : St} {id n : Nat} {ty : TypeId} {sz : Nat} {els : List (List AV)} {get : Nat → List AV} (h : S.at id = some ⟨ty, sz, els⟩) (hn : els.length = n) (ha : ArrI sz n get els) (hg : ∀ k, k < n → (get k).length = sz) : ∃ D I, SO S D I (.sl id n) (.isl sz n get) := by
  refine ⟨_, _, SO.sl (S := S) (get := get) (fun _ _ _ => False) (fun i j x => OS ((els.getD i []).getD j .undef) x) h hn hg (fun i j hi hj => ?_) (fun _ _ _ _ h => h) (fun _ _ _ _ _ _ _ _ _ h => h.elim) (fun i j i' j' x hi hj hi' hj' h1 h2 => ha.dis i j i' j' x hi hj hi' hj' h1 h2)⟩
  have hm := ha.made i j hi hj
  show SO S _ _ ((els.getD i []).getD j .undef) ((get i).getD j .undef)
  generalize (els.getD i []).getD j .undef = c at hm ⊢
  generalize (get i).getD j .undef = b at hm ⊢
  have key : ∀ sz n get, b = .isl sz n get → SO S (fun _ => False) (fun x => OS c x) c b := by
    rintro sz n get rfl
    obtain ⟨I, rfl⟩ := hm
    have e : (fun x => OS (.own I (.isl sz n get)) x) = I.bl := by
      funext x; exact propext ⟨fun hx => by cases hx with | own hx => exact hx, fun hx => .own hx⟩
    rw [e]; exact .own
  have key2 : c = b ∧ scal0 b = true → SO S (fun _ => False) (fun x => OS c x) c b := by
    rintro ⟨rfl, hs⟩
    have e : (fun x => OS c x) = fun _ => False := by
      funext x; exact propext ⟨fun hx => by cases hx <;> simp [scal0] at hs, fun hx => hx.elim⟩
    rw [e]; exact .scal hs
  cases b with
  | isl => exact key _ _ _ rfl
  | _ => exact key2 hm

/-- A row all whose cells are made; what it is by value. -/
theorem Arr.of {sz n : Nat} {get : Nat → List AV} {els : List (List AV)} (ha : ArrI sz n get els) (hl : els.length = n) (hc : ∀ k, k < n → (els.getD k []).length = sz) (hg : ∀ k, k < n → (get k).length = sz) : Arr sz n get els :=
  ⟨hl, fun i hi => ⟨hc i hi, hg i hi⟩, ha.made, ha.dis⟩
theorem Arr.toI {sz n : Nat} {get : Nat → List AV} {els : List (List AV)} (h : Arr sz n get els) : ArrI sz n get els := ⟨h.made, h.dis⟩

theorem MadeL.nil0 {R : AV → AV → Prop} {rs : List AV} (h : MadeL R rs []) : rs = [] := by
  match rs, h with
  | [], _ => rfl
theorem MadeL.cells : ∀ {rs bs : List AV}, MadeL Made0 rs bs → Cells bs.length bs rs
  | [], [], _ => ⟨rfl, fun j hj => absurd hj (Nat.not_lt_zero _), fun j j' x hj => absurd hj (Nat.not_lt_zero _)⟩
  | [], _ :: _, h => h.elim
  | _ :: _, [], h => h.elim
  | r :: rs, b :: bs, h => by
    obtain ⟨h1, h2, h3⟩ := MadeL.cells h.2.2
    have hos : ∀ j x, j < bs.length → OS (rs.getD j .undef) x → OS (.agg rs) x := fun j x hj hx => .agg (by omega) hx
    refine ⟨by simp [h1], fun j hj => ?_, fun j j' x hj hj' e1 e2 => ?_⟩
    · cases j with
      | zero => exact h.1
      | succ j => simpa using h2 j (by simpa using hj)
    · cases j with
      | zero =>
        cases j' with
        | zero => rfl
        | succ j' => exact absurd (hos j' x (by simpa using hj') (by simpa using e2)) (h.2.1 x (by simpa using e1))
      | succ j =>
        cases j' with
        | zero => exact absurd (hos j x (by simpa using hj) (by simpa using e1)) (h.2.1 x (by simpa using e2))
        | succ j' => rw [h3 j j' x (by simpa using hj) (by simpa using hj') (by simpa using e1) (by simpa using e2)]
theorem Made0.cells {r b : AV} (h : Made0 r b) : Cells 1 [b] [r] :=
  ⟨rfl, fun j hj => by match j, hj with | 0, _ => exact h, fun j j' x hj hj' _ _ => by omega⟩

theorem Made.cells1 {r : AV} {sz n : Nat} {get : Nat → List AV} (h : Made r (.isl sz n get)) : Cells 1 [.isl sz n get] [r] := Made0.cells (show Made0 r (.isl sz n get) from h)

/-- Rows that are filled up to i. -/
structure Fil (sz i n : Nat) (get : Nat → List AV) (els : List (List AV)) : Prop where
  len : els.length = n
  arr : ArrI sz i get els
  pl : ∀ c ∈ els, c.length = sz ∧ ∀ L, c.all (sc0 L) = true

theorem Fil.zero {sz n : Nat} {get : Nat → List AV} {z : List AV} (h1 : Nat.beq z.length sz = true) (h2 : ∀ L, z.all (sc0 L) = true) : Fil sz 0 n get ((List.replicate n z).map id) :=
  ⟨by simp, ArrI.zero _ _ _, fun c hc => by
    simp only [List.map_id, List.mem_replicate] at hc
    rw [hc.2]; exact ⟨Nat.eq_of_beq_eq_true h1, h2⟩⟩
theorem Fil.empty {sz : Nat} {get : Nat → List AV} : Fil sz 0 0 get [] := ⟨rfl, ArrI.zero _ _ _, fun c hc => by cases hc⟩
theorem Fil.set {sz i n : Nat} {get : Nat → List AV} {els : List (List AV)} {cs : List AV} (h : Fil sz i n get els) (hi : i < n) (hc : Cells sz (get i) cs) (hp : ∀ L, cs.all (sc0 L) = true) (hf : ∀ k j j' x, k < i → j < sz → j' < sz → OS (cs.getD j .undef) x → ¬ OS ((els.getD k []).getD j' .undef) x) : Fil sz (i + 1) n get (els.set i cs) :=
  ⟨by simp [h.len], h.arr.set (by rw [h.len]; exact hi) hc hf, fun c hcm => (List.mem_or_eq_of_mem_set hcm).elim (h.pl c) fun e => e ▸ ⟨hc.len, hp⟩⟩
theorem Fil.app {sz i : Nat} {get : Nat → List AV} {els : List (List AV)} {cs : List AV} (h : Fil sz i i get els) (hc : Cells sz (get i) cs) (hp : ∀ L, cs.all (sc0 L) = true) (hf : ∀ k j j' x, k < i → j < sz → j' < sz → OS (cs.getD j .undef) x → ¬ OS ((els.getD k []).getD j' .undef) x) : Fil sz (i + 1) (i + 1) get (els ++ [cs]) :=
  ⟨by simp [h.len], h.arr.app h.len hc hf, fun c hcm => (List.mem_append.1 hcm).elim (h.pl c) fun e => by rw [List.mem_singleton.1 e]; exact ⟨hc.len, hp⟩⟩
theorem Fil.congr {sz i n : Nat} {get get' : Nat → List AV} {els : List (List AV)} (h : Fil sz i n get els) (hg : ∀ k, k < i → get k = get' k) : Fil sz i n get' els := ⟨h.len, h.arr.congr hg, h.pl⟩
theorem Fil.sc {sz i n L : Nat} {get : Nat → List AV} {els : List (List AV)} (h : Fil sz i n get els) {ty : TypeId} : Sc L ⟨ty, sz, els⟩ := Sc.row fun c hc => ⟨(h.pl c hc).2 L, (h.pl c hc).1⟩
theorem Fil.so {S : St} {id sz n : Nat} {ty : TypeId} {get : Nat → List AV} {els : List (List AV)} (h : Fil sz n n get els) (hat : S.at id = some ⟨ty, sz, els⟩) (hg : ∀ k, (get k).length = sz) : ∃ D I, SO S D I (.sl id n) (.isl sz n get) :=
  SO.arr hat h.len h.arr fun k _ => hg k
theorem Fil.row {sz i n : Nat} {get : Nat → List AV} {els : List (List AV)} (h : Fil sz i n get els) {k : Nat} (hk : k < n) : (els.getD k []).length = sz := by
  have : els.getD k [] ∈ els := getD_mem (by rw [h.len]; exact hk)
  exact (h.pl _ this).1

theorem fresh_rows {a : Nat → AV} {S : St} {B : Nat → Prop} {cs : List AV} {id : Nat} {ty : TypeId} {sz i : Nat} {els : List (List AV)} (hfr : ∀ x, OS (.agg cs) x → ¬ Hid a S x ∧ ¬ B x) (hat : S.at id = some ⟨ty, sz, els⟩) (hi : i ≤ els.length) (hl : cs.length = sz) :
    ∀ k j j' x, k < i → j < sz → j' < sz → OS (cs.getD j .undef) x → ¬ OS ((els.getD k []).getD j' .undef) x :=
  fun k j j' x hk hj hj' h1 h2 => (hfr x (.agg (by omega) h1)).1 (.inr ⟨id, _, k, j', hat, by simp only; omega, hj', h2⟩)

section
variable {P : Program} {m : Fr} {ops : Array Oper} {o : Oper} {rest : List Oper} {a : Nat → AV} {S : St} {Post : (Nat → AV) → St → Prop} {d : Option Nat}

def makeOf (o : Oper) : Option (TypeId × Operand × Operand) := match o.op with
  | .makeSlice t x y => some (t, x, y)
  | _ => none
theorem makeOf_ok {t : TypeId} {x y : Operand} (h : makeOf o = some (t, x, y)) : o.op = .makeSlice t x y := by
  unfold makeOf at h
  split at h
  · rename_i ho; cases h; exact ho
  · cases h

/-- A new row of zero values. -/
theorem RG.make0 {α : Type} (T : Tab P) (f : α → List AV) (x0 : α) {t e : TypeId} {x y : Operand} {j : TI} {n : Nat} {k k' : IntKind} (h : makeOf o = some (t, x, y)) (hd : o.dst = d) (ht : elTI T t = some (e, j)) (hx : aev a x = .int k n) (hy : aev a y = .int k' n) (hz : zcells j.z = f x0) (hb : Nat.ble 1 j.bytes = true) (hn : n * j.bytes ≤ 281474976710656)
    (next : RG P m ops rest (upd a d (.sl S.length n)) (S ++ [some ⟨e, j.sz, (List.replicate n x0).map f⟩]) Post) (hgd : agd ops o a = some true := by rfl) (hok : (gdOK m.n ops o && dstOK m.n o.dst) = true := by rfl) : RG P m ops (o :: rest) a S Post := by
  subst hd
  have hel := elTI_ok ht
  obtain ⟨dd, hd1⟩ := hel.ty
  have hm : n ≤ maxLen := le_maxLen hb hn
  have := OpR.make (S := S) (makeOf_ok h) hx hy hel.slice hd1 hel.zsize hel.zone (by rw [Nat.mul_comm]; exact hn) hm
  refine RG.op this ?_ hgd hok
  rw [hz, ← List.map_replicate]
  exact next

/-- A whole element is stored. -/
theorem RG.strE (T : Tab P) {t : TypeId} {x y : Operand} {ti : TI} {id n i : Nat} {ty : TypeId} {sz : Nat} {els : List (List AV)} {v : AV} {cs : List AV} {S' : St} (h : storeOf o = some (t, x, y)) (hd : o.dst = d) (hx : aev a x = .ptr id n i 0) (hy : aev a y = v) (hti : T.at_ t = some ti) (hob : S.at id = some ⟨ty, sz, els⟩) (hn : els.length = n) (hi : i < n)
    (hc : acells v = cs) (hl : Nat.beq cs.length ti.sz = true) (hsz : Nat.beq ti.sz sz = true) (hle : (els.getD i []).length = sz) (hlf : cs.all leaf = true) (hS : List.set S id (some ⟨ty, sz, els.set i cs⟩) = S')
    (hr : RG P m ops rest (upd a d .undef) S' Post) (hgd : agd ops o a = some true := by rfl) (hok : (gdOK m.n ops o && dstOK m.n o.dst) = true := by rfl) : RG P m ops (o :: rest) a S Post := by
  subst hd hS hc
  obtain ⟨dd, h1, h1k, h2⟩ := (T.ok t ti hti).ty
  have e1 := Nat.eq_of_beq_eq_true hl
  have e2 := Nat.eq_of_beq_eq_true hsz
  have := OpR.store (storeOf_ok h) hx hy (h1.i h2) hob (by simpa using hn.symm) hi (by simp only; omega) e1 hlf
  refine RG.op this ?_ hgd hok
  have e : splice (els.getD i []) 0 (acells v) = acells v := by
    simp only [splice, List.take_zero, List.nil_append, Nat.zero_add]
    rw [List.drop_eq_nil_of_le (by omega), List.append_nil]
  simp only [e]
  exact hr
end
end Go.Fw
