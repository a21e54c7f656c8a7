/-
  Regions whose order is drawn: the rule.
-/
import Derived.Test.YthholadaflfpcaaFwR
namespace Go.Fw
open Go Go.RowKit

/-- Does one operation wait for another one? -/
def dep (ops : Array Oper) : Nat → Nat → Nat → Bool
  | 0, _, _ => false
  | f + 1, o, j => match ops[j]? with
    | some oj => oj.after.toList.any fun e => Region.binds .any e && (Nat.beq e.on o || dep ops f o e.on)
    | none => false

/-- Listed ones have all listed that they wait for. -/
def DC (ops : Array Oper) (listed : Array Bool) : Prop := ∀ i oi, ops[i]? = some oi → listed.getD i true = true → ∀ e ∈ oi.after, Region.binds .any e = true → listed.getD e.on false = true

theorem getD_tf {listed : Array Bool} {i : Nat} (h : listed.getD i false = true) : listed.getD i true = true := by
  rw [Array.getD_eq_getD_getElem?] at *
  cases hi : listed[i]? with
  | none => rw [hi] at h; simp at h
  | some b => rw [hi] at h; simpa using h

theorem dep_listed {ops : Array Oper} {listed : Array Bool} (hdc : DC ops listed) {o : Nat} : ∀ (f j : Nat), (∀ oj, ops[j]? = some oj → ∀ e ∈ oj.after, Region.binds .any e = true → listed.getD e.on false = true) → dep ops f o j = true → listed.getD o false = true
  | 0, j, _, h => by simp [dep] at h
  | f + 1, j, hj, h => by
    unfold dep at h
    split at h
    · rename_i oj hoj
      simp only [List.any_eq_true, Bool.and_eq_true, Bool.or_eq_true] at h
      obtain ⟨e, he, hb, h⟩ := h
      have hl := hj oj hoj e (by simpa using he) hb
      rcases h with h | h
      · rw [← Nat.eq_of_beq_eq_true h]; exact hl
      · exact dep_listed hdc f e.on (fun oj' hoj' => hdc e.on oj' hoj' (getD_tf hl)) h
    · cases h

def edgeTo (o : Oper) (i : Nat) : Bool := o.after.toList.any fun e => Region.binds .any e && Nat.beq e.on i

/-- What is left, and what is listed. -/
structure Lst (ops : Array Oper) (pi : List Nat) (l : List (Nat × Oper)) (listed : Array Bool) : Prop where
  size : listed.size = ops.size
  op : ∀ x ∈ l, ops[x.1]? = some x.2
  un : ∀ i, i < ops.size → (listed.getD i true = false ↔ ∃ x ∈ l, x.1 = i)
  dc : DC ops listed
  pw : l.Pairwise fun y x => y.1 ≠ x.1 ∧ (dep ops 4 y.1 x.1 || swapOK ops pi y.1 y.2 x.2) = true ∧ edgeTo y.2 x.1 = false
  self : ∀ x ∈ l, edgeTo x.2 x.1 = false ∧ ∀ e ∈ x.2.after, e.on < ops.size

section
variable {P : Program} {T : Tab P} {rows : List Nat} {ops : Array Oper} {con : Nat → CK} {pi ids : List Nat} {Post : (Nat → AV) → St → Prop}

theorem lst_ready {l : List (Nat × Oper)} {listed : Array Bool} (h : Lst ops pi l listed) {i : Nat} (hi : i ∈ Region.ready .any ops listed) : ∃ x ∈ l, x.1 = i := by
  obtain ⟨h1, oj, h2, _⟩ := mem_ready.1 hi
  refine (h.un i (Array.getElem?_eq_some_iff.1 h2).1).1 ?_
  simpa using h1

theorem lst_head {x : Nat × Oper} {l : List (Nat × Oper)} {listed : Array Bool} (h : Lst ops pi (x :: l) listed) : x.1 ∈ Region.ready .any ops listed := by
  have hx := h.op x (by simp)
  have hlt := (Array.getElem?_eq_some_iff.1 hx).1
  refine mem_ready.2 ⟨by simpa using (h.un x.1 hlt).2 ⟨x, by simp, rfl⟩, x.2, hx, fun e he hb => ?_⟩
  obtain ⟨hself, hsz⟩ := h.self x (by simp)
  have hnot : listed.getD e.on true ≠ false := by
    intro hf
    obtain ⟨y, hy, hye⟩ := (h.un e.on (hsz e he)).1 hf
    have hedge : edgeTo x.2 e.on = true := by
      unfold edgeTo
      rw [List.any_eq_true]
      exact ⟨e, by simpa using he, by simp [hb, Nat.beq_refl]⟩
    rcases List.mem_cons.1 hy with rfl | hy
    · rw [hye, hedge] at hself; cases hself
    · have := (List.pairwise_cons.1 h.pw).1 y hy
      rw [hye, hedge] at this
      exact absurd this.2.2 (by simp)
  have hlt' : e.on < listed.size := by rw [h.size]; exact hsz e he
  rw [Array.getD_eq_getD_getElem?, Array.getElem?_eq_getElem hlt'] at hnot ⊢
  simp at hnot ⊢
  exact hnot

theorem lst_next {l1 l2 : List (Nat × Oper)} {x : Nat × Oper} {listed : Array Bool} (h : Lst ops pi (l1 ++ x :: l2) listed) (hr : x.1 ∈ Region.ready .any ops listed) : Lst ops pi (l1 ++ l2) (listed.setIfInBounds x.1 true) := by
  have hpw := List.pairwise_append.1 h.pw
  have hpw2 := List.pairwise_cons.1 hpw.2.1
  obtain ⟨hr1, oj, hr2, hr3⟩ := mem_ready.1 hr
  have hlt := (Array.getElem?_eq_some_iff.1 hr2).1
  have hlt' : x.1 < listed.size := by rw [h.size]; exact hlt
  have hne : ∀ y ∈ l1 ++ l2, y.1 ≠ x.1 := by
    intro y hy
    rcases List.mem_append.1 hy with hy | hy
    · exact (hpw.2.2 y hy x (by simp)).1
    · exact fun e => (hpw2.1 y hy).1 e.symm
  have hmem : ∀ y ∈ l1 ++ l2, y ∈ l1 ++ x :: l2 := by intro y hy; simp at hy ⊢; rcases hy with hy | hy <;> simp [hy]
  refine ⟨by simp [h.size], fun y hy => h.op y (hmem y hy), fun i hi => ?_, fun i oi hoi hli e he hb => ?_, ?_, fun y hy => h.self y (hmem y hy)⟩
  · by_cases hix : i = x.1
    · subst hix
      constructor
      · intro hf
        rw [Array.getD_eq_getD_getElem?, Array.getElem?_setIfInBounds_self_of_lt hlt'] at hf
        simp at hf
      · rintro ⟨y, hy, e⟩
        exact absurd e (hne y hy)
    · rw [getD_set_ne true (fun e => hix e.symm), h.un i hi]
      constructor
      · rintro ⟨y, hy, e⟩
        refine ⟨y, ?_, e⟩
        simp at hy ⊢
        rcases hy with hy | rfl | hy
        · exact .inl hy
        · exact absurd e.symm hix
        · exact .inr hy
      · rintro ⟨y, hy, e⟩; exact ⟨y, hmem y hy, e⟩
  · refine getD_set_true ?_
    by_cases hix : i = x.1
    · subst hix
      rw [hr2] at hoi
      cases hoi
      exact hr3 e he hb
    · rw [getD_set_ne true (fun e => hix e.symm)] at hli
      exact h.dc i oi hoi hli e he hb
  · exact List.pairwise_append.2 ⟨hpw.1, hpw2.2, fun y hy z hz => hpw.2.2 y hy z (by simp [hz])⟩

theorem QR.any {m : Fr} (hok : ops.all (fun o => gdOK m.n ops o && dstOK m.n o.dst) = true) {Q : Exit → Act → World → Prop} : ∀ (fuel : Nat) (l : List (Nat × Oper)) (listed : Array Bool) (a : Nat → AV) (S : St) (H : Nat → Prop), l.length ≤ fuel → Lst ops pi l listed → QR T rows ops con pi ids Post l a S H →
    ∀ (F : Nat → Prop) (φ : Nat → Nat) (w : World) (ac : Act), Good F φ S w m a ac → (∀ x, H x → x < w.heap.size) →
      (∀ a' S' F' φ' w' ac', Post a' S' → Good F' φ' S' w' m a' ac' → EvoB m.B F φ S w φ' S' w' → Gro F w F' → Q .normal ac' w') → wpAny P .any ops Q fuel listed ac w := by
  have done : ∀ (listed : Array Bool) (a : Nat → AV) (S : St) (H : Nat → Prop), QR T rows ops con pi ids Post [] a S H → ∀ (F : Nat → Prop) (φ : Nat → Nat) (w : World) (ac : Act), Good F φ S w m a ac →
      (∀ a' S' F' φ' w' ac', Post a' S' → Good F' φ' S' w' m a' ac' → EvoB m.B F φ S w φ' S' w' → Gro F w F' → Q .normal ac' w') → Q .normal ac w := by
    intro listed a S H h F φ w ac hg hq
    cases h with
    | nil h => exact hq a S F φ w ac h hg ((Evo.refl _ _ _).toB _ _) (Gro.refl _ _)
  intro fuel
  induction fuel with
  | zero =>
    intro l listed a S H hl hlst h F φ w ac hg hH hq
    have : l = [] := List.length_eq_zero_iff.1 (by omega)
    subst this
    refine ⟨?_, done listed a S H h F φ w ac hg hq⟩
    rw [List.eq_nil_iff_forall_not_mem]
    intro i hi
    obtain ⟨x, hx, _⟩ := lst_ready hlst hi
    cases hx
  | succ fuel ih =>
    intro l listed a S H hl hlst h F φ w ac hg hH hq
    refine ⟨fun hr => ?_, fun i hi => ?_⟩
    · cases l with
      | nil => exact done listed a S H h F φ w ac hg hq
      | cons x l => have := lst_head hlst; rw [hr] at this; cases this
    · obtain ⟨x, hx, rfl⟩ := lst_ready hlst hi
      obtain ⟨l1, l2, rfl⟩ := List.append_of_mem hx
      obtain ⟨j, oj⟩ := x
      have hsw : ∀ y ∈ l1, swapOK ops pi y.1 y.2 oj = true := by
        intro y hy
        have hp := (List.pairwise_append.1 hlst.pw).2.2 y hy (j, oj) (by simp)
        have hp2 := hp.2.1
        rw [Bool.or_eq_true] at hp2
        rcases hp2 with hd | hs
        · exfalso
          obtain ⟨hr1, oj', hr2, hr3⟩ := mem_ready.1 hi
          have hyl := dep_listed hlst.dc 4 j (fun o ho => by rw [hr2] at ho; cases ho; exact hr3) hd
          have hyop := hlst.op y (by simp [hy])
          have := (hlst.un y.1 (Array.getElem?_eq_some_iff.1 hyop).1).2 ⟨y, by simp [hy], rfl⟩
          rw [getD_tf hyl] at this
          cases this
        · exact hs
      have hfr := QR.front h hsw
      have hnext := lst_next hlst hi
      have hop := hlst.op (j, oj) (by simp)
      have hok' : (gdOK m.n ops oj && dstOK m.n oj.dst) = true := Array.all_eq_true_iff_forall_mem.1 hok oj (Array.mem_of_getElem? hop)
      have hlen : (l1 ++ l2).length ≤ fuel := by simp at hl ⊢; omega
      generalize hll : (j, oj) :: (l1 ++ l2) = ll at hfr
      cases hfr with
      | nil => cases hll
      | one k1 _ k2 =>
        cases hll
        refine k1.wp hop hok' hg fun a' S' F' φ' w' ac' ⟨e1, e2⟩ h1 h2 h3 => ?_
        subst e1 e2
        exact ih _ _ _ _ H hlen hnext k2 F' φ' w' ac' h1 (fun x hx => Nat.lt_of_lt_of_le (hH x hx) h2.hsize) fun a'' S'' F'' φ'' w'' ac'' q1 q2 q3 q4 => hq a'' S'' F'' φ'' w'' ac'' q1 q2 ((h2.toB m.B F).trans h3 q3) (h3.trans q4 h2.hsize)
      | new k1 k2 =>
        cases hll
        refine k1.wp hop hok' hg fun a' S' F' φ' w' ac' ⟨e1, e2⟩ h1 h2 h3 => ?_
        subst e1 e2
        exact ih _ _ _ _ H hlen hnext k2 F' φ' w' ac' h1 (fun x hx => Nat.lt_of_lt_of_le (hH x hx) h2.hsize) fun a'' S'' F'' φ'' w'' ac'' q1 q2 q3 q4 => hq a'' S'' F'' φ'' w'' ac'' q1 q2 ((h2.toB m.B F).trans h3 q3) (h3.trans q4 h2.hsize)
      | set k1 _ k2 =>
        cases hll
        refine k1.wp hop hok' hg fun a' S' F' φ' w' ac' ⟨e1, e2⟩ h1 h2 h3 => ?_
        subst e1 e2
        exact ih _ _ _ _ H hlen hnext k2 F' φ' w' ac' h1 (fun x hx => Nat.lt_of_lt_of_le (hH x hx) h2.hsize) fun a'' S'' F'' φ'' w'' ac'' q1 q2 q3 q4 => hq a'' S'' F'' φ'' w'' ac'' q1 q2 ((h2.toB m.B F).trans h3 q3) (h3.trans q4 h2.hsize)
      | all k1 k2 =>
        cases hll
        refine k1.wp hop hok' hg fun a' S' F' φ' w' ac' hnx h1 h2 h3 => ?_
        obtain ⟨r, hqr, hos, e1, e2⟩ := hnx
        subst e1 e2
        refine ih _ _ _ _ _ hlen hnext (k2 r hqr fun x hx hh => ?_) F' φ' w' ac' h1 (fun x hx => ?_) fun a'' S'' F'' φ'' w'' ac'' q1 q2 q3 q4 => hq a'' S'' F'' φ'' w'' ac'' q1 q2 ((h2.toB m.B F).trans h3 q3) (h3.trans q4 h2.hsize)
        · have := (hos x hx).1; have := hH x hh; omega
        · rcases hx with hx | hx
          · exact Nat.lt_of_lt_of_le (hH x hx) h2.hsize
          · exact (hos x hx).2
end

/-! The checks. -/
def pairsOK (ops : Array Oper) (pi : List Nat) : List (Nat × Oper) → Bool
  | [] => true
  | y :: l => l.all (fun x => !Nat.beq y.1 x.1 && (dep ops 4 y.1 x.1 || swapOK ops pi y.1 y.2 x.2) && !edgeTo y.2 x.1) && pairsOK ops pi l

def pick (ops : Array Oper) (order : List Nat) : List (Nat × Oper) := order.filterMap fun i => (ops[i]?).map fun o => (i, o)

def chk (m : Nat) (ops : Array Oper) (pi order : List Nat) : Bool :=
  ops.all (fun o => gdOK m ops o && dstOK m o.dst) && Nat.beq order.length ops.size && (List.range ops.size).all (fun i => order.contains i) && pairsOK ops pi (pick ops order) &&
    (pick ops order).all fun x => !edgeTo x.2 x.1 && x.2.after.all fun e => Nat.blt e.on ops.size

theorem pairsOK_pw {ops : Array Oper} {pi : List Nat} : ∀ {l : List (Nat × Oper)}, pairsOK ops pi l = true → l.Pairwise fun y x => y.1 ≠ x.1 ∧ (dep ops 4 y.1 x.1 || swapOK ops pi y.1 y.2 x.2) = true ∧ edgeTo y.2 x.1 = false
  | [], _ => .nil
  | y :: l, h => by
    simp only [pairsOK, Bool.and_eq_true, List.all_eq_true] at h
    refine .cons (fun x hx => ?_) (pairsOK_pw h.2)
    obtain ⟨⟨h1, h2⟩, h3⟩ := h.1 x hx
    refine ⟨fun e => ?_, h2, by simpa using h3⟩
    rw [e, Nat.beq_refl] at h1
    cases h1

theorem chk_lst {m : Nat} {ops : Array Oper} {pi order : List Nat} (h : chk m ops pi order = true) : Lst ops pi (pick ops order) (Array.replicate ops.size false) ∧ (pick ops order).length ≤ ops.size := by
  simp only [chk, Bool.and_eq_true] at h
  obtain ⟨⟨⟨⟨_, h1⟩, h2⟩, h3⟩, h4⟩ := h
  rw [List.all_eq_true] at h2 h4
  refine ⟨⟨by simp, fun x hx => ?_, fun i hi => ?_, fun i oi hoi hf => ?_, pairsOK_pw h3, fun x hx => ?_⟩, ?_⟩
  · simp only [pick, List.mem_filterMap, Option.map_eq_some_iff] at hx
    obtain ⟨i, hi, o, ho, rfl⟩ := hx
    exact ho
  · constructor
    · intro _
      have := h2 i (by simpa using hi)
      refine ⟨(i, ops[i]), ?_, rfl⟩
      simp only [pick, List.mem_filterMap]
      exact ⟨i, by simpa using this, by simp [hi]⟩
    · intro _
      rw [Array.getD_eq_getD_getElem?]
      simp [hi]
  · have hlt := (Array.getElem?_eq_some_iff.1 hoi).1
    rw [Array.getD_eq_getD_getElem?] at hf
    simp [hlt] at hf
  · have := h4 x hx
    simp only [Bool.and_eq_true] at this
    refine ⟨by simpa using this.1, fun e he => ?_⟩
    have := Array.all_eq_true_iff_forall_mem.1 this.2 e he
    exact Nat.le_of_ble_eq_true this
  · have := Nat.eq_of_beq_eq_true h1
    rw [← this]
    exact List.length_filterMap_le _ _

theorem Evo.drawn (φ : Nat → Nat) (S : St) (w : World) (n : Nat) : Evo φ S w φ S { w with drawn := n } :=
  ⟨rfl, rfl, rfl, Nat.le_refl _, Nat.le_refl _, fun _ _ _ => rfl, fun _ C ty fr h => ⟨C, ty, fr, h, rfl⟩, fun _ _ h => h, fun _ o _ h => ⟨o, h, rfl, rfl, Nat.le_refl _, fun _ => rfl⟩⟩

theorem Good.drawn {F : Nat → Prop} {φ : Nat → Nat} {S : St} {w : World} {m : Fr} {a : Nat → AV} {ac : Act} (h : Good F φ S w m a ac) (n : Nat) : Good F φ S { w with drawn := n } m a ac :=
  ⟨⟨h.sim.fl, h.sim.nf, h.sim.inj, fun i o ho hne => by
    obtain ⟨C, h1, h2, h3⟩ := h.sim.obj i o ho hne
    refine ⟨C, h1, h2, fun j k hj => ⟨(h3 j k hj).1, fun hk => ?_⟩⟩
    obtain ⟨v, e1, e2, e3⟩ := (h3 j k hj).2 hk
    exact ⟨v, e1, e2, e3.evo (Evo.drawn φ S w n)⟩⟩, h.defers, h.size, h.slots.evo (Evo.drawn φ S w n), h.bd⟩

/-- A region whose order is drawn. -/
theorem SC.drawn {P : Program} (T : Tab P) (rows : List Nat) (con : Nat → CK) (pi ids order : List Nat) {m : Fr} {id : Nat} {ops : Array Oper} {a : Nat → AV} {S : St} {Post : Exit → (Nat → AV) → St → Prop} (n : Nat) (hn : Nat.beq m.n n = true) (hm : P.follows .mixedOrders = true) (hc : chk n ops pi order = true)
    (h : QR T rows ops con pi ids (Post .normal) (pick ops order) a S (fun x => Hid a S x ∨ m.B x)) : SC P m (.region id ops true) a S Post := by
  intro F φ w ac Q hg hq
  refine wp_region_any hm ?_
  have hn := Nat.eq_of_beq_eq_true hn
  subst hn
  obtain ⟨h1, h2⟩ := chk_lst hc
  simp only [chk, Bool.and_eq_true] at hc
  have hg' := hg.drawn (w.drawn + 1)
  exact QR.any hc.1.1.1.1 ops.size _ _ a S _ h2 h1 h F φ _ ac hg' (fun x hx => hx.elim (fun h => hg'.hid h) (hg'.bd x)) fun a' S' F' φ' w' ac' q1 q2 q3 q4 => hq .normal a' S' F' φ' w' ac' q1 q2 (((Evo.drawn φ S w _).toB _ _).trans (Gro.refl _ _) q3) ((Gro.refl F w).trans q4 (Nat.le_refl _))
end Go.Fw
