import Derived.Test.YthholadaflfpcaaP11
namespace Go.Proofs.Ythholadaflfpcaa
open Go Go.Fw
/-! Sums of weights by row. -/
theorem cmpL_eq {a : List Int} : ∀ {b : List Int}, cmpL a b = 0 ↔ a = b := by
  induction a with
  | nil => intro b; cases b <;> simp [cmpL]
  | cons x a ih =>
    intro b
    cases b with
    | nil => simp [cmpL]
    | cons y b =>
      simp only [cmpL, List.cons.injEq]
      have := @ih b
      (repeat' split) <;> first | (constructor <;> intro h <;> omega) | (rw [this]; constructor <;> intro h <;> first | exact ⟨by omega, h⟩ | exact h.2)
theorem cmpL_neg {a : List Int} : ∀ {b : List Int}, cmpL a b = - cmpL b a := by
  induction a with
  | nil => intro b; cases b <;> simp [cmpL]
  | cons x a ih =>
    intro b
    cases b with
    | nil => simp [cmpL]
    | cons y b =>
      simp only [cmpL]
      have := @ih b
      (repeat' split) <;> omega
theorem cmpL_tr {a b c : List Int} (h1 : cmpL a b < 0) (h2 : cmpL b c < 0) : cmpL a c < 0 := cmpL_ord.le_lt (cmpL_ord.le h1) h2
theorem cmpL_irr {a b : List Int} (h : cmpL a b < 0) : a ≠ b := fun e => by rw [cmpL_eq.2 e] at h; omega
def wtI (r : List Int) : List Wt → Int
  | [] => 0
  | x :: l => (if x.1 = r then x.2 else 0) + wtI r l
def AscW (l : List Wt) : Prop := l.Pairwise fun a b => cmpL a.1 b.1 < 0
def NzW (l : List Wt) : Prop := ∀ x ∈ l, x.2 ≠ 0
theorem putW_mem {l : List Wt} {r : List Int} {w : Int} {x : Wt} (h : x ∈ putW l r w) : x.1 = r ∨ ∃ y ∈ l, y.1 = x.1 := by
  induction l with
  | nil => simp only [putW] at h; split at h <;> simp_all
  | cons y l ih =>
    simp only [putW] at h
    split at h
    · rcases List.mem_cons.1 h with rfl | h
      · exact .inr ⟨x, by simp, rfl⟩
      · rcases ih h with h | ⟨z, h1, h2⟩
        · exact .inl h
        · exact .inr ⟨z, by simp [h1], h2⟩
    · split at h
      · split at h
        · exact .inr ⟨x, by simp [h], rfl⟩
        · rcases List.mem_cons.1 h with rfl | h
          · exact .inl rfl
          · exact .inr ⟨x, by simp [h], rfl⟩
      · split at h
        · exact .inr ⟨x, h, rfl⟩
        · rcases List.mem_cons.1 h with rfl | h
          · exact .inl rfl
          · exact .inr ⟨x, h, rfl⟩
theorem putW_asc {l : List Wt} {r : List Int} {w : Int} (h : AscW l) : AscW (putW l r w) := by
  induction l with
  | nil => simp only [putW]; split <;> simp [AscW]
  | cons y l ih =>
    have h' := List.pairwise_cons.1 h
    simp only [putW]
    split
    · rename_i hy
      refine List.pairwise_cons.2 ⟨fun x hx => ?_, ih h'.2⟩
      rcases putW_mem hx with h1 | ⟨z, h1, h2⟩
      · rw [h1]; exact hy
      · rw [← h2]; exact h'.1 z h1
    · rename_i hy
      split
      · rename_i he
        split
        · exact h'.2
        · refine List.pairwise_cons.2 ⟨fun x hx => ?_, h'.2⟩
          rw [← cmpL_eq.1 he]; exact h'.1 x hx
      · rename_i hne
        have hr : cmpL r y.1 < 0 := by rw [cmpL_neg]; omega
        split
        · exact h
        · refine List.pairwise_cons.2 ⟨fun x hx => ?_, h⟩
          rcases List.mem_cons.1 hx with rfl | hx
          · exact hr
          · exact cmpL_tr hr (h'.1 x hx)
theorem putW_nz {l : List Wt} {r : List Int} {w : Int} (h : NzW l) : NzW (putW l r w) := by
  induction l with
  | nil => simp only [putW]; split <;> simp_all [NzW]
  | cons y l ih =>
    have h1 : y.2 ≠ 0 := h y (by simp)
    have h2 : NzW l := fun x hx => h x (by simp [hx])
    have key : ∀ (p : Wt) (m : List Wt), p.2 ≠ 0 → NzW m → NzW (p :: m) := fun p m hp hm x hx => (List.mem_cons.1 hx).elim (fun e => e ▸ hp) (hm x)
    simp only [putW]
    (repeat' split) <;> first | exact key _ _ h1 (ih h2) | exact h2 | exact h | (apply key _ _ _ h2; assumption) | (apply key _ _ _ h; assumption)
theorem putW_wt {l : List Wt} {r q : List Int} {w : Int} : wtI q (putW l r w) = wtI q l + (if r = q then w else 0) := by
  induction l with
  | nil => simp only [putW]; split <;> simp_all [wtI]
  | cons y l ih =>
    simp only [putW]
    split
    · simp only [wtI, ih]; omega
    · split
      · rename_i he
        have he := cmpL_eq.1 he
        split
        · rename_i hs
          simp only [wtI, he]; split <;> omega
        · simp only [wtI, he]; split <;> omega
      · split
        · rename_i hw; simp only [hw]; split <;> omega
        · simp only [wtI]; omega
theorem wtI_zero {l : List Wt} {r : List Int} (h : ∀ x ∈ l, cmpL r x.1 < 0) : wtI r l = 0 := by
  induction l with
  | nil => rfl
  | cons x l ih =>
    simp only [wtI]
    rw [if_neg (fun e => cmpL_irr (h x (by simp)) e.symm), ih (fun y hy => h y (by simp [hy]))]; rfl
theorem asc_ext {l : List Wt} : ∀ {m : List Wt}, AscW l → AscW m → NzW l → NzW m → (∀ q, wtI q l = wtI q m) → l = m := by
  induction l with
  | nil =>
    intro m _ h2 _ h4 h5
    cases m with
    | nil => rfl
    | cons y m =>
      have := h5 y.1
      simp only [wtI, if_true, wtI_zero (List.pairwise_cons.1 h2).1] at this
      exact absurd (by omega : y.2 = 0) (h4 y (by simp))
  | cons x l ih =>
    intro m h1 h2 h3 h4 h5
    have p1 := List.pairwise_cons.1 h1
    have hx : wtI x.1 (x :: l) = x.2 := by simp only [wtI, if_true, wtI_zero p1.1]; omega
    cases m with
    | nil =>
      have := h5 x.1
      rw [hx] at this
      exact absurd (by simpa [wtI] using this : x.2 = 0) (h3 x (by simp))
    | cons y m =>
      have p2 := List.pairwise_cons.1 h2
      have hy : wtI y.1 (y :: m) = y.2 := by simp only [wtI, if_true, wtI_zero p2.1]; omega
      have hc1 : ¬ cmpL x.1 y.1 < 0 := fun hc => by
        have := h5 x.1
        rw [hx, wtI_zero (fun z hz => (List.mem_cons.1 hz).elim (fun e => e ▸ hc) fun hz => cmpL_tr hc (p2.1 z hz))] at this
        exact h3 x (by simp) this
      have hc2 : ¬ cmpL y.1 x.1 < 0 := fun hc => by
        have := h5 y.1
        rw [hy, wtI_zero (fun z hz => (List.mem_cons.1 hz).elim (fun e => e ▸ hc) fun hz => cmpL_tr hc (p1.1 z hz))] at this
        exact h4 y (by simp) this.symm
      have he : x.1 = y.1 := cmpL_eq.1 (by have := @cmpL_neg x.1 y.1; omega)
      have hw : x.2 = y.2 := by have := h5 x.1; rw [hx, he, hy] at this; exact this
      have hxy : x = y := Prod.ext he hw
      subst hxy
      rw [ih p1.2 p2.2 (fun z hz => h3 z (by simp [hz])) (fun z hz => h4 z (by simp [hz])) fun q => by
        have := h5 q
        simp only [wtI] at this
        omega]
def sumWs (l : List Wt) : List Wt := l.foldl (fun acc w => putW acc w.1 w.2) []
theorem foldW_ok (l : List Wt) : ∀ (acc : List Wt), AscW acc → NzW acc → AscW (l.foldl (fun acc w => putW acc w.1 w.2) acc) ∧ NzW (l.foldl (fun acc w => putW acc w.1 w.2) acc) ∧ ∀ q, wtI q (l.foldl (fun acc w => putW acc w.1 w.2) acc) = wtI q acc + wtI q l := by
  induction l with
  | nil => intro acc h1 h2; exact ⟨h1, h2, fun q => by simp [wtI]⟩
  | cons x l ih =>
    intro acc h1 h2
    obtain ⟨k1, k2, k3⟩ := ih (putW acc x.1 x.2) (putW_asc h1) (putW_nz h2)
    exact ⟨k1, k2, fun q => by rw [List.foldl_cons, k3, putW_wt]; simp only [wtI]; omega⟩
theorem sumWs_ok (l : List Wt) : AscW (sumWs l) ∧ NzW (sumWs l) ∧ ∀ q, wtI q (sumWs l) = wtI q l := by
  obtain ⟨h1, h2, h3⟩ := foldW_ok l [] .nil (fun x hx => by cases hx)
  exact ⟨h1, h2, fun q => by rw [sumWs, h3]; simp [wtI]⟩
theorem wtI_perm {l m : List Wt} (h : l.Perm m) (q : List Int) : wtI q l = wtI q m := by
  induction h with
  | nil => rfl
  | cons x _ ih => simp only [wtI, ih]
  | swap x y l => simp only [wtI]; omega
  | trans _ _ ih1 ih2 => rw [ih1, ih2]
theorem sumWs_perm {l m : List Wt} (h : l.Perm m) : sumWs l = sumWs m := by
  obtain ⟨h1, h2, h3⟩ := sumWs_ok l
  obtain ⟨k1, k2, k3⟩ := sumWs_ok m
  exact asc_ext h1 k1 h2 k2 fun q => by rw [h3, k3, wtI_perm h q]
theorem sumWs_snoc (l : List Wt) (x : Wt) : sumWs (l ++ [x]) = putW (sumWs l) x.1 x.2 := by simp [sumWs]
theorem sumWs_succ {l : List Wt} {i : Nat} (h : i < l.length) : sumWs (l.take (i + 1)) = putW (sumWs (l.take i)) (l.getD i ([], 0)).1 (l.getD i ([], 0)).2 := by
  rw [List.take_succ_eq_append_getElem h, sumWs_snoc]
  simp [List.getD_eq_getElem?_getD, h]
theorem sumWs_mem {l : List Wt} {x : Wt} (h : x ∈ sumWs l) : ∃ y ∈ l, y.1 = x.1 := by
  have : ∀ (l acc : List Wt), x ∈ l.foldl (fun acc w => putW acc w.1 w.2) acc → (∃ y ∈ acc, y.1 = x.1) ∨ ∃ y ∈ l, y.1 = x.1 := by
    intro l
    induction l with
    | nil => intro acc h; exact .inl ⟨x, h, rfl⟩
    | cons y l ih =>
      intro acc h
      rcases ih _ h with ⟨z, h1, h2⟩ | ⟨z, h1, h2⟩
      · rcases putW_mem h1 with h3 | ⟨u, h3, h4⟩
        · exact .inr ⟨y, by simp, by rw [← h2, h3]⟩
        · exact .inl ⟨u, h3, h4.trans h2⟩
      · exact .inr ⟨z, by simp [h1], h2⟩
  rcases this l [] h with ⟨y, h1, _⟩ | h
  · cases h1
  · exact h
theorem putW_end {l : List Wt} {r : List Int} {w : Int} (h : ∀ x ∈ l, cmpL x.1 r < 0) (s : Int) : putW (l ++ if s = 0 then [] else [(r, s)]) r w = l ++ if w + s = 0 then [] else [(r, w + s)] := by
  induction l with
  | nil =>
    have hr : cmpL r r = 0 := cmpL_eq.2 rfl
    simp only [List.nil_append]
    by_cases h0 : s = 0
    · simp [h0, putW]
    · rw [if_neg h0]
      simp only [putW, hr]
      simp
  | cons x l ih =>
    rw [List.cons_append]
    simp only [putW]
    rw [if_pos (h x (by simp)), ih (fun y hy => h y (by simp [hy]))]
    rfl
theorem absW_put {l : List Wt} {r : List Int} {w : Int} : absW (putW l r w) ≤ absW l + w.natAbs := by
  unfold absW
  induction l with
  | nil => simp only [putW]; split <;> simp [sumL]
  | cons x l ih =>
    simp only [putW]
    (repeat' split) <;> simp only [sumL] <;> omega
theorem putW_len {l : List Wt} {r : List Int} {w : Int} : (putW l r w).length ≤ l.length + 1 := by
  induction l with
  | nil => simp only [putW]; split <;> simp
  | cons x l ih =>
    simp only [putW]
    (repeat' split) <;> simp only [List.length_cons] <;> omega
theorem absW_take (l : List Wt) (i : Nat) : absW (sumWs (l.take i)) ≤ absW (l.take i) ∧ (sumWs (l.take i)).length ≤ i := by
  induction i with
  | zero => exact ⟨Nat.zero_le _, Nat.le_refl _⟩
  | succ i ih =>
    by_cases h : i < l.length
    · rw [sumWs_succ h]
      have h1 := @absW_put (sumWs (l.take i)) (l.getD i ([], 0)).1 (l.getD i ([], 0)).2
      have h2 := @putW_len (sumWs (l.take i)) (l.getD i ([], 0)).1 (l.getD i ([], 0)).2
      have h3 : absW (l.take (i + 1)) = absW (l.take i) + (l.getD i ([], 0)).2.natAbs := by
        rw [List.take_succ_eq_append_getElem h]
        unfold absW
        have : ∀ (a b : List Wt), sumL (fun w : Wt => w.2.natAbs) (a ++ b) = sumL (fun w : Wt => w.2.natAbs) a + sumL (fun w : Wt => w.2.natAbs) b := by
          intro a b; induction a with
          | nil => simp [sumL]
          | cons x a ih => simp only [List.cons_append, sumL, ih]; omega
        rw [this]
        simp [sumL, List.getD_eq_getElem?_getD, h]
      omega
    · rw [List.take_of_length_le (by omega)]
      rw [List.take_of_length_le (by omega)] at ih
      omega
end Go.Proofs.Ythholadaflfpcaa
