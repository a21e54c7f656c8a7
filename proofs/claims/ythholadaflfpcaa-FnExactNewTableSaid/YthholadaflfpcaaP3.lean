import Derived.Test.YthholadaflfpcaaP2
namespace Go.Proofs.Ythholadaflfpcaa
open Go Go.Fw
theorem toIntS_mf (a : List Int) (h1 : a.length ≤ 1048576) : MF Try.prog 108 [ints a] (ints a) := by
  refine MF.text Try.func108 rfl rfl rfl fun B => ?_
  refine SC.len 0 rfl fun hlen0 => ?_
  refine SC.seq ?_
  refine SC.region ?_
  refine RG.go tab 1 [] rfl ?_
  refine RG.nil ?_
  refine SC.seq ?_
  refine SC.region ?_
  refine RG.go tab 2 [] rfl ?_
  refine RG.make0 tab rI 0 rfl rfl rfl rfl rfl rfl rfl (by show a.length * 8 ≤ _; omega) ?_
  refine RG.go tab 1 [] rfl ?_
  refine RG.nil ?_
  refine SC.seq ?_
  refine SC.seq ?_
  refine SC.region ?_
  refine RG.go tab 1 [] rfl ?_
  refine RG.nil ?_
  refine SC.block ?_
  refine SC.loop2 (fun (i : Nat) (xs : List Int) => a.length - i) (fun (i : Nat) (xs : List Int) => i ≤ a.length ∧ xs.length = a.length ∧ ∀ j, j < i → xs.getD j 0 = a.getD j 0) (fun (i : Nat) (xs : List Int) => [(0, ints a), (3, .sl 0 a.length), (4, .int .i64 ((i : Nat) : Int))]) (fun (i : Nat) (xs : List Int) => [some ⟨3, 1, (xs).map rI⟩]) 0 (List.replicate a.length 0) ⟨Nat.zero_le _, by simp, fun j hj => absurd hj (Nat.not_lt_zero _)⟩ (Drop.mask [true] (rfl) ⟨Sc.rows fun _ => ⟨rfl, rfl⟩, trivial⟩) ⟨rfl, rfl, rfl, rfl, rfl, rfl, trivial⟩ (fun _ _ => Nat.le_of_ble_eq_true rfl) fun i xs hI0 => ?_
  obtain ⟨hi, hxs, hI⟩ := hI0
  refine SC.seq ?_
  refine SC.seq ?_
  refine SC.region ?_
  refine RG.go tab 4 [] rfl ?_
  refine RG.nil ?_
  refine SC.cond rfl (fun hb1 => ?_) (fun hb1 => ?_)
  · try simp only [decide_eq_true_eq] at hb1
    refine SC.skip ?_
    refine SC.seq ?_
    refine SC.block ?_
    refine SC.region ?_
    refine RG.ask tab 7 [] rfl (by (repeat' refine And.intro ?_ ?_) <;> first | rfl | omega | (unfold in64; omega) | (simp; done) | (simp; omega) | (simp at *; omega)) ?_
    refine RG.str tab 0 (a.getD i 0) rfl rfl rfl rfl rfl rfl hxs (by omega) rfl rfl rfl rfl rfl ?_
    refine RG.nil ?_
    refine SC.region ?_
    refine RG.ask tab 3 [] rfl (by (repeat' refine And.intro ?_ ?_) <;> first | rfl | omega | (unfold in64; omega) | (simp; done) | (simp; omega) | (simp at *; omega)) ?_
    refine RG.nil ?_
    refine ⟨i + 1, xs.set i (a.getD i 0), (by omega), ⟨by omega, by simp [hxs], fun j hj => by rw [getD_set 0 (by omega)]; split <;> rename_i hj2 <;> first | (rw [hj2]; done) | exact hI j (by omega)⟩, Drop.mask [true] (rfl) ⟨Sc.rows fun _ => ⟨rfl, rfl⟩, trivial⟩, rfl, rfl, rfl, rfl, rfl, rfl, trivial⟩
  · try simp only [decide_eq_false_iff_not, Int.not_lt] at hb1
    refine SC.exit ?_
    refine SC.seq ?_
    refine SC.region ?_
    refine RG.go tab 2 [] rfl ?_
    refine RG.nil ?_
    refine SC.ret (End.ret tab rfl ?_)
    have : xs = a := list_ext_getD 0 hxs fun j hj => hI j (by omega)
    subst this
    obtain ⟨D, hso⟩ := SO.rowsI (S := [some ⟨3, 1, xs.map rI⟩]) (id := 0) rfl rfl
    exact ⟨_, _, .one (.one hso)⟩
theorem toRow_mf (a : List Int) (h1 : a.length ≤ 1048576) : MF Try.prog 76 [.agg [ints a]] (.agg [ints a]) := by
  refine MF.text Try.func76 rfl rfl rfl fun B => ?_
  refine SC.lenA 0 0 rfl (Nat.le_of_ble_eq_true rfl) rfl fun hlen0_0 => ?_
  refine SC.seq ?_
  refine SC.region ?_
  refine RG.go tab 2 [] rfl ?_
  refine RG.nil ?_
  refine SC.seq ?_
  refine SC.region ?_
  refine RG.go tab 1 [] rfl ?_
  refine RG.nil ?_
  refine SC.seq ?_
  refine SC.region ?_
  refine RG.go tab 2 [] rfl ?_
  refine RG.mf rfl rfl (toIntS_mf a (by first | assumption | omega | (simp only [sumL_fillWs, sumL_fillGs]; omega) | (simp; omega) | simp_all)) ⟨.same rfl, trivial⟩ fun r0 hr0 hfr0 => ?_
  have hc0 := hr0.cells1
  obtain ⟨I0, rfl⟩ := hr0.isl
  have free_I0 : ∀ x, I0.bl x → ¬ B x := fun x hx => (hfr0 x (.own hx)).2
  refine RG.go tab 2 [] rfl ?_
  refine RG.nil ?_
  refine SC.seq ?_
  refine SC.region ?_
  refine RG.go tab 2 [] rfl ?_
  refine RG.nil ?_
  refine SC.ret (End.ret tab rfl ?_)
  exact ⟨_, _, .one (.agg (.cons .own .nil (by intro x h1 h2; first | exact h1.elim | (simp at h1 h2; done) | (simp at h2; done)) (by intro x h1 h2; first | exact h1.elim | (simp at h1 h2; done) | (simp at h2; done))))⟩
theorem toWeighted_mf (a : List Int × Int) (h1 : a.1.length ≤ 1048576) : MF Try.prog 36 [.agg [ints a.1, .int .i64 a.2]] (.agg [ints a.1, .int .i64 a.2]) := by
  refine MF.text Try.func36 rfl rfl rfl fun B => ?_
  refine SC.lenA 0 0 rfl (Nat.le_of_ble_eq_true rfl) rfl fun hlen0_0 => ?_
  refine SC.seq ?_
  refine SC.region ?_
  refine RG.go tab 2 [] rfl ?_
  refine RG.nil ?_
  refine SC.seq ?_
  refine SC.region ?_
  refine RG.go tab 1 [] rfl ?_
  refine RG.nil ?_
  refine SC.seq ?_
  refine SC.region ?_
  refine RG.go tab 2 [] rfl ?_
  refine RG.mf rfl rfl (toRow_mf a.1 (by first | assumption | omega | (simp only [sumL_fillWs, sumL_fillGs]; omega) | (simp; omega) | simp_all)) ⟨.same rfl, trivial⟩ fun r0 hr0 hfr0 => ?_
  obtain ⟨rs0, rfl, hl0⟩ := hr0.agg
  have hc0 := hl0.cells
  obtain ⟨cI0a, rs0t, rfl, mI0a, dI0a, hl0t⟩ := hl0.cons
  obtain ⟨I0a, rfl⟩ := Made0.isl mI0a
  obtain rfl := MadeL.nil0 hl0t
  have free_I0a : ∀ x, I0a.bl x → ¬ B x := fun x hx => (hfr0 x (.agg (j := 0) (Nat.le_of_ble_eq_true rfl) (.own hx))).2
  refine RG.go tab 2 [] rfl ?_
  refine RG.nil ?_
  refine SC.seq ?_
  refine SC.region ?_
  refine RG.go tab 4 [] rfl ?_
  refine RG.nil ?_
  refine SC.seq ?_
  refine SC.region ?_
  refine RG.go tab 2 [] rfl ?_
  refine RG.nil ?_
  refine SC.ret (End.ret tab rfl ?_)
  exact ⟨_, _, .one (.agg (.cons .own (.cons (.scal rfl) .nil (by intro x h1 h2; first | exact h1.elim | (simp at h1 h2; done) | (simp at h2; done)) (by intro x h1 h2; first | exact h1.elim | (simp at h1 h2; done) | (simp at h2; done))) (by intro x h1 h2; first | exact h1.elim | (simp at h1 h2; done) | (simp at h2; done)) (by intro x h1 h2; first | exact h1.elim | (simp at h1 h2; done) | (simp at h2; done))))⟩
theorem toGroup_mf (a : List Int × Int × Int) (h1 : a.1.length ≤ 1048576) : MF Try.prog 51 [.agg [ints a.1, .int .i64 a.2.1, .int .i64 a.2.2]] (.agg [ints a.1, .int .i64 a.2.1, .int .i64 a.2.2]) := by
  refine MF.text Try.func51 rfl rfl rfl fun B => ?_
  refine SC.lenA 0 0 rfl (Nat.le_of_ble_eq_true rfl) rfl fun hlen0_0 => ?_
  refine SC.seq ?_
  refine SC.region ?_
  refine RG.go tab 2 [] rfl ?_
  refine RG.nil ?_
  refine SC.seq ?_
  refine SC.region ?_
  refine RG.go tab 1 [] rfl ?_
  refine RG.nil ?_
  refine SC.seq ?_
  refine SC.region ?_
  refine RG.go tab 2 [] rfl ?_
  refine RG.mf rfl rfl (toRow_mf a.1 (by first | assumption | omega | (simp only [sumL_fillWs, sumL_fillGs]; omega) | (simp; omega) | simp_all)) ⟨.same rfl, trivial⟩ fun r0 hr0 hfr0 => ?_
  obtain ⟨rs0, rfl, hl0⟩ := hr0.agg
  have hc0 := hl0.cells
  obtain ⟨cI0a, rs0t, rfl, mI0a, dI0a, hl0t⟩ := hl0.cons
  obtain ⟨I0a, rfl⟩ := Made0.isl mI0a
  obtain rfl := MadeL.nil0 hl0t
  have free_I0a : ∀ x, I0a.bl x → ¬ B x := fun x hx => (hfr0 x (.agg (j := 0) (Nat.le_of_ble_eq_true rfl) (.own hx))).2
  refine RG.go tab 2 [] rfl ?_
  refine RG.nil ?_
  refine SC.seq ?_
  refine SC.region ?_
  refine RG.go tab 4 [] rfl ?_
  refine RG.nil ?_
  refine SC.seq ?_
  refine SC.region ?_
  refine RG.go tab 4 [] rfl ?_
  refine RG.nil ?_
  refine SC.seq ?_
  refine SC.region ?_
  refine RG.go tab 2 [] rfl ?_
  refine RG.nil ?_
  refine SC.ret (End.ret tab rfl ?_)
  exact ⟨_, _, .one (.agg (.cons .own (.cons (.scal rfl) (.cons (.scal rfl) .nil (by intro x h1 h2; first | exact h1.elim | (simp at h1 h2; done) | (simp at h2; done)) (by intro x h1 h2; first | exact h1.elim | (simp at h1 h2; done) | (simp at h2; done))) (by intro x h1 h2; first | exact h1.elim | (simp at h1 h2; done) | (simp at h2; done)) (by intro x h1 h2; first | exact h1.elim | (simp at h1 h2; done) | (simp at h2; done))) (by intro x h1 h2; first | exact h1.elim | (simp at h1 h2; done) | (simp at h2; done)) (by intro x h1 h2; first | exact h1.elim | (simp at h1 h2; done) | (simp at h2; done))))⟩
theorem toWeightedS_mf (a : List (List Int × Int)) (h1 : totWtS a ≤ 1048576) : MF Try.prog 8 [vWeightedS a] (vWeightedS a) := by
  have hal : a.length ≤ 1048576 := by simp only [totWtS, totL] at h1; omega
  refine MF.text Try.func8 rfl rfl rfl fun B => ?_
  refine SC.len 0 rfl fun hlen0 => ?_
  refine SC.seq ?_
  refine SC.region ?_
  refine RG.go tab 1 [] rfl ?_
  refine RG.nil ?_
  refine SC.seq ?_
  refine SC.region ?_
  refine RG.go tab 2 [] rfl ?_
  refine RG.make0 tab id [.nsl, .int .i64 0] rfl rfl rfl rfl rfl rfl rfl (by show a.length * 32 ≤ _; omega) ?_
  refine RG.go tab 1 [] rfl ?_
  refine RG.nil ?_
  refine SC.seq ?_
  refine SC.seq ?_
  refine SC.region ?_
  refine RG.go tab 1 [] rfl ?_
  refine RG.nil ?_
  refine SC.block ?_
  refine SC.loop2 (fun (i : Nat) (els : List (List AV)) => a.length - i) (fun (i : Nat) (els : List (List AV)) => i ≤ a.length ∧ Fil 2 i a.length (fun i => [ints ((a.getD i ([], 0)).1), .int .i64 ((a.getD i ([], 0)).2)]) els) (fun (i : Nat) (els : List (List AV)) => [(0, vWeightedS a), (3, .sl 0 a.length), (4, .int .i64 ((i : Nat) : Int))]) (fun (i : Nat) (els : List (List AV)) => [some ⟨72, 2, els⟩]) 0 ((List.replicate a.length [.nsl, .int .i64 0]).map id) ⟨Nat.zero_le _, Fil.zero rfl fun _ => rfl⟩ (Drop.mask [true] rfl ⟨(Fil.zero (get := fun _ => []) rfl fun _ => rfl : Fil 2 0 a.length _ _).sc, trivial⟩) ⟨rfl, rfl, rfl, rfl, rfl, rfl, trivial⟩ (fun _ _ => Nat.le_of_ble_eq_true rfl) fun i els hI0 => ?_
  obtain ⟨hi, hI⟩ := hI0
  have hel := hI.len
  refine SC.seq ?_
  refine SC.seq ?_
  refine SC.region ?_
  refine RG.go tab 4 [] rfl ?_
  refine RG.nil ?_
  refine SC.cond rfl (fun hb1 => ?_) (fun hb1 => ?_)
  · try simp only [decide_eq_true_eq] at hb1
    refine SC.skip ?_
    refine SC.seq ?_
    refine SC.block ?_
    refine SC.region ?_
    refine RG.ask tab 6 [] rfl (by (repeat' refine And.intro ?_ ?_) <;> first | rfl | omega | (unfold in64; omega) | (simp; done) | (simp; omega) | (simp at *; omega)) ?_
    refine RG.mf rfl rfl (toWeighted_mf (a.getD i ([], 0)) (by have h := sumL_mem (fun w : Wt => w.1.length) (getD_mem (l := a) (i := i) (d := ([], 0)) (by omega)); simp only [totWtS, totL] at h1; exact Nat.le_trans h (by omega))) ⟨.same rfl, trivial⟩ fun r0 hr0 hfr0 => ?_
    obtain ⟨rs0, rfl, hl0⟩ := hr0.agg
    have hc0 := hl0.cells
    obtain ⟨cI0a, rs0t, rfl, mI0a, dI0a, hl0t⟩ := hl0.cons
    obtain ⟨I0a, rfl⟩ := Made0.isl mI0a
    obtain ⟨cI0b, rs0tt, rfl, mI0b, dI0b, hl0tt⟩ := hl0t.cons
    obtain rfl := Made0.scal mI0b rfl
    obtain rfl := MadeL.nil0 hl0tt
    have free_I0a : ∀ x, I0a.bl x → ¬ B x := fun x hx => (hfr0 x (.agg (j := 0) (Nat.le_of_ble_eq_true rfl) (.own hx))).2
    refine RG.ask tab 1 [] rfl (by (repeat' refine And.intro ?_ ?_) <;> first | rfl | omega | (unfold in64; omega) | (simp; done) | (simp; omega) | (simp at *; omega)) ?_
    refine RG.strE tab rfl rfl rfl rfl rfl rfl hI.len (by omega) rfl rfl rfl (hI.row (by omega)) rfl rfl ?_
    refine RG.nil ?_
    refine SC.region ?_
    refine RG.ask tab 3 [] rfl (by (repeat' refine And.intro ?_ ?_) <;> first | rfl | omega | (unfold in64; omega) | (simp; done) | (simp; omega) | (simp at *; omega)) ?_
    refine RG.nil ?_
    have hI := hI.set (i := i) (by omega) hc0 (fun _ => rfl) (fresh_rows (id := 0) hfr0 rfl (by rw [hI.len]; omega) rfl)
    refine ⟨i + 1, els.set i [.own I0a (ints ((a.getD i ([], 0)).1)), .int .i64 ((a.getD i ([], 0)).2)], (by omega), ⟨by omega, hI⟩, Drop.mask [true] (rfl) ⟨hI.sc, trivial⟩, rfl, rfl, rfl, rfl, rfl, rfl, trivial⟩
  · try simp only [decide_eq_false_iff_not, Int.not_lt] at hb1
    refine SC.exit ?_
    refine SC.seq ?_
    refine SC.region ?_
    refine RG.go tab 2 [] rfl ?_
    refine RG.nil ?_
    refine SC.ret (End.ret tab rfl ?_)
    have : i = a.length := by omega
    subst this
    obtain ⟨D, J, hso⟩ := hI.so (S := [some ⟨72, 2, els⟩]) (id := 0) rfl (fun _ => rfl)
    exact ⟨_, _, .one (.one hso)⟩
theorem toGroupS_mf (a : List (List Int × Int × Int)) (h1 : totGpS a ≤ 1048576) : MF Try.prog 17 [vGroupS a] (vGroupS a) := by
  have hal : a.length ≤ 1048576 := by simp only [totGpS, totL] at h1; omega
  refine MF.text Try.func17 rfl rfl rfl fun B => ?_
  refine SC.len 0 rfl fun hlen0 => ?_
  refine SC.seq ?_
  refine SC.region ?_
  refine RG.go tab 1 [] rfl ?_
  refine RG.nil ?_
  refine SC.seq ?_
  refine SC.region ?_
  refine RG.go tab 2 [] rfl ?_
  refine RG.make0 tab id [.nsl, .int .i64 0, .int .i64 0] rfl rfl rfl rfl rfl rfl rfl (by show a.length * 40 ≤ _; omega) ?_
  refine RG.go tab 1 [] rfl ?_
  refine RG.nil ?_
  refine SC.seq ?_
  refine SC.seq ?_
  refine SC.region ?_
  refine RG.go tab 1 [] rfl ?_
  refine RG.nil ?_
  refine SC.block ?_
  refine SC.loop2 (fun (i : Nat) (els : List (List AV)) => a.length - i) (fun (i : Nat) (els : List (List AV)) => i ≤ a.length ∧ Fil 3 i a.length (fun i => [ints ((a.getD i ([], 0, 0)).1), .int .i64 ((a.getD i ([], 0, 0)).2.1), .int .i64 ((a.getD i ([], 0, 0)).2.2)]) els) (fun (i : Nat) (els : List (List AV)) => [(0, vGroupS a), (3, .sl 0 a.length), (4, .int .i64 ((i : Nat) : Int))]) (fun (i : Nat) (els : List (List AV)) => [some ⟨89, 3, els⟩]) 0 ((List.replicate a.length [.nsl, .int .i64 0, .int .i64 0]).map id) ⟨Nat.zero_le _, Fil.zero rfl fun _ => rfl⟩ (Drop.mask [true] rfl ⟨(Fil.zero (get := fun _ => []) rfl fun _ => rfl : Fil 3 0 a.length _ _).sc, trivial⟩) ⟨rfl, rfl, rfl, rfl, rfl, rfl, trivial⟩ (fun _ _ => Nat.le_of_ble_eq_true rfl) fun i els hI0 => ?_
  obtain ⟨hi, hI⟩ := hI0
  have hel := hI.len
  refine SC.seq ?_
  refine SC.seq ?_
  refine SC.region ?_
  refine RG.go tab 4 [] rfl ?_
  refine RG.nil ?_
  refine SC.cond rfl (fun hb1 => ?_) (fun hb1 => ?_)
  · try simp only [decide_eq_true_eq] at hb1
    refine SC.skip ?_
    refine SC.seq ?_
    refine SC.block ?_
    refine SC.region ?_
    refine RG.ask tab 6 [] rfl (by (repeat' refine And.intro ?_ ?_) <;> first | rfl | omega | (unfold in64; omega) | (simp; done) | (simp; omega) | (simp at *; omega)) ?_
    refine RG.mf rfl rfl (toGroup_mf (a.getD i ([], 0, 0)) (by have h := sumL_mem (fun g : Gp => g.1.length) (getD_mem (l := a) (i := i) (d := ([], 0, 0)) (by omega)); simp only [totGpS, totL] at h1; exact Nat.le_trans h (by omega))) ⟨.same rfl, trivial⟩ fun r0 hr0 hfr0 => ?_
    obtain ⟨rs0, rfl, hl0⟩ := hr0.agg
    have hc0 := hl0.cells
    obtain ⟨cI0a, rs0t, rfl, mI0a, dI0a, hl0t⟩ := hl0.cons
    obtain ⟨I0a, rfl⟩ := Made0.isl mI0a
    obtain ⟨cI0b, rs0tt, rfl, mI0b, dI0b, hl0tt⟩ := hl0t.cons
    obtain rfl := Made0.scal mI0b rfl
    obtain ⟨cI0c, rs0ttt, rfl, mI0c, dI0c, hl0ttt⟩ := hl0tt.cons
    obtain rfl := Made0.scal mI0c rfl
    obtain rfl := MadeL.nil0 hl0ttt
    have free_I0a : ∀ x, I0a.bl x → ¬ B x := fun x hx => (hfr0 x (.agg (j := 0) (Nat.le_of_ble_eq_true rfl) (.own hx))).2
    refine RG.ask tab 1 [] rfl (by (repeat' refine And.intro ?_ ?_) <;> first | rfl | omega | (unfold in64; omega) | (simp; done) | (simp; omega) | (simp at *; omega)) ?_
    refine RG.strE tab rfl rfl rfl rfl rfl rfl hI.len (by omega) rfl rfl rfl (hI.row (by omega)) rfl rfl ?_
    refine RG.nil ?_
    refine SC.region ?_
    refine RG.ask tab 3 [] rfl (by (repeat' refine And.intro ?_ ?_) <;> first | rfl | omega | (unfold in64; omega) | (simp; done) | (simp; omega) | (simp at *; omega)) ?_
    refine RG.nil ?_
    have hI := hI.set (i := i) (by omega) hc0 (fun _ => rfl) (fresh_rows (id := 0) hfr0 rfl (by rw [hI.len]; omega) rfl)
    refine ⟨i + 1, els.set i [.own I0a (ints ((a.getD i ([], 0, 0)).1)), .int .i64 ((a.getD i ([], 0, 0)).2.1), .int .i64 ((a.getD i ([], 0, 0)).2.2)], (by omega), ⟨by omega, hI⟩, Drop.mask [true] (rfl) ⟨hI.sc, trivial⟩, rfl, rfl, rfl, rfl, rfl, rfl, trivial⟩
  · try simp only [decide_eq_false_iff_not, Int.not_lt] at hb1
    refine SC.exit ?_
    refine SC.seq ?_
    refine SC.region ?_
    refine RG.go tab 2 [] rfl ?_
    refine RG.nil ?_
    refine SC.ret (End.ret tab rfl ?_)
    have : i = a.length := by omega
    subst this
    obtain ⟨D, J, hso⟩ := hI.so (S := [some ⟨89, 3, els⟩]) (id := 0) rfl (fun _ => rfl)
    exact ⟨_, _, .one (.one hso)⟩
end Go.Proofs.Ythholadaflfpcaa
