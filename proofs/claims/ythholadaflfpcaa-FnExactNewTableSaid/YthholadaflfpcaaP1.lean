import Derived.Test.YthholadaflfpcaaD0
namespace Go.Proofs.Ythholadaflfpcaa
open Go Go.Fw
def inB (n lo hi : Int) : Bool := decide (lo ≤ n) && decide (n ≤ hi)
theorem inB_iff {n lo hi : Int} : inB n lo hi = true ↔ lo ≤ n ∧ n ≤ hi := by simp [inB]
theorem within_pf (n : Int) (lo : Int) (hi : Int) : PF Try.prog 77 [.int .i64 n, .int .i64 lo, .int .i64 hi] (.bool (inB n lo hi)) := by
  refine PF.text Try.func77 rfl rfl rfl fun B => ?_
  refine SC.seq ?_
  refine SC.region ?_
  refine RG.go tab 1 [] rfl ?_
  refine RG.nil ?_
  refine SC.cut [(6, .bool ((decide (lo ≤ n)) && (decide (n ≤ hi))))] [] rfl ?_ ?_
  · refine SC.region ?_
    refine RG.go tab 4 [] rfl ?_
    refine RG.split 10 rfl fun b1 hb1 => ?_
    cases b1
    · try have hp1 := of_decide_eq_false hb1
      refine RG.go tab 5 [] rfl ?_
      refine RG.nil ?_
      exact ⟨Drop.none0, (show AV.bool false = AV.bool ((decide (lo ≤ n)) && (decide (n ≤ hi))) from by first | rfl | ((try simp only [Int.toNat_natCast] at hb1); first | (rw [hb1]; done) | (rw [hb1]; rfl)) | (simp only [hb1]; rfl) | simp_all), rfl, trivial⟩
    · try have hp1 := of_decide_eq_true hb1
      refine RG.go tab 5 [] rfl ?_
      refine RG.nil ?_
      exact ⟨Drop.none0, (show AV.bool (decide (n ≤ hi)) = AV.bool ((decide (lo ≤ n)) && (decide (n ≤ hi))) from by first | rfl | ((try simp only [Int.toNat_natCast] at hb1); first | (rw [hb1]; done) | (rw [hb1]; rfl)) | (simp only [hb1]; rfl) | simp_all), rfl, trivial⟩
  · refine SC.ret (End.ret tab rfl ?_)
    refine seal_eq rfl ?_
    first | rfl | simp_all
theorem l1In_pf (n : Int) (lo : Int) (hi : Int) : PF Try.prog 31 [.int .i64 n, .int .i64 lo, .int .i64 hi] (.bool (inB n lo hi)) := by
  refine PF.text Try.func31 rfl rfl rfl fun B => ?_
  refine SC.seq ?_
  refine SC.region ?_
  refine RG.go tab 1 [] rfl ?_
  refine RG.nil ?_
  refine SC.cut [(6, .bool ((decide (n ≥ lo)) && (decide (n ≤ hi))))] [] rfl ?_ ?_
  · refine SC.region ?_
    refine RG.go tab 4 [] rfl ?_
    refine RG.split 10 rfl fun b1 hb1 => ?_
    cases b1
    · try have hp1 := of_decide_eq_false hb1
      refine RG.go tab 5 [] rfl ?_
      refine RG.nil ?_
      exact ⟨Drop.none0, (show AV.bool false = AV.bool ((decide (n ≥ lo)) && (decide (n ≤ hi))) from by first | rfl | ((try simp only [Int.toNat_natCast] at hb1); first | (rw [hb1]; done) | (rw [hb1]; rfl)) | (simp only [hb1]; rfl) | simp_all), rfl, trivial⟩
    · try have hp1 := of_decide_eq_true hb1
      refine RG.go tab 5 [] rfl ?_
      refine RG.nil ?_
      exact ⟨Drop.none0, (show AV.bool (decide (n ≤ hi)) = AV.bool ((decide (n ≥ lo)) && (decide (n ≤ hi))) from by first | rfl | ((try simp only [Int.toNat_natCast] at hb1); first | (rw [hb1]; done) | (rw [hb1]; rfl)) | (simp only [hb1]; rfl) | simp_all), rfl, trivial⟩
  · refine SC.ret (End.ret tab rfl ?_)
    refine seal_eq rfl ?_
    simp [inB, *]
theorem szIntS_pf (a : List Int) (left : Int) (h1 : 0 ≤ left) (h2 : left ≤ 1048576) : PF Try.prog 107 [ints a, .int .i64 left] (.int .i64 (szF a.length left)) := by
  refine PF.text Try.func107 rfl rfl rfl fun B => ?_
  refine SC.len 0 rfl fun hlen0 => ?_
  refine SC.seq ?_
  refine SC.region ?_
  refine RG.go tab 1 [] rfl ?_
  refine RG.nil ?_
  refine SC.seq ?_
  refine SC.region ?_
  refine RG.ask tab 5 [] rfl (by (repeat' refine And.intro ?_ ?_) <;> first | rfl | omega | (unfold in64; omega) | (simp; done) | (simp; omega) | (simp at *; omega)) ?_
  refine RG.nil ?_
  refine SC.seq ?_
  refine SC.seq ?_
  refine SC.region ?_
  refine RG.go tab 2 [] rfl ?_
  refine RG.nil ?_
  refine SC.cond rfl (fun hb1 => ?_) (fun hb1 => ?_)
  · try simp only [decide_eq_true_eq] at hb1
    refine SC.seq ?_
    refine SC.region ?_
    refine RG.go tab 1 [] rfl ?_
    refine RG.nil ?_
    refine SC.ret (End.ret tab rfl ?_)
    refine seal_eq rfl ?_
    unfold szF; rw [if_neg (by omega)]
  · try simp only [decide_eq_false_iff_not, Int.not_lt] at hb1
    refine SC.skip ?_
    refine SC.seq ?_
    refine SC.region ?_
    refine RG.go tab 2 [] rfl ?_
    refine RG.nil ?_
    refine SC.ret (End.ret tab rfl ?_)
    refine seal_eq rfl ?_
    unfold szF; rw [if_pos (by omega)]
theorem szRow_pf (a : List Int) (left : Int) (h1 : 0 ≤ left) (h2 : left ≤ 1048576) : PF Try.prog 72 [.agg [ints a], .int .i64 left] (.int .i64 (szF a.length left)) := by
  refine PF.text Try.func72 rfl rfl rfl fun B => ?_
  refine SC.lenA 0 0 rfl (Nat.le_of_ble_eq_true rfl) rfl fun hlen0_0 => ?_
  refine SC.seq ?_
  refine SC.region ?_
  refine RG.go tab 2 [] rfl ?_
  refine RG.nil ?_
  refine SC.seq ?_
  refine SC.region ?_
  refine RG.go tab 3 [] rfl ?_
  refine RG.pf rfl rfl (szIntS_pf a left (by first | assumption | omega | (simp only [sumL_fillWs, sumL_fillGs]; omega) | (simp; omega) | simp_all) (by first | assumption | omega | (simp only [sumL_fillWs, sumL_fillGs]; omega) | (simp; omega) | simp_all)) rfl ?_
  refine RG.go tab 1 [] rfl ?_
  refine RG.nil ?_
  refine SC.seq ?_
  refine SC.seq ?_
  refine SC.region ?_
  refine RG.go tab 2 [] rfl ?_
  refine RG.nil ?_
  refine SC.cond rfl (fun hb1 => ?_) (fun hb1 => ?_)
  · try simp only [decide_eq_true_eq] at hb1
    refine SC.seq ?_
    refine SC.region ?_
    refine RG.go tab 1 [] rfl ?_
    refine RG.nil ?_
    refine SC.ret (End.ret tab rfl ?_)
    refine seal_eq rfl ?_
    revert hb1; unfold szF; split <;> simp <;> omega
  · try simp only [decide_eq_false_iff_not, Int.not_lt] at hb1
    refine SC.skip ?_
    refine SC.seq ?_
    refine SC.region ?_
    refine RG.go tab 2 [] rfl ?_
    refine RG.nil ?_
    refine SC.ret (End.ret tab rfl ?_)
    refine seal_eq rfl ?_
    rfl
theorem szWeighted_pf (a : List Int × Int) (left : Int) (h1 : 0 ≤ left) (h2 : left ≤ 1048576) : PF Try.prog 30 [.agg [ints a.1, .int .i64 a.2], .int .i64 left] (.int .i64 (szF a.1.length left)) := by
  refine PF.text Try.func30 rfl rfl rfl fun B => ?_
  refine SC.lenA 0 0 rfl (Nat.le_of_ble_eq_true rfl) rfl fun hlen0_0 => ?_
  refine SC.seq ?_
  refine SC.region ?_
  refine RG.go tab 2 [] rfl ?_
  refine RG.nil ?_
  refine SC.seq ?_
  refine SC.region ?_
  refine RG.go tab 3 [] rfl ?_
  refine RG.pf rfl rfl (szRow_pf a.1 left (by first | assumption | omega | (simp only [sumL_fillWs, sumL_fillGs]; omega) | (simp; omega) | simp_all) (by first | assumption | omega | (simp only [sumL_fillWs, sumL_fillGs]; omega) | (simp; omega) | simp_all)) rfl ?_
  refine RG.go tab 1 [] rfl ?_
  refine RG.nil ?_
  refine SC.seq ?_
  refine SC.seq ?_
  refine SC.region ?_
  refine RG.go tab 2 [] rfl ?_
  refine RG.nil ?_
  refine SC.cond rfl (fun hb1 => ?_) (fun hb1 => ?_)
  · try simp only [decide_eq_true_eq] at hb1
    refine SC.seq ?_
    refine SC.region ?_
    refine RG.go tab 1 [] rfl ?_
    refine RG.nil ?_
    refine SC.ret (End.ret tab rfl ?_)
    refine seal_eq rfl ?_
    revert hb1; unfold szF; split <;> simp <;> omega
  · try simp only [decide_eq_false_iff_not, Int.not_lt] at hb1
    refine SC.skip ?_
    refine SC.seq ?_
    refine SC.region ?_
    refine RG.go tab 2 [] rfl ?_
    refine RG.nil ?_
    refine SC.ret (End.ret tab rfl ?_)
    refine seal_eq rfl ?_
    rfl
theorem szGroup_pf (a : List Int × Int × Int) (left : Int) (h1 : 0 ≤ left) (h2 : left ≤ 1048576) : PF Try.prog 47 [.agg [ints a.1, .int .i64 a.2.1, .int .i64 a.2.2], .int .i64 left] (.int .i64 (szF a.1.length left)) := by
  refine PF.text Try.func47 rfl rfl rfl fun B => ?_
  refine SC.lenA 0 0 rfl (Nat.le_of_ble_eq_true rfl) rfl fun hlen0_0 => ?_
  refine SC.seq ?_
  refine SC.region ?_
  refine RG.go tab 2 [] rfl ?_
  refine RG.nil ?_
  refine SC.seq ?_
  refine SC.region ?_
  refine RG.go tab 3 [] rfl ?_
  refine RG.pf rfl rfl (szRow_pf a.1 left (by first | assumption | omega | (simp only [sumL_fillWs, sumL_fillGs]; omega) | (simp; omega) | simp_all) (by first | assumption | omega | (simp only [sumL_fillWs, sumL_fillGs]; omega) | (simp; omega) | simp_all)) rfl ?_
  refine RG.go tab 1 [] rfl ?_
  refine RG.nil ?_
  refine SC.seq ?_
  refine SC.seq ?_
  refine SC.region ?_
  refine RG.go tab 2 [] rfl ?_
  refine RG.nil ?_
  refine SC.cond rfl (fun hb1 => ?_) (fun hb1 => ?_)
  · try simp only [decide_eq_true_eq] at hb1
    refine SC.seq ?_
    refine SC.region ?_
    refine RG.go tab 1 [] rfl ?_
    refine RG.nil ?_
    refine SC.ret (End.ret tab rfl ?_)
    refine seal_eq rfl ?_
    revert hb1; unfold szF; split <;> simp <;> omega
  · try simp only [decide_eq_false_iff_not, Int.not_lt] at hb1
    refine SC.skip ?_
    refine SC.seq ?_
    refine SC.region ?_
    refine RG.go tab 2 [] rfl ?_
    refine RG.nil ?_
    refine SC.ret (End.ret tab rfl ?_)
    refine seal_eq rfl ?_
    rfl
theorem szWeightedS_pf (a : List (List Int × Int)) (left : Int) (h1 : 0 ≤ left) (h2 : left ≤ 1048576) : PF Try.prog 6 [vWeightedS a, .int .i64 left] (.int .i64 (szF (totWtS a) left)) := by
  refine PF.text Try.func6 rfl rfl rfl fun B => ?_
  refine SC.len 0 rfl fun hlen0 => ?_
  refine SC.seq ?_
  refine SC.region ?_
  refine RG.go tab 1 [] rfl ?_
  refine RG.nil ?_
  refine SC.seq ?_
  refine SC.region ?_
  refine RG.ask tab 5 [] rfl (by (repeat' refine And.intro ?_ ?_) <;> first | rfl | omega | (unfold in64; omega) | (simp; done) | (simp; omega) | (simp at *; omega)) ?_
  refine RG.nil ?_
  refine SC.seq ?_
  refine SC.seq ?_
  refine SC.region ?_
  refine RG.go tab 2 [] rfl ?_
  refine RG.nil ?_
  refine SC.cond rfl (fun hb1 => ?_) (fun hb1 => ?_)
  · try simp only [decide_eq_true_eq] at hb1
    refine SC.seq ?_
    refine SC.region ?_
    refine RG.go tab 1 [] rfl ?_
    refine RG.nil ?_
    refine SC.ret (End.ret tab rfl ?_)
    refine seal_eq rfl ?_
    simp only [totWtS, totL]; unfold szF; rw [if_neg (by omega)]
  · try simp only [decide_eq_false_iff_not, Int.not_lt] at hb1
    refine SC.skip ?_
    refine SC.seq ?_
    refine SC.seq ?_
    refine SC.region ?_
    refine RG.go tab 1 [] rfl ?_
    refine RG.nil ?_
    refine SC.block ?_
    refine SC.loop2 (fun (i : Nat) (r : Int) => a.length - i) (fun (i : Nat) (r : Int) => i ≤ a.length ∧ 0 ≤ r ∧ r ≤ 1048576 ∧ szF (sumL (fun w : Wt => w.1.length) (a.drop i)) r = szF (totWtS a) left) (fun (i : Nat) (r : Int) => [(0, vWeightedS a), (1, .int .i64 r), (5, .int .i64 ((i : Nat) : Int))]) (fun (i : Nat) (r : Int) => []) 0 (left - (a.length : Int)) ⟨Nat.zero_le _, by omega, by omega, by simp only [totWtS, totL, List.drop_zero]; unfold szF; split <;> split <;> omega⟩ (Drop.none0) ⟨rfl, rfl, rfl, rfl, rfl, rfl, trivial⟩ (fun _ _ => Nat.le_of_ble_eq_true rfl) fun i r hI0 => ?_
    obtain ⟨hi, hr0, hr1, hI⟩ := hI0
    refine SC.seq ?_
    refine SC.seq ?_
    refine SC.region ?_
    refine RG.go tab 4 [] rfl ?_
    refine RG.nil ?_
    refine SC.cond rfl (fun hb2 => ?_) (fun hb2 => ?_)
    · try simp only [decide_eq_true_eq] at hb2
      refine SC.skip ?_
      refine SC.seq ?_
      refine SC.block ?_
      refine SC.seq ?_
      refine SC.region ?_
      refine RG.ask tab 5 [] rfl (by (repeat' refine And.intro ?_ ?_) <;> first | rfl | omega | (unfold in64; omega) | (simp; done) | (simp; omega) | (simp at *; omega)) ?_
      refine RG.pf rfl rfl (szWeighted_pf (a.getD i ([], 0)) r (by first | assumption | omega | (simp only [sumL_fillWs, sumL_fillGs]; omega) | (simp; omega) | simp_all) (by first | assumption | omega | (simp only [sumL_fillWs, sumL_fillGs]; omega) | (simp; omega) | simp_all)) rfl ?_
      refine RG.go tab 1 [] rfl ?_
      refine RG.nil ?_
      refine SC.seq ?_
      refine SC.region ?_
      refine RG.go tab 2 [] rfl ?_
      refine RG.nil ?_
      refine SC.cond rfl (fun hb3 => ?_) (fun hb3 => ?_)
      · try simp only [decide_eq_true_eq] at hb3
        refine SC.seq ?_
        refine SC.region ?_
        refine RG.go tab 1 [] rfl ?_
        refine RG.nil ?_
        refine SC.ret (End.ret tab rfl ?_)
        refine seal_eq rfl ?_
        have hs := sumL_drop (fun w : Wt => w.1.length) ([], 0) (l := a) (i := i) (by omega)
        rw [hs, szF_two, if_pos (by assumption)] at hI
        rw [← hI]
      · try simp only [decide_eq_false_iff_not, Int.not_lt] at hb3
        refine SC.skip ?_
        refine SC.region ?_
        refine RG.ask tab 3 [] rfl (by (repeat' refine And.intro ?_ ?_) <;> first | rfl | omega | (unfold in64; omega) | (simp; done) | (simp; omega) | (simp at *; omega)) ?_
        refine RG.nil ?_
        have hs := sumL_drop (fun w : Wt => w.1.length) ([], 0) (l := a) (i := i) (by omega)
        rw [hs, szF_two] at hI
        refine ⟨i + 1, szF (a.getD i ([], 0)).1.length r, (by omega), ⟨by omega, by omega, by unfold szF; split <;> omega, by rw [if_neg (by omega)] at hI; exact hI⟩, Drop.none0, rfl, rfl, rfl, rfl, rfl, rfl, trivial⟩
    · try simp only [decide_eq_false_iff_not, Int.not_lt] at hb2
      refine SC.exit ?_
      refine SC.seq ?_
      refine SC.region ?_
      refine RG.go tab 2 [] rfl ?_
      refine RG.nil ?_
      refine SC.ret (End.ret tab rfl ?_)
      refine seal_eq rfl ?_
      rw [sumL_end _ (by omega)] at hI
      rw [← hI]
      unfold szF; rw [if_pos (by omega)]; simp
theorem szGroupS_pf (a : List (List Int × Int × Int)) (left : Int) (h1 : 0 ≤ left) (h2 : left ≤ 1048576) : PF Try.prog 15 [vGroupS a, .int .i64 left] (.int .i64 (szF (totGpS a) left)) := by
  refine PF.text Try.func15 rfl rfl rfl fun B => ?_
  refine SC.len 0 rfl fun hlen0 => ?_
  refine SC.seq ?_
  refine SC.region ?_
  refine RG.go tab 1 [] rfl ?_
  refine RG.nil ?_
  refine SC.seq ?_
  refine SC.region ?_
  refine RG.ask tab 5 [] rfl (by (repeat' refine And.intro ?_ ?_) <;> first | rfl | omega | (unfold in64; omega) | (simp; done) | (simp; omega) | (simp at *; omega)) ?_
  refine RG.nil ?_
  refine SC.seq ?_
  refine SC.seq ?_
  refine SC.region ?_
  refine RG.go tab 2 [] rfl ?_
  refine RG.nil ?_
  refine SC.cond rfl (fun hb1 => ?_) (fun hb1 => ?_)
  · try simp only [decide_eq_true_eq] at hb1
    refine SC.seq ?_
    refine SC.region ?_
    refine RG.go tab 1 [] rfl ?_
    refine RG.nil ?_
    refine SC.ret (End.ret tab rfl ?_)
    refine seal_eq rfl ?_
    simp only [totGpS, totL]; unfold szF; rw [if_neg (by omega)]
  · try simp only [decide_eq_false_iff_not, Int.not_lt] at hb1
    refine SC.skip ?_
    refine SC.seq ?_
    refine SC.seq ?_
    refine SC.region ?_
    refine RG.go tab 1 [] rfl ?_
    refine RG.nil ?_
    refine SC.block ?_
    refine SC.loop2 (fun (i : Nat) (r : Int) => a.length - i) (fun (i : Nat) (r : Int) => i ≤ a.length ∧ 0 ≤ r ∧ r ≤ 1048576 ∧ szF (sumL (fun g : Gp => g.1.length) (a.drop i)) r = szF (totGpS a) left) (fun (i : Nat) (r : Int) => [(0, vGroupS a), (1, .int .i64 r), (5, .int .i64 ((i : Nat) : Int))]) (fun (i : Nat) (r : Int) => []) 0 (left - (a.length : Int)) ⟨Nat.zero_le _, by omega, by omega, by simp only [totGpS, totL, List.drop_zero]; unfold szF; split <;> split <;> omega⟩ (Drop.none0) ⟨rfl, rfl, rfl, rfl, rfl, rfl, trivial⟩ (fun _ _ => Nat.le_of_ble_eq_true rfl) fun i r hI0 => ?_
    obtain ⟨hi, hr0, hr1, hI⟩ := hI0
    refine SC.seq ?_
    refine SC.seq ?_
    refine SC.region ?_
    refine RG.go tab 4 [] rfl ?_
    refine RG.nil ?_
    refine SC.cond rfl (fun hb2 => ?_) (fun hb2 => ?_)
    · try simp only [decide_eq_true_eq] at hb2
      refine SC.skip ?_
      refine SC.seq ?_
      refine SC.block ?_
      refine SC.seq ?_
      refine SC.region ?_
      refine RG.ask tab 5 [] rfl (by (repeat' refine And.intro ?_ ?_) <;> first | rfl | omega | (unfold in64; omega) | (simp; done) | (simp; omega) | (simp at *; omega)) ?_
      refine RG.pf rfl rfl (szGroup_pf (a.getD i ([], 0, 0)) r (by first | assumption | omega | (simp only [sumL_fillWs, sumL_fillGs]; omega) | (simp; omega) | simp_all) (by first | assumption | omega | (simp only [sumL_fillWs, sumL_fillGs]; omega) | (simp; omega) | simp_all)) rfl ?_
      refine RG.go tab 1 [] rfl ?_
      refine RG.nil ?_
      refine SC.seq ?_
      refine SC.region ?_
      refine RG.go tab 2 [] rfl ?_
      refine RG.nil ?_
      refine SC.cond rfl (fun hb3 => ?_) (fun hb3 => ?_)
      · try simp only [decide_eq_true_eq] at hb3
        refine SC.seq ?_
        refine SC.region ?_
        refine RG.go tab 1 [] rfl ?_
        refine RG.nil ?_
        refine SC.ret (End.ret tab rfl ?_)
        refine seal_eq rfl ?_
        have hs := sumL_drop (fun g : Gp => g.1.length) ([], 0, 0) (l := a) (i := i) (by omega)
        rw [hs, szF_two, if_pos (by assumption)] at hI
        rw [← hI]
      · try simp only [decide_eq_false_iff_not, Int.not_lt] at hb3
        refine SC.skip ?_
        refine SC.region ?_
        refine RG.ask tab 3 [] rfl (by (repeat' refine And.intro ?_ ?_) <;> first | rfl | omega | (unfold in64; omega) | (simp; done) | (simp; omega) | (simp at *; omega)) ?_
        refine RG.nil ?_
        have hs := sumL_drop (fun g : Gp => g.1.length) ([], 0, 0) (l := a) (i := i) (by omega)
        rw [hs, szF_two] at hI
        refine ⟨i + 1, szF (a.getD i ([], 0, 0)).1.length r, (by omega), ⟨by omega, by omega, by unfold szF; split <;> omega, by rw [if_neg (by omega)] at hI; exact hI⟩, Drop.none0, rfl, rfl, rfl, rfl, rfl, rfl, trivial⟩
    · try simp only [decide_eq_false_iff_not, Int.not_lt] at hb2
      refine SC.exit ?_
      refine SC.seq ?_
      refine SC.region ?_
      refine RG.go tab 2 [] rfl ?_
      refine RG.nil ?_
      refine SC.ret (End.ret tab rfl ?_)
      refine seal_eq rfl ?_
      rw [sumL_end _ (by omega)] at hI
      rw [← hI]
      unfold szF; rw [if_pos (by omega)]; simp
end Go.Proofs.Ythholadaflfpcaa
