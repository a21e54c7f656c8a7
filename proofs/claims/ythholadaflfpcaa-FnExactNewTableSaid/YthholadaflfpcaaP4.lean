import Derived.Test.YthholadaflfpcaaP3
namespace Go.Proofs.Ythholadaflfpcaa
open Go Go.Fw
theorem heldIntS_pf (a : List Int) (k : Int) (h1 : 0 ≤ k) (h2 : k + a.length ≤ 1073741824) : PF Try.prog 56 [ints a, .int .i64 k] (.int .i64 (heldI a k)) := by
  refine PF.text Try.func56 rfl rfl rfl fun B => ?_
  refine SC.len 0 rfl fun hlen0 => ?_
  refine SC.seq ?_
  refine SC.region ?_
  refine RG.go tab 1 [] rfl ?_
  refine RG.nil ?_
  refine SC.seq ?_
  refine SC.seq ?_
  refine SC.region ?_
  refine RG.go tab 1 [] rfl ?_
  refine RG.nil ?_
  refine SC.block ?_
  refine SC.loop2 (fun (i : Nat) (r : Int) => a.length - i) (fun (i : Nat) (r : Int) => i ≤ a.length ∧ 0 ≤ r ∧ r + (a.length - i : Nat) ≤ 1073741824 ∧ heldI (a.drop i) r = heldI a k) (fun (i : Nat) (r : Int) => [(0, ints a), (1, .int .i64 r), (5, .int .i64 ((i : Nat) : Int))]) (fun (i : Nat) (r : Int) => []) 0 k ⟨Nat.zero_le _, by omega, by omega, by simp⟩ (Drop.none0) ⟨rfl, rfl, rfl, rfl, rfl, rfl, trivial⟩ (fun _ _ => Nat.le_of_ble_eq_true rfl) fun i r hI0 => ?_
  obtain ⟨hi, hr0, hr1, hI⟩ := hI0
  refine SC.seq ?_
  refine SC.seq ?_
  refine SC.region ?_
  refine RG.go tab 4 [] rfl ?_
  refine RG.nil ?_
  refine SC.cond rfl (fun hb1 => ?_) (fun hb1 => ?_)
  · try simp only [decide_eq_true_eq] at hb1
    refine SC.skip ?_
    refine SC.seq ?_
    refine SC.block ?_
    refine SC.seq ?_
    refine SC.seq ?_
    refine SC.region ?_
    refine RG.ask tab 6 [] rfl (by (repeat' refine And.intro ?_ ?_) <;> first | rfl | omega | (unfold in64; omega) | (simp; done) | (simp; omega) | (simp at *; omega)) ?_
    refine RG.nil ?_
    refine SC.cond rfl (fun hb2 => ?_) (fun hb2 => ?_)
    · try simp only [bne_iff_ne, ne_eq, Int.toNat_natCast] at hb2
      refine SC.seq ?_
      refine SC.region ?_
      refine RG.go tab 1 [] rfl ?_
      refine RG.nil ?_
      refine SC.ret (End.ret tab rfl ?_)
      refine seal_eq rfl ?_
      rw [drop_getD 0 (l := a) (i := i) (by omega)] at hI
      simp only [heldI] at hI
      rw [if_neg (by assumption)] at hI
      rw [← hI]
    · try simp only [Int.toNat_natCast, bne_eq_false_iff_eq] at hb2
      refine SC.skip ?_
      refine SC.region ?_
      refine RG.ask tab 3 [] rfl (by (repeat' refine And.intro ?_ ?_) <;> first | rfl | omega | (unfold in64; omega) | (simp; done) | (simp; omega) | (simp at *; omega)) ?_
      refine RG.nil ?_
      refine SC.region ?_
      refine RG.ask tab 3 [] rfl (by (repeat' refine And.intro ?_ ?_) <;> first | rfl | omega | (unfold in64; omega) | (simp; done) | (simp; omega) | (simp at *; omega)) ?_
      refine RG.nil ?_
      rw [drop_getD 0 (l := a) (i := i) (by omega)] at hI
      simp only [heldI] at hI
      rw [if_pos (by assumption)] at hI
      refine ⟨i + 1, r + 1, (by omega), ⟨by omega, by omega, by omega, hI⟩, Drop.none0, rfl, rfl, rfl, rfl, rfl, rfl, trivial⟩
  · try simp only [decide_eq_false_iff_not, Int.not_lt] at hb1
    refine SC.exit ?_
    refine SC.seq ?_
    refine SC.region ?_
    refine RG.go tab 2 [] rfl ?_
    refine RG.nil ?_
    refine SC.ret (End.ret tab rfl ?_)
    refine seal_eq rfl ?_
    rw [List.drop_eq_nil_of_le (by omega)] at hI
    rw [← hI]
    rfl
theorem heldWeightedS_pf (a : List (List Int × Int)) (k : Int) (h1 : 0 ≤ k) (h2 : k + sumL nW a ≤ 1073741824) : PF Try.prog 46 [vWeightedS a, .int .i64 k] (.int .i64 (heldWs a k)) := by
  refine PF.text Try.func46 rfl rfl rfl fun B => ?_
  refine SC.len 0 rfl fun hlen0 => ?_
  refine SC.seq ?_
  refine SC.region ?_
  refine RG.go tab 1 [] rfl ?_
  refine RG.nil ?_
  refine SC.seq ?_
  refine SC.seq ?_
  refine SC.region ?_
  refine RG.go tab 1 [] rfl ?_
  refine RG.nil ?_
  refine SC.block ?_
  refine SC.loop2 (fun (i : Nat) (r : Int) => a.length - i) (fun (i : Nat) (r : Int) => i ≤ a.length ∧ 0 ≤ r ∧ r + sumL nW (a.drop i) ≤ 1073741824 ∧ heldWs (a.drop i) r = heldWs a k) (fun (i : Nat) (r : Int) => [(0, vWeightedS a), (1, .int .i64 r), (5, .int .i64 ((i : Nat) : Int))]) (fun (i : Nat) (r : Int) => []) 0 k ⟨Nat.zero_le _, by omega, by simpa using h2, by simp⟩ (Drop.none0) ⟨rfl, rfl, rfl, rfl, rfl, rfl, trivial⟩ (fun _ _ => Nat.le_of_ble_eq_true rfl) fun i r hI0 => ?_
  obtain ⟨hi, hr0, hr1, hI⟩ := hI0
  refine SC.seq ?_
  refine SC.seq ?_
  refine SC.region ?_
  refine RG.go tab 4 [] rfl ?_
  refine RG.nil ?_
  refine SC.cond rfl (fun hb1 => ?_) (fun hb1 => ?_)
  · try simp only [decide_eq_true_eq] at hb1
    refine SC.skip ?_
    refine SC.seq ?_
    refine SC.block ?_
    refine SC.seq ?_
    refine SC.region ?_
    refine RG.ask tab 7 [] rfl (by (repeat' refine And.intro ?_ ?_) <;> first | rfl | omega | (unfold in64; omega) | (simp; done) | (simp; omega) | (simp at *; omega)) ?_
    refine RG.pf rfl rfl (heldIntS_pf ((a.getD i ([], 0)).1) r (by assumption) (by have hs := sumL_drop nW ([], 0) (l := a) (i := i) (by omega); simp only [nW] at hs; omega)) rfl ?_
    refine RG.go tab 1 [] rfl ?_
    refine RG.nil ?_
    refine SC.seq ?_
    refine SC.seq ?_
    refine SC.region ?_
    refine RG.go tab 2 [] rfl ?_
    refine RG.nil ?_
    refine SC.cond rfl (fun hb2 => ?_) (fun hb2 => ?_)
    · try simp only [decide_eq_true_eq] at hb2
      refine SC.seq ?_
      refine SC.region ?_
      refine RG.go tab 1 [] rfl ?_
      refine RG.nil ?_
      refine SC.ret (End.ret tab rfl ?_)
      refine seal_eq rfl ?_
      have he : heldW (a.getD i ([], 0)) r = -1 := by simp only [heldW]; (repeat' split) <;> first | rfl | omega | simp_all
      rw [drop_getD ([], 0) (l := a) (i := i) (by omega)] at hI
      simp only [heldWs, heldL, he] at hI
      rw [if_pos (by omega)] at hI
      unfold heldWs; rw [← hI]
    · try simp only [decide_eq_false_iff_not, Int.not_lt] at hb2
      refine SC.skip ?_
      refine SC.seq ?_
      refine SC.seq ?_
      refine SC.region ?_
      refine RG.ask tab 7 [] rfl (by (repeat' refine And.intro ?_ ?_) <;> first | rfl | omega | (unfold in64; omega) | (simp; done) | (simp; omega) | (simp at *; omega)) ?_
      refine RG.nil ?_
      refine SC.cond rfl (fun hb3 => ?_) (fun hb3 => ?_)
      · try simp only [bne_iff_ne, ne_eq, Int.toNat_natCast] at hb3
        refine SC.seq ?_
        refine SC.region ?_
        refine RG.go tab 1 [] rfl ?_
        refine RG.nil ?_
        refine SC.ret (End.ret tab rfl ?_)
        refine seal_eq rfl ?_
        have he : heldW (a.getD i ([], 0)) r = -1 := by simp only [heldW]; (repeat' split) <;> first | rfl | omega | simp_all
        rw [drop_getD ([], 0) (l := a) (i := i) (by omega)] at hI
        simp only [heldWs, heldL, he] at hI
        rw [if_pos (by omega)] at hI
        unfold heldWs; rw [← hI]
      · try simp only [Int.toNat_natCast, bne_eq_false_iff_eq] at hb3
        refine SC.skip ?_
        refine SC.region ?_
        refine RG.ask tab 3 [] rfl (by have hc := heldI_neg (a.getD i ([], 0)).1 r hr0; have hs := sumL_drop nW ([], 0) (l := a) (i := i) (by omega); simp only [nW] at hs; unfold in64; omega) ?_
        refine RG.nil ?_
        refine SC.region ?_
        refine RG.ask tab 3 [] rfl (by (repeat' refine And.intro ?_ ?_) <;> first | rfl | omega | (unfold in64; omega) | (simp; done) | (simp; omega) | (simp at *; omega)) ?_
        refine RG.nil ?_
        rw [drop_getD ([], 0) (l := a) (i := i) (by omega)] at hI
        have hs := sumL_drop nW ([], 0) (l := a) (i := i) (by omega)
        have hc := heldI_neg (a.getD i ([], 0)).1 r hr0
        have he : heldW (a.getD i ([], 0)) r = heldI (a.getD i ([], 0)).1 r + 1 := by simp only [heldW]; rw [if_neg (by omega)]; simp_all
        simp only [heldWs, heldL, he] at hI
        rw [if_neg (by omega)] at hI
        simp only [nW] at hs
        refine ⟨i + 1, (heldI ((a.getD i ([], 0)).1) r) + 1, (by omega), ⟨by omega, by omega, by omega, (by first | exact hI | (unfold heldWs; rw [Int.add_assoc]; exact hI))⟩, Drop.none0, rfl, rfl, rfl, rfl, rfl, rfl, trivial⟩
  · try simp only [decide_eq_false_iff_not, Int.not_lt] at hb1
    refine SC.exit ?_
    refine SC.seq ?_
    refine SC.region ?_
    refine RG.go tab 2 [] rfl ?_
    refine RG.nil ?_
    refine SC.ret (End.ret tab rfl ?_)
    refine seal_eq rfl ?_
    rw [List.drop_eq_nil_of_le (by omega)] at hI
    rw [← hI]
    rfl
theorem heldGroupS_pf (a : List (List Int × Int × Int)) (k : Int) (h1 : 0 ≤ k) (h2 : k + sumL nG a ≤ 1073741824) : PF Try.prog 21 [vGroupS a, .int .i64 k] (.int .i64 (heldGs a k)) := by
  refine PF.text Try.func21 rfl rfl rfl fun B => ?_
  refine SC.len 0 rfl fun hlen0 => ?_
  refine SC.seq ?_
  refine SC.region ?_
  refine RG.go tab 1 [] rfl ?_
  refine RG.nil ?_
  refine SC.seq ?_
  refine SC.seq ?_
  refine SC.region ?_
  refine RG.go tab 1 [] rfl ?_
  refine RG.nil ?_
  refine SC.block ?_
  refine SC.loop2 (fun (i : Nat) (r : Int) => a.length - i) (fun (i : Nat) (r : Int) => i ≤ a.length ∧ 0 ≤ r ∧ r + sumL nG (a.drop i) ≤ 1073741824 ∧ heldGs (a.drop i) r = heldGs a k) (fun (i : Nat) (r : Int) => [(0, vGroupS a), (1, .int .i64 r), (5, .int .i64 ((i : Nat) : Int))]) (fun (i : Nat) (r : Int) => []) 0 k ⟨Nat.zero_le _, by omega, by simpa using h2, by simp⟩ (Drop.none0) ⟨rfl, rfl, rfl, rfl, rfl, rfl, trivial⟩ (fun _ _ => Nat.le_of_ble_eq_true rfl) fun i r hI0 => ?_
  obtain ⟨hi, hr0, hr1, hI⟩ := hI0
  refine SC.seq ?_
  refine SC.seq ?_
  refine SC.region ?_
  refine RG.go tab 4 [] rfl ?_
  refine RG.nil ?_
  refine SC.cond rfl (fun hb1 => ?_) (fun hb1 => ?_)
  · try simp only [decide_eq_true_eq] at hb1
    refine SC.skip ?_
    refine SC.seq ?_
    refine SC.block ?_
    refine SC.seq ?_
    refine SC.region ?_
    refine RG.ask tab 7 [] rfl (by (repeat' refine And.intro ?_ ?_) <;> first | rfl | omega | (unfold in64; omega) | (simp; done) | (simp; omega) | (simp at *; omega)) ?_
    refine RG.pf rfl rfl (heldIntS_pf ((a.getD i ([], 0, 0)).1) r (by assumption) (by have hs := sumL_drop nG ([], 0, 0) (l := a) (i := i) (by omega); simp only [nG] at hs; omega)) rfl ?_
    refine RG.go tab 1 [] rfl ?_
    refine RG.nil ?_
    refine SC.seq ?_
    refine SC.seq ?_
    refine SC.region ?_
    refine RG.go tab 2 [] rfl ?_
    refine RG.nil ?_
    refine SC.cond rfl (fun hb2 => ?_) (fun hb2 => ?_)
    · try simp only [decide_eq_true_eq] at hb2
      refine SC.seq ?_
      refine SC.region ?_
      refine RG.go tab 1 [] rfl ?_
      refine RG.nil ?_
      refine SC.ret (End.ret tab rfl ?_)
      refine seal_eq rfl ?_
      have he : heldG (a.getD i ([], 0, 0)) r = -1 := by simp only [heldG]; (repeat' split) <;> first | rfl | omega | simp_all
      rw [drop_getD ([], 0, 0) (l := a) (i := i) (by omega)] at hI
      simp only [heldGs, heldL, he] at hI
      rw [if_pos (by omega)] at hI
      unfold heldGs; rw [← hI]
    · try simp only [decide_eq_false_iff_not, Int.not_lt] at hb2
      refine SC.skip ?_
      refine SC.seq ?_
      refine SC.seq ?_
      refine SC.region ?_
      refine RG.ask tab 7 [] rfl (by (repeat' refine And.intro ?_ ?_) <;> first | rfl | omega | (unfold in64; omega) | (simp; done) | (simp; omega) | (simp at *; omega)) ?_
      refine RG.nil ?_
      refine SC.cond rfl (fun hb3 => ?_) (fun hb3 => ?_)
      · try simp only [bne_iff_ne, ne_eq, Int.toNat_natCast] at hb3
        refine SC.seq ?_
        refine SC.region ?_
        refine RG.go tab 1 [] rfl ?_
        refine RG.nil ?_
        refine SC.ret (End.ret tab rfl ?_)
        refine seal_eq rfl ?_
        have he : heldG (a.getD i ([], 0, 0)) r = -1 := by simp only [heldG]; (repeat' split) <;> first | rfl | omega | simp_all
        rw [drop_getD ([], 0, 0) (l := a) (i := i) (by omega)] at hI
        simp only [heldGs, heldL, he] at hI
        rw [if_pos (by omega)] at hI
        unfold heldGs; rw [← hI]
      · try simp only [Int.toNat_natCast, bne_eq_false_iff_eq] at hb3
        refine SC.skip ?_
        refine SC.seq ?_
        refine SC.region ?_
        refine RG.ask tab 3 [] rfl (by have hc := heldI_neg (a.getD i ([], 0, 0)).1 r hr0; have hs := sumL_drop nG ([], 0, 0) (l := a) (i := i) (by omega); simp only [nG] at hs; unfold in64; omega) ?_
        refine RG.nil ?_
        refine SC.seq ?_
        refine SC.seq ?_
        refine SC.region ?_
        refine RG.ask tab 7 [] rfl (by (repeat' refine And.intro ?_ ?_) <;> first | rfl | omega | (unfold in64; omega) | (simp; done) | (simp; omega) | (simp at *; omega)) ?_
        refine RG.nil ?_
        refine SC.cond rfl (fun hb4 => ?_) (fun hb4 => ?_)
        · try simp only [bne_iff_ne, ne_eq, Int.toNat_natCast] at hb4
          refine SC.seq ?_
          refine SC.region ?_
          refine RG.go tab 1 [] rfl ?_
          refine RG.nil ?_
          refine SC.ret (End.ret tab rfl ?_)
          refine seal_eq rfl ?_
          have he : heldG (a.getD i ([], 0, 0)) r = -1 := by simp only [heldG]; (repeat' split) <;> first | rfl | omega | simp_all
          rw [drop_getD ([], 0, 0) (l := a) (i := i) (by omega)] at hI
          simp only [heldGs, heldL, he] at hI
          rw [if_pos (by omega)] at hI
          unfold heldGs; rw [← hI]
        · try simp only [Int.toNat_natCast, bne_eq_false_iff_eq] at hb4
          refine SC.skip ?_
          refine SC.region ?_
          refine RG.ask tab 3 [] rfl (by have hc := heldI_neg (a.getD i ([], 0, 0)).1 r hr0; have hs := sumL_drop nG ([], 0, 0) (l := a) (i := i) (by omega); simp only [nG] at hs; unfold in64; omega) ?_
          refine RG.nil ?_
          refine SC.region ?_
          refine RG.ask tab 3 [] rfl (by (repeat' refine And.intro ?_ ?_) <;> first | rfl | omega | (unfold in64; omega) | (simp; done) | (simp; omega) | (simp at *; omega)) ?_
          refine RG.nil ?_
          rw [drop_getD ([], 0, 0) (l := a) (i := i) (by omega)] at hI
          have hs := sumL_drop nG ([], 0, 0) (l := a) (i := i) (by omega)
          have hc := heldI_neg (a.getD i ([], 0, 0)).1 r hr0
          have he : heldG (a.getD i ([], 0, 0)) r = heldI (a.getD i ([], 0, 0)).1 r + 2 := by simp only [heldG]; rw [if_neg (by omega)]; simp_all
          simp only [heldGs, heldL, he] at hI
          rw [if_neg (by omega)] at hI
          simp only [nG] at hs
          refine ⟨i + 1, ((heldI ((a.getD i ([], 0, 0)).1) r) + 1) + 1, (by omega), ⟨by omega, by omega, by omega, (by first | exact hI | (unfold heldGs; rw [Int.add_assoc]; exact hI))⟩, Drop.none0, rfl, rfl, rfl, rfl, rfl, rfl, trivial⟩
  · try simp only [decide_eq_false_iff_not, Int.not_lt] at hb1
    refine SC.exit ?_
    refine SC.seq ?_
    refine SC.region ?_
    refine RG.go tab 2 [] rfl ?_
    refine RG.nil ?_
    refine SC.ret (End.ret tab rfl ?_)
    refine seal_eq rfl ?_
    rw [List.drop_eq_nil_of_le (by omega)] at hI
    rw [← hI]
    rfl
theorem heldTable_pf (a : Int × List (List Int × Int)) (k : Int) (h1 : 0 ≤ k) (h2 : k + sumL nW a.2 ≤ 1073741824) : PF Try.prog 14 [.agg [.int .i64 a.1, vWeightedS a.2], .int .i64 k] (.int .i64 (if heldWs a.2 k < 0 then -1 else heldWs a.2 k)) := by
  refine PF.text Try.func14 rfl rfl rfl fun B => ?_
  refine SC.lenA 0 1 rfl (Nat.le_of_ble_eq_true rfl) rfl fun hlen0_1 => ?_
  refine SC.seq ?_
  refine SC.region ?_
  refine RG.go tab 2 [] rfl ?_
  refine RG.nil ?_
  refine SC.seq ?_
  refine SC.region ?_
  refine RG.go tab 3 [] rfl ?_
  refine RG.pf rfl rfl (heldWeightedS_pf a.2 k (by first | assumption | omega | (simp only [sumL_fillWs, sumL_fillGs]; omega) | (simp; omega) | simp_all) (by first | assumption | omega | (simp only [sumL_fillWs, sumL_fillGs]; omega) | (simp; omega) | simp_all)) rfl ?_
  refine RG.go tab 1 [] rfl ?_
  refine RG.nil ?_
  refine SC.seq ?_
  refine SC.seq ?_
  refine SC.region ?_
  refine RG.go tab 2 [] rfl ?_
  refine RG.nil ?_
  refine SC.cond rfl (fun hb1 => ?_) (fun hb1 => ?_)
  · try simp only [decide_eq_true_eq] at hb1
    refine SC.seq ?_
    refine SC.region ?_
    refine RG.go tab 1 [] rfl ?_
    refine RG.nil ?_
    refine SC.ret (End.ret tab rfl ?_)
    refine seal_eq rfl ?_
    first | (rw [if_pos (by assumption)]; done) | (rw [if_neg (by omega)])
  · try simp only [decide_eq_false_iff_not, Int.not_lt] at hb1
    refine SC.skip ?_
    refine SC.seq ?_
    refine SC.region ?_
    refine RG.go tab 2 [] rfl ?_
    refine RG.nil ?_
    refine SC.ret (End.ret tab rfl ?_)
    refine seal_eq rfl ?_
    first | (rw [if_pos (by assumption)]; done) | (rw [if_neg (by omega)])
end Go.Proofs.Ythholadaflfpcaa
