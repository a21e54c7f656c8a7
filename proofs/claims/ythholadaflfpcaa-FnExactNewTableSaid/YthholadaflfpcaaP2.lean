import Derived.Test.YthholadaflfpcaaP1
namespace Go.Proofs.Ythholadaflfpcaa
open Go Go.Fw
theorem eqIntS_pf (a : List Int) (b : List Int) : PF Try.prog 116 [ints a, ints b] (.bool (decide (a = b))) := by
  refine PF.text Try.func116 rfl rfl rfl fun B => ?_
  refine SC.len 0 rfl fun hlen0 => ?_
  refine SC.len 1 rfl fun hlen1 => ?_
  refine SC.seq ?_
  refine SC.region ?_
  refine RG.go tab 1 [] rfl ?_
  refine RG.nil ?_
  refine SC.seq ?_
  refine SC.seq ?_
  refine SC.region ?_
  refine RG.go tab 5 [] rfl ?_
  refine RG.nil ?_
  refine SC.cond rfl (fun hb1 => ?_) (fun hb1 => ?_)
  · try simp only [bne_iff_ne, ne_eq] at hb1
    refine SC.seq ?_
    refine SC.region ?_
    refine RG.go tab 1 [] rfl ?_
    refine RG.nil ?_
    refine SC.ret (End.ret tab rfl ?_)
    refine seal_eq rfl ?_
    have : a ≠ b := fun e => by simp_all
    simp [this]
  · try simp only [bne_eq_false_iff_eq] at hb1
    refine SC.skip ?_
    refine SC.seq ?_
    refine SC.seq ?_
    refine SC.region ?_
    refine RG.go tab 1 [] rfl ?_
    refine RG.nil ?_
    refine SC.block ?_
    refine SC.loop1 (fun (i : Nat) => a.length - i) (fun (i : Nat) => i ≤ a.length ∧ a.length = b.length ∧ (a.drop i = b.drop i ↔ a = b)) (fun (i : Nat) => [(0, ints a), (1, ints b), (5, .int .i64 ((i : Nat) : Int))]) (fun (i : Nat) => []) 0 ⟨Nat.zero_le _, by omega, by simp⟩ (Drop.none0) ⟨rfl, rfl, rfl, rfl, rfl, rfl, trivial⟩ (fun _ => Nat.le_of_ble_eq_true rfl) fun i hI0 => ?_
    obtain ⟨hi, hab, hI⟩ := hI0
    refine SC.seq ?_
    refine SC.seq ?_
    refine SC.region ?_
    refine RG.go tab 4 [] rfl ?_
    refine RG.nil ?_
    refine SC.cond rfl (fun hb2 => ?_) (fun hb2 => ?_)
    · try simp only [decide_eq_true_eq] at hb2
      refine SC.skip ?_
      refine SC.seq ?_
      refine SC.block ?_
      refine SC.seq ?_
      refine SC.drawn tab [] (fun _ => .none) [] [] [0, 1, 2, 3, 4, 5, 6, 7, 8] 26 rfl mixed (by decide +kernel) ?_
      refine QR.ask 9 rfl (by (repeat' refine And.intro ?_ ?_) <;> first | rfl | omega | (unfold in64; omega) | (simp; done) | (simp; omega) | (simp at *; omega)) ?_
      refine QR.nil ?_
      refine SC.cond rfl (fun hb3 => ?_) (fun hb3 => ?_)
      · try simp only [bne_iff_ne, ne_eq, Int.toNat_natCast] at hb3
        refine SC.seq ?_
        refine SC.region ?_
        refine RG.go tab 1 [] rfl ?_
        refine RG.nil ?_
        refine SC.ret (End.ret tab rfl ?_)
        refine seal_eq rfl ?_
        rw [drop_getD 0 (l := a) (i := i) (by omega), drop_getD 0 (l := b) (i := i) (by omega)] at hI
        have : a ≠ b := fun e => by have := hI.2 e; simp only [List.cons.injEq] at this; exact hb3 this.1
        simp [this]
      · try simp only [Int.toNat_natCast, bne_eq_false_iff_eq] at hb3
        refine SC.skip ?_
        refine SC.region ?_
        refine RG.ask tab 3 [] rfl (by (repeat' refine And.intro ?_ ?_) <;> first | rfl | omega | (unfold in64; omega) | (simp; done) | (simp; omega) | (simp at *; omega)) ?_
        refine RG.nil ?_
        rw [drop_getD 0 (l := a) (i := i) (by omega), drop_getD 0 (l := b) (i := i) (by omega)] at hI
        refine ⟨i + 1, (by omega), ⟨by omega, hab, by rw [← hI, hb3]; simp⟩, Drop.none0, rfl, rfl, rfl, rfl, rfl, rfl, trivial⟩
    · try simp only [decide_eq_false_iff_not, Int.not_lt] at hb2
      refine SC.exit ?_
      refine SC.seq ?_
      refine SC.region ?_
      refine RG.go tab 1 [] rfl ?_
      refine RG.nil ?_
      refine SC.ret (End.ret tab rfl ?_)
      refine seal_eq rfl ?_
      have : a = b := hI.1 (by rw [List.drop_eq_nil_of_le (by omega), List.drop_eq_nil_of_le (by omega)])
      simp [this]
theorem eqRow_pf (a : List Int) (b : List Int) : PF Try.prog 87 [.agg [ints a], .agg [ints b]] (.bool (decide (a = b))) := by
  refine PF.text Try.func87 rfl rfl rfl fun B => ?_
  refine SC.lenA 0 0 rfl (Nat.le_of_ble_eq_true rfl) rfl fun hlen0_0 => ?_
  refine SC.lenA 1 0 rfl (Nat.le_of_ble_eq_true rfl) rfl fun hlen1_0 => ?_
  refine SC.seq ?_
  refine SC.region ?_
  refine RG.go tab 3 [] rfl ?_
  refine RG.nil ?_
  refine SC.seq ?_
  refine SC.seq ?_
  refine SC.region ?_
  refine RG.go tab 4 [] rfl ?_
  refine RG.pf rfl rfl (eqIntS_pf a b) rfl ?_
  refine RG.go tab 1 [] rfl ?_
  refine RG.nil ?_
  refine SC.cond rfl (fun hb1 => ?_) (fun hb1 => ?_)
  · try simp only [decide_eq_false_iff_not, Bool.not_eq_eq_eq_not, Bool.not_true] at hb1
    refine SC.seq ?_
    refine SC.region ?_
    refine RG.go tab 1 [] rfl ?_
    refine RG.nil ?_
    refine SC.ret (End.ret tab rfl ?_)
    refine seal_eq rfl ?_
    first | rfl | simp_all []
  · try simp only [decide_eq_true_eq, Bool.not_eq_eq_eq_not, Bool.not_false] at hb1
    refine SC.skip ?_
    refine SC.seq ?_
    refine SC.region ?_
    refine RG.go tab 1 [] rfl ?_
    refine RG.nil ?_
    refine SC.ret (End.ret tab rfl ?_)
    refine seal_eq rfl ?_
    first | rfl | simp_all []
theorem eqWeighted_pf (a : List Int × Int) (b : List Int × Int) : PF Try.prog 44 [.agg [ints a.1, .int .i64 a.2], .agg [ints b.1, .int .i64 b.2]] (.bool (decide (a = b))) := by
  refine PF.text Try.func44 rfl rfl rfl fun B => ?_
  refine SC.lenA 0 0 rfl (Nat.le_of_ble_eq_true rfl) rfl fun hlen0_0 => ?_
  refine SC.lenA 1 0 rfl (Nat.le_of_ble_eq_true rfl) rfl fun hlen1_0 => ?_
  refine SC.seq ?_
  refine SC.region ?_
  refine RG.go tab 3 [] rfl ?_
  refine RG.nil ?_
  refine SC.seq ?_
  refine SC.seq ?_
  refine SC.region ?_
  refine RG.go tab 4 [] rfl ?_
  refine RG.pf rfl rfl (eqRow_pf a.1 b.1) rfl ?_
  refine RG.go tab 1 [] rfl ?_
  refine RG.nil ?_
  refine SC.cond rfl (fun hb1 => ?_) (fun hb1 => ?_)
  · try simp only [decide_eq_false_iff_not, Bool.not_eq_eq_eq_not, Bool.not_true] at hb1
    refine SC.seq ?_
    refine SC.region ?_
    refine RG.go tab 1 [] rfl ?_
    refine RG.nil ?_
    refine SC.ret (End.ret tab rfl ?_)
    refine seal_eq rfl ?_
    first | rfl | simp_all [Prod.ext_iff]
  · try simp only [decide_eq_true_eq, Bool.not_eq_eq_eq_not, Bool.not_false] at hb1
    refine SC.skip ?_
    refine SC.seq ?_
    refine SC.seq ?_
    refine SC.region ?_
    refine RG.go tab 5 [] rfl ?_
    refine RG.nil ?_
    refine SC.cond rfl (fun hb2 => ?_) (fun hb2 => ?_)
    · try simp only [bne_iff_ne, ne_eq] at hb2
      refine SC.seq ?_
      refine SC.region ?_
      refine RG.go tab 1 [] rfl ?_
      refine RG.nil ?_
      refine SC.ret (End.ret tab rfl ?_)
      refine seal_eq rfl ?_
      first | rfl | simp_all [Prod.ext_iff]
    · try simp only [bne_eq_false_iff_eq] at hb2
      refine SC.skip ?_
      refine SC.seq ?_
      refine SC.region ?_
      refine RG.go tab 1 [] rfl ?_
      refine RG.nil ?_
      refine SC.ret (End.ret tab rfl ?_)
      refine seal_eq rfl ?_
      first | rfl | simp_all [Prod.ext_iff]
theorem eqGroup_pf (a : List Int × Int × Int) (b : List Int × Int × Int) : PF Try.prog 55 [.agg [ints a.1, .int .i64 a.2.1, .int .i64 a.2.2], .agg [ints b.1, .int .i64 b.2.1, .int .i64 b.2.2]] (.bool (decide (a = b))) := by
  refine PF.text Try.func55 rfl rfl rfl fun B => ?_
  refine SC.lenA 0 0 rfl (Nat.le_of_ble_eq_true rfl) rfl fun hlen0_0 => ?_
  refine SC.lenA 1 0 rfl (Nat.le_of_ble_eq_true rfl) rfl fun hlen1_0 => ?_
  refine SC.seq ?_
  refine SC.region ?_
  refine RG.go tab 3 [] rfl ?_
  refine RG.nil ?_
  refine SC.seq ?_
  refine SC.seq ?_
  refine SC.region ?_
  refine RG.go tab 4 [] rfl ?_
  refine RG.pf rfl rfl (eqRow_pf a.1 b.1) rfl ?_
  refine RG.go tab 1 [] rfl ?_
  refine RG.nil ?_
  refine SC.cond rfl (fun hb1 => ?_) (fun hb1 => ?_)
  · try simp only [decide_eq_false_iff_not, Bool.not_eq_eq_eq_not, Bool.not_true] at hb1
    refine SC.seq ?_
    refine SC.region ?_
    refine RG.go tab 1 [] rfl ?_
    refine RG.nil ?_
    refine SC.ret (End.ret tab rfl ?_)
    refine seal_eq rfl ?_
    first | rfl | simp_all [Prod.ext_iff]
  · try simp only [decide_eq_true_eq, Bool.not_eq_eq_eq_not, Bool.not_false] at hb1
    refine SC.skip ?_
    refine SC.seq ?_
    refine SC.seq ?_
    refine SC.region ?_
    refine RG.go tab 5 [] rfl ?_
    refine RG.nil ?_
    refine SC.cond rfl (fun hb2 => ?_) (fun hb2 => ?_)
    · try simp only [bne_iff_ne, ne_eq] at hb2
      refine SC.seq ?_
      refine SC.region ?_
      refine RG.go tab 1 [] rfl ?_
      refine RG.nil ?_
      refine SC.ret (End.ret tab rfl ?_)
      refine seal_eq rfl ?_
      first | rfl | simp_all [Prod.ext_iff]
    · try simp only [bne_eq_false_iff_eq] at hb2
      refine SC.skip ?_
      refine SC.seq ?_
      refine SC.seq ?_
      refine SC.region ?_
      refine RG.go tab 5 [] rfl ?_
      refine RG.nil ?_
      refine SC.cond rfl (fun hb3 => ?_) (fun hb3 => ?_)
      · try simp only [bne_iff_ne, ne_eq] at hb3
        refine SC.seq ?_
        refine SC.region ?_
        refine RG.go tab 1 [] rfl ?_
        refine RG.nil ?_
        refine SC.ret (End.ret tab rfl ?_)
        refine seal_eq rfl ?_
        first | rfl | simp_all [Prod.ext_iff]
      · try simp only [bne_eq_false_iff_eq] at hb3
        refine SC.skip ?_
        refine SC.seq ?_
        refine SC.region ?_
        refine RG.go tab 1 [] rfl ?_
        refine RG.nil ?_
        refine SC.ret (End.ret tab rfl ?_)
        refine seal_eq rfl ?_
        first | rfl | simp_all [Prod.ext_iff]
theorem eqWeightedS_pf (a : List (List Int × Int)) (b : List (List Int × Int)) : PF Try.prog 11 [vWeightedS a, vWeightedS b] (.bool (decide (a = b))) := by
  refine PF.text Try.func11 rfl rfl rfl fun B => ?_
  refine SC.len 0 rfl fun hlen0 => ?_
  refine SC.len 1 rfl fun hlen1 => ?_
  refine SC.seq ?_
  refine SC.region ?_
  refine RG.go tab 1 [] rfl ?_
  refine RG.nil ?_
  refine SC.seq ?_
  refine SC.seq ?_
  refine SC.region ?_
  refine RG.go tab 5 [] rfl ?_
  refine RG.nil ?_
  refine SC.cond rfl (fun hb1 => ?_) (fun hb1 => ?_)
  · try simp only [bne_iff_ne, ne_eq] at hb1
    refine SC.seq ?_
    refine SC.region ?_
    refine RG.go tab 1 [] rfl ?_
    refine RG.nil ?_
    refine SC.ret (End.ret tab rfl ?_)
    refine seal_eq rfl ?_
    have : a ≠ b := fun e => by simp_all
    simp [this]
  · try simp only [bne_eq_false_iff_eq] at hb1
    refine SC.skip ?_
    refine SC.seq ?_
    refine SC.seq ?_
    refine SC.region ?_
    refine RG.go tab 1 [] rfl ?_
    refine RG.nil ?_
    refine SC.block ?_
    refine SC.loop1 (fun (i : Nat) => a.length - i) (fun (i : Nat) => i ≤ a.length ∧ a.length = b.length ∧ (a.drop i = b.drop i ↔ a = b)) (fun (i : Nat) => [(0, vWeightedS a), (1, vWeightedS b), (5, .int .i64 ((i : Nat) : Int))]) (fun (i : Nat) => []) 0 ⟨Nat.zero_le _, by omega, by simp⟩ (Drop.none0) ⟨rfl, rfl, rfl, rfl, rfl, rfl, trivial⟩ (fun _ => Nat.le_of_ble_eq_true rfl) fun i hI0 => ?_
    obtain ⟨hi, hab, hI⟩ := hI0
    refine SC.seq ?_
    refine SC.seq ?_
    refine SC.region ?_
    refine RG.go tab 4 [] rfl ?_
    refine RG.nil ?_
    refine SC.cond rfl (fun hb2 => ?_) (fun hb2 => ?_)
    · try simp only [decide_eq_true_eq] at hb2
      refine SC.skip ?_
      refine SC.seq ?_
      refine SC.block ?_
      refine SC.seq ?_
      refine SC.drawn tab [] (fun kk => if kk = 8 then .pf (.bool (decide ((a.getD i ([], 0)) = (b.getD i ([], 0))))) else .none) [] [] [0, 1, 2, 3, 4, 5, 6, 7, 8, 9] 27 rfl mixed (by decide +kernel) ?_
      refine QR.ask 8 rfl (by (repeat' refine And.intro ?_ ?_) <;> first | rfl | omega | (unfold in64; omega) | (simp; done) | (simp; omega) | (simp at *; omega)) ?_
      refine QR.pfc rfl rfl (eqWeighted_pf (a.getD i ([], 0)) (b.getD i ([], 0))) rfl ?_
      refine QR.go 1 rfl ?_
      refine QR.nil ?_
      refine SC.cond rfl (fun hb3 => ?_) (fun hb3 => ?_)
      · try simp only [decide_eq_false_iff_not, Bool.not_eq_eq_eq_not, Bool.not_true] at hb3
        refine SC.seq ?_
        refine SC.region ?_
        refine RG.go tab 1 [] rfl ?_
        refine RG.nil ?_
        refine SC.ret (End.ret tab rfl ?_)
        refine seal_eq rfl ?_
        rw [drop_getD ([], 0) (l := a) (i := i) (by omega), drop_getD ([], 0) (l := b) (i := i) (by omega)] at hI
        have : a ≠ b := fun e => by have := hI.2 e; simp only [List.cons.injEq] at this; exact hb3 this.1
        simp [this]
      · try simp only [decide_eq_true_eq, Bool.not_eq_eq_eq_not, Bool.not_false] at hb3
        refine SC.skip ?_
        refine SC.region ?_
        refine RG.ask tab 3 [] rfl (by (repeat' refine And.intro ?_ ?_) <;> first | rfl | omega | (unfold in64; omega) | (simp; done) | (simp; omega) | (simp at *; omega)) ?_
        refine RG.nil ?_
        rw [drop_getD ([], 0) (l := a) (i := i) (by omega), drop_getD ([], 0) (l := b) (i := i) (by omega)] at hI
        refine ⟨i + 1, (by omega), ⟨by omega, hab, by rw [← hI, hb3]; simp⟩, Drop.none0, rfl, rfl, rfl, rfl, rfl, rfl, trivial⟩
    · try simp only [decide_eq_false_iff_not, Int.not_lt] at hb2
      refine SC.exit ?_
      refine SC.seq ?_
      refine SC.region ?_
      refine RG.go tab 1 [] rfl ?_
      refine RG.nil ?_
      refine SC.ret (End.ret tab rfl ?_)
      refine seal_eq rfl ?_
      have : a = b := hI.1 (by rw [List.drop_eq_nil_of_le (by omega), List.drop_eq_nil_of_le (by omega)])
      simp [this]
theorem eqGroupS_pf (a : List (List Int × Int × Int)) (b : List (List Int × Int × Int)) : PF Try.prog 19 [vGroupS a, vGroupS b] (.bool (decide (a = b))) := by
  refine PF.text Try.func19 rfl rfl rfl fun B => ?_
  refine SC.len 0 rfl fun hlen0 => ?_
  refine SC.len 1 rfl fun hlen1 => ?_
  refine SC.seq ?_
  refine SC.region ?_
  refine RG.go tab 1 [] rfl ?_
  refine RG.nil ?_
  refine SC.seq ?_
  refine SC.seq ?_
  refine SC.region ?_
  refine RG.go tab 5 [] rfl ?_
  refine RG.nil ?_
  refine SC.cond rfl (fun hb1 => ?_) (fun hb1 => ?_)
  · try simp only [bne_iff_ne, ne_eq] at hb1
    refine SC.seq ?_
    refine SC.region ?_
    refine RG.go tab 1 [] rfl ?_
    refine RG.nil ?_
    refine SC.ret (End.ret tab rfl ?_)
    refine seal_eq rfl ?_
    have : a ≠ b := fun e => by simp_all
    simp [this]
  · try simp only [bne_eq_false_iff_eq] at hb1
    refine SC.skip ?_
    refine SC.seq ?_
    refine SC.seq ?_
    refine SC.region ?_
    refine RG.go tab 1 [] rfl ?_
    refine RG.nil ?_
    refine SC.block ?_
    refine SC.loop1 (fun (i : Nat) => a.length - i) (fun (i : Nat) => i ≤ a.length ∧ a.length = b.length ∧ (a.drop i = b.drop i ↔ a = b)) (fun (i : Nat) => [(0, vGroupS a), (1, vGroupS b), (5, .int .i64 ((i : Nat) : Int))]) (fun (i : Nat) => []) 0 ⟨Nat.zero_le _, by omega, by simp⟩ (Drop.none0) ⟨rfl, rfl, rfl, rfl, rfl, rfl, trivial⟩ (fun _ => Nat.le_of_ble_eq_true rfl) fun i hI0 => ?_
    obtain ⟨hi, hab, hI⟩ := hI0
    refine SC.seq ?_
    refine SC.seq ?_
    refine SC.region ?_
    refine RG.go tab 4 [] rfl ?_
    refine RG.nil ?_
    refine SC.cond rfl (fun hb2 => ?_) (fun hb2 => ?_)
    · try simp only [decide_eq_true_eq] at hb2
      refine SC.skip ?_
      refine SC.seq ?_
      refine SC.block ?_
      refine SC.seq ?_
      refine SC.drawn tab [] (fun kk => if kk = 8 then .pf (.bool (decide ((a.getD i ([], 0, 0)) = (b.getD i ([], 0, 0))))) else .none) [] [] [0, 1, 2, 3, 4, 5, 6, 7, 8, 9] 27 rfl mixed (by decide +kernel) ?_
      refine QR.ask 8 rfl (by (repeat' refine And.intro ?_ ?_) <;> first | rfl | omega | (unfold in64; omega) | (simp; done) | (simp; omega) | (simp at *; omega)) ?_
      refine QR.pfc rfl rfl (eqGroup_pf (a.getD i ([], 0, 0)) (b.getD i ([], 0, 0))) rfl ?_
      refine QR.go 1 rfl ?_
      refine QR.nil ?_
      refine SC.cond rfl (fun hb3 => ?_) (fun hb3 => ?_)
      · try simp only [decide_eq_false_iff_not, Bool.not_eq_eq_eq_not, Bool.not_true] at hb3
        refine SC.seq ?_
        refine SC.region ?_
        refine RG.go tab 1 [] rfl ?_
        refine RG.nil ?_
        refine SC.ret (End.ret tab rfl ?_)
        refine seal_eq rfl ?_
        rw [drop_getD ([], 0, 0) (l := a) (i := i) (by omega), drop_getD ([], 0, 0) (l := b) (i := i) (by omega)] at hI
        have : a ≠ b := fun e => by have := hI.2 e; simp only [List.cons.injEq] at this; exact hb3 this.1
        simp [this]
      · try simp only [decide_eq_true_eq, Bool.not_eq_eq_eq_not, Bool.not_false] at hb3
        refine SC.skip ?_
        refine SC.region ?_
        refine RG.ask tab 3 [] rfl (by (repeat' refine And.intro ?_ ?_) <;> first | rfl | omega | (unfold in64; omega) | (simp; done) | (simp; omega) | (simp at *; omega)) ?_
        refine RG.nil ?_
        rw [drop_getD ([], 0, 0) (l := a) (i := i) (by omega), drop_getD ([], 0, 0) (l := b) (i := i) (by omega)] at hI
        refine ⟨i + 1, (by omega), ⟨by omega, hab, by rw [← hI, hb3]; simp⟩, Drop.none0, rfl, rfl, rfl, rfl, rfl, rfl, trivial⟩
    · try simp only [decide_eq_false_iff_not, Int.not_lt] at hb2
      refine SC.exit ?_
      refine SC.seq ?_
      refine SC.region ?_
      refine RG.go tab 1 [] rfl ?_
      refine RG.nil ?_
      refine SC.ret (End.ret tab rfl ?_)
      refine seal_eq rfl ?_
      have : a = b := hI.1 (by rw [List.drop_eq_nil_of_le (by omega), List.drop_eq_nil_of_le (by omega)])
      simp [this]
theorem eqTable_pf (a : Int × List (List Int × Int)) (b : Int × List (List Int × Int)) : PF Try.prog 10 [.agg [.int .i64 a.1, vWeightedS a.2], .agg [.int .i64 b.1, vWeightedS b.2]] (.bool (decide (a = b))) := by
  refine PF.text Try.func10 rfl rfl rfl fun B => ?_
  refine SC.lenA 0 1 rfl (Nat.le_of_ble_eq_true rfl) rfl fun hlen0_1 => ?_
  refine SC.lenA 1 1 rfl (Nat.le_of_ble_eq_true rfl) rfl fun hlen1_1 => ?_
  refine SC.seq ?_
  refine SC.region ?_
  refine RG.go tab 3 [] rfl ?_
  refine RG.nil ?_
  refine SC.seq ?_
  refine SC.seq ?_
  refine SC.region ?_
  refine RG.go tab 5 [] rfl ?_
  refine RG.nil ?_
  refine SC.cond rfl (fun hb1 => ?_) (fun hb1 => ?_)
  · try simp only [bne_iff_ne, ne_eq] at hb1
    refine SC.seq ?_
    refine SC.region ?_
    refine RG.go tab 1 [] rfl ?_
    refine RG.nil ?_
    refine SC.ret (End.ret tab rfl ?_)
    refine seal_eq rfl ?_
    first | rfl | simp_all [Prod.ext_iff]
  · try simp only [bne_eq_false_iff_eq] at hb1
    refine SC.skip ?_
    refine SC.seq ?_
    refine SC.seq ?_
    refine SC.region ?_
    refine RG.go tab 4 [] rfl ?_
    refine RG.pf rfl rfl (eqWeightedS_pf a.2 b.2) rfl ?_
    refine RG.go tab 1 [] rfl ?_
    refine RG.nil ?_
    refine SC.cond rfl (fun hb2 => ?_) (fun hb2 => ?_)
    · try simp only [decide_eq_false_iff_not, Bool.not_eq_eq_eq_not, Bool.not_true] at hb2
      refine SC.seq ?_
      refine SC.region ?_
      refine RG.go tab 1 [] rfl ?_
      refine RG.nil ?_
      refine SC.ret (End.ret tab rfl ?_)
      refine seal_eq rfl ?_
      first | rfl | simp_all [Prod.ext_iff]
    · try simp only [decide_eq_true_eq, Bool.not_eq_eq_eq_not, Bool.not_false] at hb2
      refine SC.skip ?_
      refine SC.seq ?_
      refine SC.region ?_
      refine RG.go tab 1 [] rfl ?_
      refine RG.nil ?_
      refine SC.ret (End.ret tab rfl ?_)
      refine seal_eq rfl ?_
      first | rfl | simp_all [Prod.ext_iff]
end Go.Proofs.Ythholadaflfpcaa
