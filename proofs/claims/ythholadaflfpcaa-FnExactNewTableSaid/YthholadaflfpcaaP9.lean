import Derived.Test.YthholadaflfpcaaP8
namespace Go.Proofs.Ythholadaflfpcaa
open Go Go.Fw
theorem cmpL_ord : OrdC cmpL := by
  have asym : ∀ x y, cmpL x y < 0 → ¬ cmpL y x < 0 := by
    intro x
    induction x with
    | nil => intro y; cases y <;> simp [cmpL]
    | cons a x ih =>
      intro y
      cases y with
      | nil => simp [cmpL]
      | cons b y =>
        simp only [cmpL]
        have := ih y
        (repeat' split) <;> omega
  have trans : ∀ x y z, ¬ cmpL y x < 0 → ¬ cmpL z y < 0 → ¬ cmpL z x < 0 := by
    intro x
    induction x with
    | nil => intro y z; cases y <;> cases z <;> simp [cmpL]
    | cons a x ih =>
      intro y z
      cases y with
      | nil => cases z <;> simp [cmpL]
      | cons b y =>
        cases z with
        | nil => simp [cmpL]
        | cons c z =>
          simp only [cmpL]
          have := ih y z
          (repeat' split) <;> omega
  exact ⟨asym, trans⟩
def rW (w : List Int × Int) : List AV := [ints w.1, .int .i64 w.2]
def cW (x y : List Int × Int) : Int := cmpL x.1 y.1
theorem cW_ord : OrdC cW := ⟨fun x y h => (cmpL_ord.asym _ _ h), fun x y z h1 h2 => cmpL_ord.trans _ _ _ h1 h2⟩
theorem cW_pf (x : List Int × Int) (y : List Int × Int) : PF Try.prog 84 [.agg [ints x.1, .int .i64 x.2], .agg [ints y.1, .int .i64 y.2]] (.int .i64 (cW x y)) := by
  refine PF.text Try.func84 rfl rfl rfl fun B => ?_
  refine SC.lenA 0 0 rfl (Nat.le_of_ble_eq_true rfl) rfl fun hlen0_0 => ?_
  refine SC.lenA 1 0 rfl (Nat.le_of_ble_eq_true rfl) rfl fun hlen1_0 => ?_
  refine SC.seq ?_
  refine SC.region ?_
  refine RG.go tab 3 [] rfl ?_
  refine RG.nil ?_
  refine SC.seq ?_
  refine SC.region ?_
  refine RG.go tab 4 [] rfl ?_
  refine RG.pf rfl rfl (compareRows_pf x.1 y.1) rfl ?_
  refine RG.go tab 1 [] rfl ?_
  refine RG.nil ?_
  refine SC.ret (End.ret tab rfl ?_)
  refine seal_eq rfl ?_
  first | rfl | simp_all
theorem swapRangeW (xs : List (List Int × Int)) (L a b n : Nat) (hL : xs.length = L) (hx : L ≤ 1099511627776) (hab : a + n ≤ b) (hb : b + n ≤ L) : FC Try.prog 138 [.sl 0 L, .int .i64 ((a : Nat) : Int), .int .i64 ((b : Nat) : Int), .int .i64 ((n : Nat) : Int), .fn 84 [] []] [some ⟨72, 2, xs.map rW⟩] (fun r S' => r = .tup [] ∧ ∃ ys, S' = [some ⟨72, 2, ys.map rW⟩] ∧ SwpR ([], 0) xs ys a b n ∧ Win ([], 0) xs ys a (b + n)) := by
  refine FC.text Try.func138 rfl rfl rfl fun B => ?_
  refine SC.seq ?_
  refine SC.region ?_
  refine RG.go tab 1 [0] rfl ?_
  refine RG.nil ?_
  refine SC.block ?_
  refine SC.loop2 (fun (i : Nat) (ys : List (List Int × Int)) => n - i) (fun (i : Nat) (ys : List (List Int × Int)) => i ≤ n ∧ ys.length = L ∧ SwpR ([], 0) xs ys a b i ∧ Win ([], 0) xs ys a (b + n)) (fun (i : Nat) (ys : List (List Int × Int)) => [(0, .sl 0 L), (1, .int .i64 ((a : Nat) : Int)), (2, .int .i64 ((b : Nat) : Int)), (3, .int .i64 ((n : Nat) : Int)), (10, .int .i64 ((i : Nat) : Int))]) (fun (i : Nat) (ys : List (List Int × Int)) => [some ⟨72, 2, ys.map rW⟩]) 0 xs ⟨Nat.zero_le _, hL, SwpR.zero _ _ _, Win.refl _ _ _⟩ (Drop.mask [true] (rfl) ⟨Sc.rows fun _ => ⟨rfl, rfl⟩, trivial⟩) ⟨rfl, rfl, rfl, rfl, rfl, rfl, rfl, rfl, rfl, rfl, trivial⟩ (fun _ _ => Nat.le_of_ble_eq_true rfl) fun i ys hI0 => ?_
  obtain ⟨hi, hys, hI, hW⟩ := hI0
  refine SC.seq ?_
  refine SC.seq ?_
  refine SC.region ?_
  refine RG.go tab 3 [0] rfl ?_
  refine RG.nil ?_
  refine SC.cond rfl (fun hb1 => ?_) (fun hb1 => ?_)
  · try simp only [decide_eq_true_eq] at hb1
    refine SC.skip ?_
    refine SC.seq ?_
    refine SC.block ?_
    refine SC.drawn tab [0] (fun _ => .none) [4, 5, 6, 7] [0] [0, 1, 2, 3, 4, 5, 6, 7, 8, 9, 10, 11, 12, 13, 14, 15, 16, 17, 18, 19, 20, 21, 22, 23] 38 rfl mixed (by decide +kernel) ?_
    refine QR.ask 13 rfl (by (repeat' refine And.intro ?_ ?_) <;> first | rfl | omega | (unfold in64; omega) | (simp; done) | (simp; omega) | (simp at *; omega)) ?_
    refine QR.ldr ([], 0) rfl rfl rfl rfl (by first | rfl | assumption | omega | (simp only [List.length_set]; first | assumption | omega) | (simp; omega)) (by first | omega | (simp only [List.length_set]; omega) | (simp; omega)) rfl rfl ?_
    refine QR.ask 5 rfl (by (repeat' refine And.intro ?_ ?_) <;> first | rfl | omega | (unfold in64; omega) | (simp; done) | (simp; omega) | (simp at *; omega)) ?_
    refine QR.ldr ([], 0) rfl rfl rfl rfl (by first | rfl | assumption | omega | (simp only [List.length_set]; first | assumption | omega) | (simp; omega)) (by first | omega | (simp only [List.length_set]; omega) | (simp; omega)) rfl rfl ?_
    refine QR.ask 1 rfl (by (repeat' refine And.intro ?_ ?_) <;> first | rfl | omega | (unfold in64; omega) | (simp; done) | (simp; omega) | (simp at *; omega)) ?_
    refine QR.str ([], 0) (ys.getD (b + i) ([], 0)) rfl rfl rfl rfl rfl rfl (by first | rfl | assumption | omega | (simp only [List.length_set]; first | assumption | omega) | (simp; omega)) (by first | omega | (simp only [List.length_set]; omega) | (simp; omega)) rfl rfl rfl rfl rfl rfl rfl ?_
    refine QR.ask 1 rfl (by (repeat' refine And.intro ?_ ?_) <;> first | rfl | omega | (unfold in64; omega) | (simp; done) | (simp; omega) | (simp at *; omega)) ?_
    refine QR.str ([], 0) (ys.getD (a + i) ([], 0)) rfl rfl rfl rfl rfl rfl (by first | rfl | assumption | omega | (simp only [List.length_set]; first | assumption | omega) | (simp; omega)) (by first | omega | (simp only [List.length_set]; omega) | (simp; omega)) rfl rfl rfl rfl rfl rfl rfl ?_
    refine QR.nil ?_
    refine SC.region ?_
    refine RG.ask tab 3 [0] rfl (by (repeat' refine And.intro ?_ ?_) <;> first | rfl | omega | (unfold in64; omega) | (simp; done) | (simp; omega) | (simp at *; omega)) ?_
    refine RG.nil ?_
    refine ⟨i + 1, swp ([], 0) ys (a + i) (b + i), (by omega), ⟨by omega, by rw [swp_len, hys], hI.step (by omega) (by omega) hab (by omega), hW.trans (Win.swp ⟨by omega, by omega⟩ ⟨by omega, by omega⟩ (by omega))⟩, Drop.mask [true] rfl ⟨Sc.rows fun _ => ⟨rfl, rfl⟩, trivial⟩, rfl, rfl, rfl, rfl, rfl, rfl, rfl, rfl, rfl, rfl, trivial⟩
  · try simp only [decide_eq_false_iff_not, Int.not_lt] at hb1
    refine SC.exit ?_
    refine End.normal tab rfl ?_
    exact ⟨rfl, ys, rfl, by rw [show n = i by omega]; exact hI, hW⟩
theorem rotateW (xs : List (List Int × Int)) (L a m b : Nat) (hL : xs.length = L) (hx : L ≤ 1099511627776) (ham : a < m) (hmb : m < b) (hb : b ≤ L) : FC Try.prog 135 [.sl 0 L, .int .i64 ((a : Nat) : Int), .int .i64 ((m : Nat) : Int), .int .i64 ((b : Nat) : Int), .fn 84 [] []] [some ⟨72, 2, xs.map rW⟩] (fun r S' => r = .tup [] ∧ ∃ ys, S' = [some ⟨72, 2, ys.map rW⟩] ∧ (∀ k, ys.getD k ([], 0) = rotG ([], 0) xs a (m - a) (b - m) k) ∧ Win ([], 0) xs ys a b) := by
  refine FC.text Try.func135 rfl rfl rfl fun B => ?_
  refine SC.seq ?_
  refine SC.region ?_
  refine RG.ask tab 3 [0] rfl (by (repeat' refine And.intro ?_ ?_) <;> first | rfl | omega | (unfold in64; omega) | (simp; done) | (simp; omega) | (simp at *; omega)) ?_
  refine RG.re (v' := .int .i64 (((m : Nat) : Int) - ((a : Nat) : Int))) 14 (.int .i64 ((m - a : Nat) : Int)) rfl (congrArg (AV.int .i64) (by omega)) ?_
  refine RG.go tab 1 [0] rfl ?_
  refine RG.nil ?_
  refine SC.seq ?_
  refine SC.region ?_
  refine RG.ask tab 3 [0] rfl (by (repeat' refine And.intro ?_ ?_) <;> first | rfl | omega | (unfold in64; omega) | (simp; done) | (simp; omega) | (simp at *; omega)) ?_
  refine RG.re (v' := .int .i64 (((b : Nat) : Int) - ((m : Nat) : Int))) 17 (.int .i64 ((b - m : Nat) : Int)) rfl (congrArg (AV.int .i64) (by omega)) ?_
  refine RG.go tab 1 [0] rfl ?_
  refine RG.nil ?_
  refine SC.seq ?_
  refine SC.block ?_
  refine SC.loop3 (fun (i : Nat) (j : Nat) (ys : List (List Int × Int)) => i + j) (fun (i : Nat) (j : Nat) (ys : List (List Int × Int)) => 0 < i ∧ 0 < j ∧ i ≤ m - a ∧ j ≤ b - m ∧ ys.length = L ∧ (∀ k, rotG ([], 0) ys (m - i) i j k = rotG ([], 0) xs a (m - a) (b - m) k) ∧ Win ([], 0) xs ys a b) (fun (i : Nat) (j : Nat) (ys : List (List Int × Int)) => [(0, .sl 0 L), (2, .int .i64 ((m : Nat) : Int)), (4, .fn 84 [] []), (10, .int .i64 ((i : Nat) : Int)), (11, .int .i64 ((j : Nat) : Int))]) (fun (i : Nat) (j : Nat) (ys : List (List Int × Int)) => [some ⟨72, 2, ys.map rW⟩]) (m - a) (b - m) xs ⟨by omega, by omega, Nat.le_refl _, Nat.le_refl _, hL, fun k => by rw [show m - (m - a) = a by omega], Win.refl _ _ _⟩ (Drop.mask [true] (rfl) ⟨Sc.rows fun _ => ⟨rfl, rfl⟩, trivial⟩) ⟨rfl, rfl, rfl, rfl, rfl, rfl, rfl, rfl, rfl, rfl, trivial⟩ (fun _ _ _ => Nat.le_of_ble_eq_true rfl) fun i j ys hI0 => ?_
  obtain ⟨hi0, hj0, hi, hj, hys, hI, hW⟩ := hI0
  refine SC.seq ?_
  refine SC.seq ?_
  refine SC.region ?_
  refine RG.go tab 3 [0] rfl ?_
  refine RG.nil ?_
  refine SC.cond rfl (fun hb1 => ?_) (fun hb1 => ?_)
  · try simp only [bne_iff_ne, ne_eq] at hb1
    refine SC.skip ?_
    refine SC.block ?_
    refine SC.seq ?_
    refine SC.region ?_
    refine RG.go tab 3 [0] rfl ?_
    refine RG.nil ?_
    refine SC.cond rfl (fun hb2 => ?_) (fun hb2 => ?_)
    · try simp only [decide_eq_true_eq] at hb2
      refine SC.seq ?_
      refine SC.region ?_
      refine RG.ask tab 4 [0] rfl (by (repeat' refine And.intro ?_ ?_) <;> first | rfl | omega | (unfold in64; omega) | (simp; done) | (simp; omega) | (simp at *; omega)) ?_
      refine RG.re (v' := .int .i64 (((m : Nat) : Int) - ((i : Nat) : Int))) 27 (.int .i64 ((m - i : Nat) : Int)) rfl (congrArg (AV.int .i64) (by omega)) ?_
      refine RG.go tab 3 [0] rfl ?_
      refine RG.fc rfl rfl (swapRangeW ys L (m - i) m j hys hx (by omega) (by omega)) (fun r0 S0 hq => ?_)
      obtain ⟨rfl, ys1, rfl, hsw, hw1⟩ := hq
      refine RG.nil ?_
      refine SC.region ?_
      refine RG.ask tab 3 [0] rfl (by (repeat' refine And.intro ?_ ?_) <;> first | rfl | omega | (unfold in64; omega) | (simp; done) | (simp; omega) | (simp at *; omega)) ?_
      refine RG.re (v' := .int .i64 (((i : Nat) : Int) - ((j : Nat) : Int))) 34 (.int .i64 ((i - j : Nat) : Int)) rfl (congrArg (AV.int .i64) (by omega)) ?_
      refine RG.go tab 1 [0] rfl ?_
      refine RG.nil ?_
      refine ⟨i - j, j, ys1, (by omega), ⟨by omega, by omega, by omega, by omega, by rw [hw1.len, hys], fun k => (rotG_gt hsw (by omega) (by omega) k).trans (hI k), hW.trans (hw1.wide (by omega) (by omega))⟩, Drop.mask [true] rfl ⟨Sc.rows fun _ => ⟨rfl, rfl⟩, trivial⟩, rfl, rfl, rfl, rfl, rfl, rfl, rfl, rfl, rfl, rfl, trivial⟩
    · try simp only [decide_eq_false_iff_not, Int.not_lt] at hb2
      refine SC.seq ?_
      refine SC.region ?_
      refine RG.ask tab 4 [0] rfl (by (repeat' refine And.intro ?_ ?_) <;> first | rfl | omega | (unfold in64; omega) | (simp; done) | (simp; omega) | (simp at *; omega)) ?_
      refine RG.re (v' := .int .i64 (((m : Nat) : Int) - ((i : Nat) : Int))) 38 (.int .i64 ((m - i : Nat) : Int)) rfl (congrArg (AV.int .i64) (by omega)) ?_
      refine RG.ask tab 5 [0] rfl (by (repeat' refine And.intro ?_ ?_) <;> first | rfl | omega | (unfold in64; omega) | (simp; done) | (simp; omega) | (simp at *; omega)) ?_
      refine RG.re (v' := .int .i64 (((m + j : Nat) : Int) - ((i : Nat) : Int))) 43 (.int .i64 (((m + j) - i : Nat) : Int)) rfl (congrArg (AV.int .i64) (by omega)) ?_
      refine RG.go tab 2 [0] rfl ?_
      refine RG.fc rfl rfl (swapRangeW ys L (m - i) (m + j - i) i hys hx (by omega) (by omega)) (fun r0 S0 hq => ?_)
      obtain ⟨rfl, ys1, rfl, hsw, hw1⟩ := hq
      refine RG.nil ?_
      refine SC.region ?_
      refine RG.ask tab 3 [0] rfl (by (repeat' refine And.intro ?_ ?_) <;> first | rfl | omega | (unfold in64; omega) | (simp; done) | (simp; omega) | (simp at *; omega)) ?_
      refine RG.re (v' := .int .i64 (((j : Nat) : Int) - ((i : Nat) : Int))) 49 (.int .i64 ((j - i : Nat) : Int)) rfl (congrArg (AV.int .i64) (by omega)) ?_
      refine RG.go tab 1 [0] rfl ?_
      refine RG.nil ?_
      refine ⟨i, j - i, ys1, (by omega), ⟨by omega, by omega, by omega, by omega, by rw [hw1.len, hys], fun k => (rotG_lt hsw (by omega) (by omega) k).trans (hI k), hW.trans (hw1.wide (by omega) (by omega))⟩, Drop.mask [true] rfl ⟨Sc.rows fun _ => ⟨rfl, rfl⟩, trivial⟩, rfl, rfl, rfl, rfl, rfl, rfl, rfl, rfl, rfl, rfl, trivial⟩
  · try simp only [bne_eq_false_iff_eq] at hb1
    refine SC.exit ?_
    refine SC.region ?_
    refine RG.ask tab 4 [0] rfl (by (repeat' refine And.intro ?_ ?_) <;> first | rfl | omega | (unfold in64; omega) | (simp; done) | (simp; omega) | (simp at *; omega)) ?_
    refine RG.re (v' := .int .i64 (((m : Nat) : Int) - ((i : Nat) : Int))) 53 (.int .i64 ((m - i : Nat) : Int)) rfl (congrArg (AV.int .i64) (by omega)) ?_
    refine RG.go tab 3 [0] rfl ?_
    refine RG.fc rfl rfl (swapRangeW ys L (m - i) m i hys hx (by omega) (by omega)) (fun r0 S0 hq => ?_)
    obtain ⟨rfl, ys1, rfl, hsw, hw1⟩ := hq
    refine RG.nil ?_
    refine End.normal tab rfl ?_
    have hij : i = j := by omega
    subst hij
    exact ⟨rfl, _, rfl, fun k => (rotG_eq hsw (by omega) k).trans (hI k), hW.trans (hw1.wide (by omega) (by omega))⟩
theorem insertionSortW (xs : List (List Int × Int)) (L a b : Nat) (hL : xs.length = L) (hx : L ≤ 1099511627776) (hab : a ≤ b) (hb : b ≤ L) : FC Try.prog 128 [.sl 0 L, .int .i64 ((a : Nat) : Int), .int .i64 ((b : Nat) : Int), .fn 84 [] []] [some ⟨72, 2, xs.map rW⟩] (fun r S' => r = .tup [] ∧ ∃ ys, S' = [some ⟨72, 2, ys.map rW⟩] ∧ Srt cW ([], 0) ys a b ∧ Win ([], 0) xs ys a b) := by
  refine FC.text Try.func128 rfl rfl rfl fun B => ?_
  refine SC.seq ?_
  refine SC.region ?_
  refine RG.ask tab 3 [0] rfl (by (repeat' refine And.intro ?_ ?_) <;> first | rfl | omega | (unfold in64; omega) | (simp; done) | (simp; omega) | (simp at *; omega)) ?_
  refine RG.nil ?_
  refine SC.block ?_
  refine SC.loop2 (fun (i : Nat) (ys : List (List Int × Int)) => b - i) (fun (i : Nat) (ys : List (List Int × Int)) => a < i ∧ (i ≤ b ∨ i = a + 1) ∧ ys.length = L ∧ Srt cW ([], 0) ys a i ∧ Win ([], 0) xs ys a b) (fun (i : Nat) (ys : List (List Int × Int)) => [(0, .sl 0 L), (1, .int .i64 ((a : Nat) : Int)), (2, .int .i64 ((b : Nat) : Int)), (3, .fn 84 [] []), (8, .int .i64 ((i : Nat) : Int))]) (fun (i : Nat) (ys : List (List Int × Int)) => [some ⟨72, 2, ys.map rW⟩]) (a + 1) xs ⟨by omega, by omega, hL, Srt.one cW_ord (by omega), Win.refl _ _ _⟩ (Drop.mask [true] (rfl) ⟨Sc.rows fun _ => ⟨rfl, rfl⟩, trivial⟩) ⟨rfl, rfl, rfl, rfl, rfl, rfl, rfl, rfl, rfl, rfl, trivial⟩ (fun _ _ => Nat.le_of_ble_eq_true rfl) fun i ys hI0 => ?_
  obtain ⟨hai, hib, hys, hI, hW⟩ := hI0
  refine SC.seq ?_
  refine SC.seq ?_
  refine SC.region ?_
  refine RG.go tab 3 [0] rfl ?_
  refine RG.nil ?_
  refine SC.cond rfl (fun hb1 => ?_) (fun hb1 => ?_)
  · try simp only [decide_eq_true_eq] at hb1
    refine SC.skip ?_
    refine SC.seq ?_
    refine SC.block ?_
    refine SC.seq ?_
    refine SC.region ?_
    refine RG.go tab 2 [0] rfl ?_
    refine RG.nil ?_
    refine SC.block ?_
    refine SC.loop2 (fun (j : Nat) (zs : List (List Int × Int)) => j) (fun (j : Nat) (zs : List (List Int × Int)) => a ≤ j ∧ j ≤ i ∧ zs.length = L ∧ Ins cW ([], 0) zs a i j ∧ Win ([], 0) xs zs a b) (fun (j : Nat) (zs : List (List Int × Int)) => [(0, .sl 0 L), (1, .int .i64 ((a : Nat) : Int)), (2, .int .i64 ((b : Nat) : Int)), (3, .fn 84 [] []), (8, .int .i64 ((i : Nat) : Int)), (9, .int .i64 ((j : Nat) : Int))]) (fun (j : Nat) (zs : List (List Int × Int)) => [some ⟨72, 2, zs.map rW⟩]) i ys ⟨by omega, by omega, hys, Ins.init hI, hW⟩ (Drop.mask [true] (rfl) ⟨Sc.rows fun _ => ⟨rfl, rfl⟩, trivial⟩) ⟨rfl, rfl, rfl, rfl, rfl, rfl, rfl, rfl, rfl, rfl, rfl, rfl, trivial⟩ (fun _ _ => Nat.le_of_ble_eq_true rfl) fun j zs hI1 => ?_
    obtain ⟨haj, hji, hzs, hJ, hV⟩ := hI1
    refine SC.seq ?_
    refine SC.cut [(0, .sl 0 L), (1, .int .i64 ((a : Nat) : Int)), (2, .int .i64 ((b : Nat) : Int)), (3, .fn 84 [] []), (8, .int .i64 ((i : Nat) : Int)), (9, .int .i64 ((j : Nat) : Int)), (34, .bool ((decide (((j : Nat) : Int) > ((a : Nat) : Int))) && (decide ((cW (zs.getD j ([], 0)) (zs.getD (j - 1) ([], 0)) : Int) < 0))))] [some ⟨72, 2, zs.map rW⟩] rfl ?_ ?_
    · refine SC.drawn tab [0] (fun kk => if kk = 14 then .pf (.int .i64 (cW (zs.getD j ([], 0)) (zs.getD (j - 1) ([], 0)))) else .none) [] [] [0, 1, 2, 3, 4, 5, 6, 7, 8, 9, 10, 11, 12, 13, 14, 15, 16] 53 rfl mixed (by decide +kernel) ?_
      refine QR.go 4 rfl ?_
      refine QR.split 21 rfl fun b2 hb2 => ?_
      cases b2
      · try have hp2 := of_decide_eq_false hb2
        refine QR.go 13 rfl ?_
        refine QR.nil ?_
        exact ⟨Drop.mask [true] (rfl) ⟨Sc.rows fun _ => ⟨rfl, rfl⟩, trivial⟩, rfl, rfl, rfl, rfl, rfl, rfl, rfl, rfl, rfl, rfl, rfl, rfl, (show AV.bool false = AV.bool ((decide (((j : Nat) : Int) > ((a : Nat) : Int))) && (decide ((cW (zs.getD j ([], 0)) (zs.getD (j - 1) ([], 0)) : Int) < 0))) from by first | rfl | ((try simp only [Int.toNat_natCast] at hb2); first | (rw [hb2]; done) | (rw [hb2]; rfl)) | (simp only [hb2]; rfl) | simp_all), rfl, trivial⟩
      · try have hp2 := of_decide_eq_true hb2
        refine QR.ask 4 rfl (by (repeat' refine And.intro ?_ ?_) <;> first | rfl | omega | (unfold in64; omega) | (simp; done) | (simp; omega) | (simp at *; omega)) ?_
        refine QR.ldr ([], 0) rfl rfl rfl rfl (by first | rfl | assumption | omega | (simp only [List.length_set]; first | assumption | omega) | (simp; omega)) (by first | omega | (simp only [List.length_set]; omega) | (simp; omega)) rfl rfl ?_
        refine QR.ask 3 rfl (by (repeat' refine And.intro ?_ ?_) <;> first | rfl | omega | (unfold in64; omega) | (simp; done) | (simp; omega) | (simp at *; omega)) ?_
        refine QR.re (v' := .int .i64 (((j : Nat) : Int) - 1)) 29 (.int .i64 ((j - 1 : Nat) : Int)) rfl (congrArg (AV.int .i64) (by omega)) ?_
        refine QR.ask 1 rfl (by (repeat' refine And.intro ?_ ?_) <;> first | rfl | omega | (unfold in64; omega) | (simp; done) | (simp; omega) | (simp at *; omega)) ?_
        refine QR.ldr ([], 0) rfl rfl rfl rfl (by first | rfl | assumption | omega | (simp only [List.length_set]; first | assumption | omega) | (simp; omega)) (by first | omega | (simp only [List.length_set]; omega) | (simp; omega)) rfl rfl ?_
        refine QR.pfc rfl rfl (cW_pf (zs.getD j ([], 0)) (zs.getD (j - 1) ([], 0))) rfl ?_
        refine QR.go 2 rfl ?_
        refine QR.nil ?_
        exact ⟨Drop.mask [true] (rfl) ⟨Sc.rows fun _ => ⟨rfl, rfl⟩, trivial⟩, rfl, rfl, rfl, rfl, rfl, rfl, rfl, rfl, rfl, rfl, rfl, rfl, (show AV.bool (decide ((cW (zs.getD j ([], 0)) (zs.getD (j - 1) ([], 0)) : Int) < 0)) = AV.bool ((decide (((j : Nat) : Int) > ((a : Nat) : Int))) && (decide ((cW (zs.getD j ([], 0)) (zs.getD (j - 1) ([], 0)) : Int) < 0))) from by first | rfl | ((try simp only [Int.toNat_natCast] at hb2); first | (rw [hb2]; done) | (rw [hb2]; rfl)) | (simp only [hb2]; rfl) | simp_all), rfl, trivial⟩
    · refine SC.cond rfl (fun hb3 => ?_) (fun hb3 => ?_)
      · try simp only [decide_eq_true_eq, Bool.and_eq_true] at hb3
        have hcnd := hb3
        refine SC.skip ?_
        refine SC.seq ?_
        refine SC.block ?_
        refine SC.drawn tab [0] (fun _ => .none) [2, 3, 4] [0] [0, 1, 2, 3, 4, 5, 6, 7, 8, 9, 10, 11, 12, 13, 14, 15, 16, 17] 53 rfl mixed (by decide +kernel) ?_
        refine QR.ask 5 rfl (by (repeat' refine And.intro ?_ ?_) <;> first | rfl | omega | (unfold in64; omega) | (simp; done) | (simp; omega) | (simp at *; omega)) ?_
        refine QR.re (v' := .int .i64 (((j : Nat) : Int) - 1)) 41 (.int .i64 ((j - 1 : Nat) : Int)) rfl (congrArg (AV.int .i64) (by omega)) ?_
        refine QR.ask 3 rfl (by (repeat' refine And.intro ?_ ?_) <;> first | rfl | omega | (unfold in64; omega) | (simp; done) | (simp; omega) | (simp at *; omega)) ?_
        refine QR.re (v' := .int .i64 (((j : Nat) : Int) - 1)) 44 (.int .i64 ((j - 1 : Nat) : Int)) rfl (congrArg (AV.int .i64) (by omega)) ?_
        refine QR.ask 1 rfl (by (repeat' refine And.intro ?_ ?_) <;> first | rfl | omega | (unfold in64; omega) | (simp; done) | (simp; omega) | (simp at *; omega)) ?_
        refine QR.ldr ([], 0) rfl rfl rfl rfl (by first | rfl | assumption | omega | (simp only [List.length_set]; first | assumption | omega) | (simp; omega)) (by first | omega | (simp only [List.length_set]; omega) | (simp; omega)) rfl rfl ?_
        refine QR.ask 3 rfl (by (repeat' refine And.intro ?_ ?_) <;> first | rfl | omega | (unfold in64; omega) | (simp; done) | (simp; omega) | (simp at *; omega)) ?_
        refine QR.ldr ([], 0) rfl rfl rfl rfl (by first | rfl | assumption | omega | (simp only [List.length_set]; first | assumption | omega) | (simp; omega)) (by first | omega | (simp only [List.length_set]; omega) | (simp; omega)) rfl rfl ?_
        refine QR.ask 1 rfl (by (repeat' refine And.intro ?_ ?_) <;> first | rfl | omega | (unfold in64; omega) | (simp; done) | (simp; omega) | (simp at *; omega)) ?_
        refine QR.str ([], 0) (zs.getD (j - 1) ([], 0)) rfl rfl rfl rfl rfl rfl (by first | rfl | assumption | omega | (simp only [List.length_set]; first | assumption | omega) | (simp; omega)) (by first | omega | (simp only [List.length_set]; omega) | (simp; omega)) rfl rfl rfl rfl rfl rfl rfl ?_
        refine QR.ask 1 rfl (by (repeat' refine And.intro ?_ ?_) <;> first | rfl | omega | (unfold in64; omega) | (simp; done) | (simp; omega) | (simp at *; omega)) ?_
        refine QR.str ([], 0) (zs.getD j ([], 0)) rfl rfl rfl rfl rfl rfl (by first | rfl | assumption | omega | (simp only [List.length_set]; first | assumption | omega) | (simp; omega)) (by first | omega | (simp only [List.length_set]; omega) | (simp; omega)) rfl rfl rfl rfl rfl rfl rfl ?_
        refine QR.nil ?_
        refine SC.region ?_
        refine RG.ask tab 2 [0] rfl (by (repeat' refine And.intro ?_ ?_) <;> first | rfl | omega | (unfold in64; omega) | (simp; done) | (simp; omega) | (simp at *; omega)) ?_
        refine RG.re (v' := .int .i64 (((j : Nat) : Int) - 1)) 36 (.int .i64 ((j - 1 : Nat) : Int)) rfl (congrArg (AV.int .i64) (by omega)) ?_
        refine RG.go tab 1 [0] rfl ?_
        refine RG.nil ?_
        refine ⟨j - 1, swp ([], 0) zs j (j - 1), (by omega), ⟨by omega, by omega, by rw [swp_len, hzs], hJ.step cW_ord hcnd.2 (by omega) (by omega) (by omega), hV.trans (Win.swp ⟨by omega, by omega⟩ ⟨by omega, by omega⟩ (by omega))⟩, Drop.mask [true] rfl ⟨Sc.rows fun _ => ⟨rfl, rfl⟩, trivial⟩, rfl, rfl, rfl, rfl, rfl, rfl, rfl, rfl, rfl, rfl, rfl, rfl, trivial⟩
      · try simp only [decide_eq_true_eq, decide_eq_false_iff_not, Bool.and_eq_false_imp, Int.not_lt] at hb3
        have hfin : Srt cW ([], 0) zs a (i + 1) := hJ.fin cW_ord ((Nat.lt_or_ge a j).elim (fun h => .inr (by have := hb3 (by omega); omega)) (fun h => .inl (by omega))) haj
        refine SC.exit ?_
        refine SC.region ?_
        refine RG.ask tab 3 [0] rfl (by (repeat' refine And.intro ?_ ?_) <;> first | rfl | omega | (unfold in64; omega) | (simp; done) | (simp; omega) | (simp at *; omega)) ?_
        refine RG.nil ?_
        refine ⟨i + 1, zs, (by omega), ⟨by omega, by omega, hzs, hfin, hV⟩, Drop.mask [true] rfl ⟨Sc.rows fun _ => ⟨rfl, rfl⟩, trivial⟩, rfl, rfl, rfl, rfl, rfl, rfl, rfl, rfl, rfl, rfl, trivial⟩
  · try simp only [decide_eq_false_iff_not, Int.not_lt] at hb1
    refine SC.exit ?_
    refine End.normal tab rfl ?_
    exact ⟨rfl, ys, rfl, hI.sub (Nat.le_refl _) (by omega), hW⟩
theorem symMergeW (K : Nat) : ∀ (xs : List (List Int × Int)) (L a m b : Nat) (hL : xs.length = L) (hx : L ≤ 1099511627776) (hK : b - a < K) (ham : a < m) (hmb : m < b) (hb : b ≤ L) (hs1 : Srt cW ([], 0) xs a m) (hs2 : Srt cW ([], 0) xs m b), FC Try.prog 129 [.sl 0 L, .int .i64 ((a : Nat) : Int), .int .i64 ((m : Nat) : Int), .int .i64 ((b : Nat) : Int), .fn 84 [] []] [some ⟨72, 2, xs.map rW⟩] (fun r S' => r = .tup [] ∧ ∃ ys, S' = [some ⟨72, 2, ys.map rW⟩] ∧ Win ([], 0) xs ys a b ∧ Srt cW ([], 0) ys a b) := by
  induction K with | zero => (intros; omega) | succ K ih => ?_
  intro xs L a m b hL hx hK ham hmb hb hs1 hs2
  refine FC.text Try.func129 rfl rfl rfl fun B => ?_
  refine SC.seq ?_
  refine SC.seq ?_
  refine SC.region ?_
  refine RG.ask tab 3 [0] rfl (by (repeat' refine And.intro ?_ ?_) <;> first | rfl | omega | (unfold in64; omega) | (simp; done) | (simp; omega) | (simp at *; omega)) ?_
  refine RG.re (v' := .int .i64 (((m : Nat) : Int) - ((a : Nat) : Int))) 27 (.int .i64 ((m - a : Nat) : Int)) rfl (congrArg (AV.int .i64) (by omega)) ?_
  refine RG.go tab 1 [0] rfl ?_
  refine RG.nil ?_
  refine SC.cond rfl (fun hb1 => ?_) (fun hb1 => ?_)
  · try simp only [beq_iff_eq] at hb1
    refine SC.seq ?_
    refine SC.region ?_
    refine RG.go tab 2 [0] rfl ?_
    refine RG.nil ?_
    refine SC.seq ?_
    refine SC.region ?_
    refine RG.go tab 2 [0] rfl ?_
    refine RG.nil ?_
    refine SC.seq ?_
    refine SC.block ?_
    refine SC.loop2 (fun (i : Nat) (j : Nat) => j - i) (fun (i : Nat) (j : Nat) => Bs (fun k => cW (xs.getD k ([], 0)) (xs.getD a ([], 0)) < 0) m b i j) (fun (i : Nat) (j : Nat) => [(0, .sl 0 L), (1, .int .i64 ((a : Nat) : Int)), (4, .fn 84 [] []), (10, .int .i64 ((i : Nat) : Int)), (11, .int .i64 ((j : Nat) : Int))]) (fun (i : Nat) (j : Nat) => [some ⟨72, 2, xs.map rW⟩]) m b (Bs.init _ (by omega)) (Drop.mask [true] (rfl) ⟨Sc.rows fun _ => ⟨rfl, rfl⟩, trivial⟩) ⟨rfl, rfl, rfl, rfl, rfl, rfl, rfl, rfl, rfl, rfl, trivial⟩ (fun _ _ => Nat.le_of_ble_eq_true rfl) fun i j hI0 => ?_
    have hB := hI0
    have hl1 := hB.l1
    have hl2 := hB.l2
    have hl3 := hB.l3
    refine SC.seq ?_
    refine SC.seq ?_
    refine SC.region ?_
    refine RG.go tab 3 [0] rfl ?_
    refine RG.nil ?_
    refine SC.cond rfl (fun hb2 => ?_) (fun hb2 => ?_)
    · try simp only [decide_eq_true_eq] at hb2
      refine SC.skip ?_
      refine SC.block ?_
      refine SC.seq ?_
      refine SC.region ?_
      refine RG.ask tab 6 [0] rfl (by (repeat' refine And.intro ?_ ?_) <;> first | rfl | omega | (unfold in64; omega) | (simp; done) | (simp; omega) | (simp at *; omega)) ?_
      refine RG.re (v' := .int .i64 (IntKind.i64.wrap ((IntKind.u64.wrap ((i + j : Nat) : Int)).fdiv (2 ^ (min (1 : Int).toNat IntKind.u64.bits))))) 39 (.int .i64 (((i + j) / 2 : Nat) : Int)) rfl (congrArg (AV.int .i64) (half_ok _ (by omega))) ?_
      refine RG.go tab 1 [0] rfl ?_
      refine RG.nil ?_
      refine SC.seq ?_
      refine SC.drawn tab [0] (fun kk => if kk = 9 then .pf (.int .i64 (cW (xs.getD ((i + j) / 2) ([], 0)) (xs.getD a ([], 0)))) else .none) [] [] [0, 1, 2, 3, 4, 5, 6, 7, 8, 9, 10] 220 rfl mixed (by decide +kernel) ?_
      refine QR.ask 4 rfl (by (repeat' refine And.intro ?_ ?_) <;> first | rfl | omega | (unfold in64; omega) | (simp; done) | (simp; omega) | (simp at *; omega)) ?_
      refine QR.ldr ([], 0) rfl rfl rfl rfl (by first | rfl | assumption | omega | (simp only [List.length_set]; first | assumption | omega) | (simp; omega)) (by first | omega | (simp only [List.length_set]; omega) | (simp; omega)) rfl rfl ?_
      refine QR.ask 3 rfl (by (repeat' refine And.intro ?_ ?_) <;> first | rfl | omega | (unfold in64; omega) | (simp; done) | (simp; omega) | (simp at *; omega)) ?_
      refine QR.ldr ([], 0) rfl rfl rfl rfl (by first | rfl | assumption | omega | (simp only [List.length_set]; first | assumption | omega) | (simp; omega)) (by first | omega | (simp only [List.length_set]; omega) | (simp; omega)) rfl rfl ?_
      refine QR.pfc rfl rfl (cW_pf (xs.getD ((i + j) / 2) ([], 0)) (xs.getD a ([], 0))) rfl ?_
      refine QR.go 1 rfl ?_
      refine QR.nil ?_
      refine SC.cond rfl (fun hb3 => ?_) (fun hb3 => ?_)
      · try simp only [decide_eq_true_eq] at hb3
        have hbs := hB.up (fun k k' h1 h2 h3 h4 => cW_ord.le_lt (hs2 k k' h1 h2 h3) h4) (k := (i + j) / 2) (by omega) (by omega) hb3
        refine SC.region ?_
        refine RG.ask tab 3 [0] rfl (by (repeat' refine And.intro ?_ ?_) <;> first | rfl | omega | (unfold in64; omega) | (simp; done) | (simp; omega) | (simp at *; omega)) ?_
        refine RG.nil ?_
        refine ⟨(i + j) / 2 + 1, j, (by omega), hbs, Drop.mask [true] rfl ⟨Sc.rows fun _ => ⟨rfl, rfl⟩, trivial⟩, rfl, rfl, rfl, rfl, rfl, rfl, rfl, rfl, rfl, rfl, trivial⟩
      · try simp only [decide_eq_false_iff_not, Int.not_lt] at hb3
        have hbs := hB.dn (fun k k' h1 h2 h3 h4 => cW_ord.le_lt (hs2 k k' h1 h2 h3) h4) (k := (i + j) / 2) (by omega) (by omega) (fun hlt : cW (xs.getD ((i + j) / 2) ([], 0)) (xs.getD a ([], 0)) < 0 => by omega)
        refine SC.region ?_
        refine RG.go tab 2 [0] rfl ?_
        refine RG.nil ?_
        refine ⟨i, (i + j) / 2, (by omega), hbs, Drop.mask [true] rfl ⟨Sc.rows fun _ => ⟨rfl, rfl⟩, trivial⟩, rfl, rfl, rfl, rfl, rfl, rfl, rfl, rfl, rfl, rfl, trivial⟩
    · try simp only [decide_eq_false_iff_not, Int.not_lt] at hb2
      have hl1 := hB.l1
      have hl2 := hB.l2
      have hl3 := hB.l3
      have hij : i = j := by omega
      refine SC.exit ?_
      refine SC.seq ?_
      refine SC.seq ?_
      refine SC.region ?_
      refine RG.go tab 2 [0] rfl ?_
      refine RG.nil ?_
      refine SC.block ?_
      refine SC.loop2 (fun (k : Nat) (zs : List (List Int × Int)) => i - k) (fun (k : Nat) (zs : List (List Int × Int)) => a ≤ k ∧ k ≤ i - 1 ∧ zs.length = L ∧ Sh1 ([], 0) xs zs a k ∧ Win ([], 0) xs zs a b) (fun (k : Nat) (zs : List (List Int × Int)) => [(0, .sl 0 L), (10, .int .i64 ((i : Nat) : Int)), (13, .int .i64 ((k : Nat) : Int))]) (fun (k : Nat) (zs : List (List Int × Int)) => [some ⟨72, 2, zs.map rW⟩]) a xs ⟨Nat.le_refl _, by omega, hL, Sh1.init _ _, Win.refl _ _ _⟩ (Drop.mask [true] (rfl) ⟨Sc.rows fun _ => ⟨rfl, rfl⟩, trivial⟩) ⟨rfl, rfl, rfl, rfl, rfl, rfl, trivial⟩ (fun _ _ => Nat.le_of_ble_eq_true rfl) fun k zs hI1 => ?_
      obtain ⟨hak, hki, hzs, hSh, hW⟩ := hI1
      refine SC.seq ?_
      refine SC.seq ?_
      refine SC.region ?_
      refine RG.ask tab 3 [0] rfl (by (repeat' refine And.intro ?_ ?_) <;> first | rfl | omega | (unfold in64; omega) | (simp; done) | (simp; omega) | (simp at *; omega)) ?_
      refine RG.re (v' := .int .i64 (((i : Nat) : Int) - 1)) 57 (.int .i64 ((i - 1 : Nat) : Int)) rfl (congrArg (AV.int .i64) (by omega)) ?_
      refine RG.go tab 1 [0] rfl ?_
      refine RG.nil ?_
      refine SC.cond rfl (fun hb4 => ?_) (fun hb4 => ?_)
      · try simp only [decide_eq_true_eq] at hb4
        refine SC.skip ?_
        refine SC.seq ?_
        refine SC.block ?_
        refine SC.drawn tab [0] (fun _ => .none) [2, 3, 4] [0] [0, 1, 2, 3, 4, 5, 6, 7, 8, 9, 10, 11, 12, 13, 14, 15, 16, 17] 220 rfl mixed (by decide +kernel) ?_
        refine QR.ask 9 rfl (by (repeat' refine And.intro ?_ ?_) <;> first | rfl | omega | (unfold in64; omega) | (simp; done) | (simp; omega) | (simp at *; omega)) ?_
        refine QR.ldr ([], 0) rfl rfl rfl rfl (by first | rfl | assumption | omega | (simp only [List.length_set]; first | assumption | omega) | (simp; omega)) (by first | omega | (simp only [List.length_set]; omega) | (simp; omega)) rfl rfl ?_
        refine QR.ask 3 rfl (by (repeat' refine And.intro ?_ ?_) <;> first | rfl | omega | (unfold in64; omega) | (simp; done) | (simp; omega) | (simp at *; omega)) ?_
        refine QR.ldr ([], 0) rfl rfl rfl rfl (by first | rfl | assumption | omega | (simp only [List.length_set]; first | assumption | omega) | (simp; omega)) (by first | omega | (simp only [List.length_set]; omega) | (simp; omega)) rfl rfl ?_
        refine QR.ask 1 rfl (by (repeat' refine And.intro ?_ ?_) <;> first | rfl | omega | (unfold in64; omega) | (simp; done) | (simp; omega) | (simp at *; omega)) ?_
        refine QR.str ([], 0) (zs.getD (k + 1) ([], 0)) rfl rfl rfl rfl rfl rfl (by first | rfl | assumption | omega | (simp only [List.length_set]; first | assumption | omega) | (simp; omega)) (by first | omega | (simp only [List.length_set]; omega) | (simp; omega)) rfl rfl rfl rfl rfl rfl rfl ?_
        refine QR.ask 1 rfl (by (repeat' refine And.intro ?_ ?_) <;> first | rfl | omega | (unfold in64; omega) | (simp; done) | (simp; omega) | (simp at *; omega)) ?_
        refine QR.str ([], 0) (zs.getD k ([], 0)) rfl rfl rfl rfl rfl rfl (by first | rfl | assumption | omega | (simp only [List.length_set]; first | assumption | omega) | (simp; omega)) (by first | omega | (simp only [List.length_set]; omega) | (simp; omega)) rfl rfl rfl rfl rfl rfl rfl ?_
        refine QR.nil ?_
        refine SC.region ?_
        refine RG.ask tab 3 [0] rfl (by (repeat' refine And.intro ?_ ?_) <;> first | rfl | omega | (unfold in64; omega) | (simp; done) | (simp; omega) | (simp at *; omega)) ?_
        refine RG.nil ?_
        refine ⟨k + 1, swp ([], 0) zs k (k + 1), (by omega), ⟨by omega, by omega, by rw [swp_len, hzs], hSh.step hak (by omega), hW.trans (Win.swp ⟨by omega, by omega⟩ ⟨by omega, by omega⟩ (by omega))⟩, Drop.mask [true] rfl ⟨Sc.rows fun _ => ⟨rfl, rfl⟩, trivial⟩, rfl, rfl, rfl, rfl, rfl, rfl, trivial⟩
      · try simp only [decide_eq_false_iff_not, Int.not_lt] at hb4
        refine SC.exit ?_
        refine SC.ret (End.ret tab rfl ?_)
        have hk : k = i - 1 := by omega
        subst hk
        rw [← hij, show m = a + 1 by omega] at hB
        rw [show m = a + 1 by omega] at hs2
        exact ⟨rfl, zs, rfl, hW, Sh1.srt cW_ord hSh hs2 hB⟩
  · try simp only [ne_eq, beq_eq_false_iff_ne] at hb1
    refine SC.skip ?_
    refine SC.seq ?_
    refine SC.seq ?_
    refine SC.region ?_
    refine RG.ask tab 3 [0] rfl (by (repeat' refine And.intro ?_ ?_) <;> first | rfl | omega | (unfold in64; omega) | (simp; done) | (simp; omega) | (simp at *; omega)) ?_
    refine RG.re (v' := .int .i64 (((b : Nat) : Int) - ((m : Nat) : Int))) 79 (.int .i64 ((b - m : Nat) : Int)) rfl (congrArg (AV.int .i64) (by omega)) ?_
    refine RG.go tab 1 [0] rfl ?_
    refine RG.nil ?_
    refine SC.cond rfl (fun hb5 => ?_) (fun hb5 => ?_)
    · try simp only [beq_iff_eq] at hb5
      refine SC.seq ?_
      refine SC.region ?_
      refine RG.go tab 2 [0] rfl ?_
      refine RG.nil ?_
      refine SC.seq ?_
      refine SC.region ?_
      refine RG.go tab 2 [0] rfl ?_
      refine RG.nil ?_
      refine SC.seq ?_
      refine SC.block ?_
      refine SC.loop2 (fun (i : Nat) (j : Nat) => j - i) (fun (i : Nat) (j : Nat) => Bs (fun k => ¬ cW (xs.getD m ([], 0)) (xs.getD k ([], 0)) < 0) a m i j) (fun (i : Nat) (j : Nat) => [(0, .sl 0 L), (2, .int .i64 ((m : Nat) : Int)), (4, .fn 84 [] []), (14, .int .i64 ((i : Nat) : Int)), (15, .int .i64 ((j : Nat) : Int))]) (fun (i : Nat) (j : Nat) => [some ⟨72, 2, xs.map rW⟩]) a m (Bs.init _ (by omega)) (Drop.mask [true] (rfl) ⟨Sc.rows fun _ => ⟨rfl, rfl⟩, trivial⟩) ⟨rfl, rfl, rfl, rfl, rfl, rfl, rfl, rfl, rfl, rfl, trivial⟩ (fun _ _ => Nat.le_of_ble_eq_true rfl) fun i j hI2 => ?_
      have hB := hI2
      have hl1 := hB.l1
      have hl2 := hB.l2
      have hl3 := hB.l3
      refine SC.seq ?_
      refine SC.seq ?_
      refine SC.region ?_
      refine RG.go tab 3 [0] rfl ?_
      refine RG.nil ?_
      refine SC.cond rfl (fun hb6 => ?_) (fun hb6 => ?_)
      · try simp only [decide_eq_true_eq] at hb6
        refine SC.skip ?_
        refine SC.block ?_
        refine SC.seq ?_
        refine SC.region ?_
        refine RG.ask tab 6 [0] rfl (by (repeat' refine And.intro ?_ ?_) <;> first | rfl | omega | (unfold in64; omega) | (simp; done) | (simp; omega) | (simp at *; omega)) ?_
        refine RG.re (v' := .int .i64 (IntKind.i64.wrap ((IntKind.u64.wrap ((i + j : Nat) : Int)).fdiv (2 ^ (min (1 : Int).toNat IntKind.u64.bits))))) 91 (.int .i64 (((i + j) / 2 : Nat) : Int)) rfl (congrArg (AV.int .i64) (half_ok _ (by omega))) ?_
        refine RG.go tab 1 [0] rfl ?_
        refine RG.nil ?_
        refine SC.seq ?_
        refine SC.drawn tab [0] (fun kk => if kk = 9 then .pf (.int .i64 (cW (xs.getD m ([], 0)) (xs.getD ((i + j) / 2) ([], 0)))) else .none) [] [] [0, 1, 2, 3, 4, 5, 6, 7, 8, 9, 10, 11] 220 rfl mixed (by decide +kernel) ?_
        refine QR.ask 4 rfl (by (repeat' refine And.intro ?_ ?_) <;> first | rfl | omega | (unfold in64; omega) | (simp; done) | (simp; omega) | (simp at *; omega)) ?_
        refine QR.ldr ([], 0) rfl rfl rfl rfl (by first | rfl | assumption | omega | (simp only [List.length_set]; first | assumption | omega) | (simp; omega)) (by first | omega | (simp only [List.length_set]; omega) | (simp; omega)) rfl rfl ?_
        refine QR.ask 3 rfl (by (repeat' refine And.intro ?_ ?_) <;> first | rfl | omega | (unfold in64; omega) | (simp; done) | (simp; omega) | (simp at *; omega)) ?_
        refine QR.ldr ([], 0) rfl rfl rfl rfl (by first | rfl | assumption | omega | (simp only [List.length_set]; first | assumption | omega) | (simp; omega)) (by first | omega | (simp only [List.length_set]; omega) | (simp; omega)) rfl rfl ?_
        refine QR.pfc rfl rfl (cW_pf (xs.getD m ([], 0)) (xs.getD ((i + j) / 2) ([], 0))) rfl ?_
        refine QR.go 2 rfl ?_
        refine QR.nil ?_
        refine SC.cond rfl (fun hb7 => ?_) (fun hb7 => ?_)
        · try simp only [decide_eq_false_iff_not, Bool.not_eq_eq_eq_not, Bool.not_true, Int.not_lt] at hb7
          have hbs := hB.up (fun k k' h1 h2 h3 h4 => cW_ord.trans _ _ _ (hs1 k k' h1 h2 h3) h4) (k := (i + j) / 2) (by omega) (by omega) (fun hlt : cW (xs.getD m ([], 0)) (xs.getD ((i + j) / 2) ([], 0)) < 0 => by omega)
          refine SC.region ?_
          refine RG.ask tab 3 [0] rfl (by (repeat' refine And.intro ?_ ?_) <;> first | rfl | omega | (unfold in64; omega) | (simp; done) | (simp; omega) | (simp at *; omega)) ?_
          refine RG.nil ?_
          refine ⟨(i + j) / 2 + 1, j, (by omega), hbs, Drop.mask [true] rfl ⟨Sc.rows fun _ => ⟨rfl, rfl⟩, trivial⟩, rfl, rfl, rfl, rfl, rfl, rfl, rfl, rfl, rfl, rfl, trivial⟩
        · try simp only [decide_eq_true_eq, Bool.not_eq_eq_eq_not, Bool.not_false] at hb7
          have hbs := hB.dn (fun k k' h1 h2 h3 h4 => cW_ord.trans _ _ _ (hs1 k k' h1 h2 h3) h4) (k := (i + j) / 2) (by omega) (by omega) (fun hn => hn hb7)
          refine SC.region ?_
          refine RG.go tab 2 [0] rfl ?_
          refine RG.nil ?_
          refine ⟨i, (i + j) / 2, (by omega), hbs, Drop.mask [true] rfl ⟨Sc.rows fun _ => ⟨rfl, rfl⟩, trivial⟩, rfl, rfl, rfl, rfl, rfl, rfl, rfl, rfl, rfl, rfl, trivial⟩
      · try simp only [decide_eq_false_iff_not, Int.not_lt] at hb6
        have hl1 := hB.l1
        have hl2 := hB.l2
        have hl3 := hB.l3
        have hij : i = j := by omega
        refine SC.exit ?_
        refine SC.seq ?_
        refine SC.seq ?_
        refine SC.region ?_
        refine RG.go tab 2 [0] rfl ?_
        refine RG.nil ?_
        refine SC.block ?_
        refine SC.loop2 (fun (k : Nat) (zs : List (List Int × Int)) => k) (fun (k : Nat) (zs : List (List Int × Int)) => i ≤ k ∧ k ≤ m ∧ zs.length = L ∧ Sh2 ([], 0) xs zs m k ∧ Win ([], 0) xs zs a b) (fun (k : Nat) (zs : List (List Int × Int)) => [(0, .sl 0 L), (14, .int .i64 ((i : Nat) : Int)), (17, .int .i64 ((k : Nat) : Int))]) (fun (k : Nat) (zs : List (List Int × Int)) => [some ⟨72, 2, zs.map rW⟩]) m xs ⟨by omega, Nat.le_refl _, hL, Sh2.init _ _, Win.refl _ _ _⟩ (Drop.mask [true] (rfl) ⟨Sc.rows fun _ => ⟨rfl, rfl⟩, trivial⟩) ⟨rfl, rfl, rfl, rfl, rfl, rfl, trivial⟩ (fun _ _ => Nat.le_of_ble_eq_true rfl) fun k zs hI3 => ?_
        obtain ⟨hik, hkm, hzs, hSh, hW⟩ := hI3
        refine SC.seq ?_
        refine SC.seq ?_
        refine SC.region ?_
        refine RG.go tab 3 [0] rfl ?_
        refine RG.nil ?_
        refine SC.cond rfl (fun hb8 => ?_) (fun hb8 => ?_)
        · try simp only [decide_eq_true_eq] at hb8
          refine SC.skip ?_
          refine SC.seq ?_
          refine SC.block ?_
          refine SC.drawn tab [0] (fun _ => .none) [2, 3, 4] [0] [0, 1, 2, 3, 4, 5, 6, 7, 8, 9, 10, 11, 12, 13, 14, 15, 16, 17] 220 rfl mixed (by decide +kernel) ?_
          refine QR.ask 5 rfl (by (repeat' refine And.intro ?_ ?_) <;> first | rfl | omega | (unfold in64; omega) | (simp; done) | (simp; omega) | (simp at *; omega)) ?_
          refine QR.re (v' := .int .i64 (((k : Nat) : Int) - 1)) 117 (.int .i64 ((k - 1 : Nat) : Int)) rfl (congrArg (AV.int .i64) (by omega)) ?_
          refine QR.ask 3 rfl (by (repeat' refine And.intro ?_ ?_) <;> first | rfl | omega | (unfold in64; omega) | (simp; done) | (simp; omega) | (simp at *; omega)) ?_
          refine QR.re (v' := .int .i64 (((k : Nat) : Int) - 1)) 120 (.int .i64 ((k - 1 : Nat) : Int)) rfl (congrArg (AV.int .i64) (by omega)) ?_
          refine QR.ask 1 rfl (by (repeat' refine And.intro ?_ ?_) <;> first | rfl | omega | (unfold in64; omega) | (simp; done) | (simp; omega) | (simp at *; omega)) ?_
          refine QR.ldr ([], 0) rfl rfl rfl rfl (by first | rfl | assumption | omega | (simp only [List.length_set]; first | assumption | omega) | (simp; omega)) (by first | omega | (simp only [List.length_set]; omega) | (simp; omega)) rfl rfl ?_
          refine QR.ask 3 rfl (by (repeat' refine And.intro ?_ ?_) <;> first | rfl | omega | (unfold in64; omega) | (simp; done) | (simp; omega) | (simp at *; omega)) ?_
          refine QR.ldr ([], 0) rfl rfl rfl rfl (by first | rfl | assumption | omega | (simp only [List.length_set]; first | assumption | omega) | (simp; omega)) (by first | omega | (simp only [List.length_set]; omega) | (simp; omega)) rfl rfl ?_
          refine QR.ask 1 rfl (by (repeat' refine And.intro ?_ ?_) <;> first | rfl | omega | (unfold in64; omega) | (simp; done) | (simp; omega) | (simp at *; omega)) ?_
          refine QR.str ([], 0) (zs.getD (k - 1) ([], 0)) rfl rfl rfl rfl rfl rfl (by first | rfl | assumption | omega | (simp only [List.length_set]; first | assumption | omega) | (simp; omega)) (by first | omega | (simp only [List.length_set]; omega) | (simp; omega)) rfl rfl rfl rfl rfl rfl rfl ?_
          refine QR.ask 1 rfl (by (repeat' refine And.intro ?_ ?_) <;> first | rfl | omega | (unfold in64; omega) | (simp; done) | (simp; omega) | (simp at *; omega)) ?_
          refine QR.str ([], 0) (zs.getD k ([], 0)) rfl rfl rfl rfl rfl rfl (by first | rfl | assumption | omega | (simp only [List.length_set]; first | assumption | omega) | (simp; omega)) (by first | omega | (simp only [List.length_set]; omega) | (simp; omega)) rfl rfl rfl rfl rfl rfl rfl ?_
          refine QR.nil ?_
          refine SC.region ?_
          refine RG.ask tab 2 [0] rfl (by (repeat' refine And.intro ?_ ?_) <;> first | rfl | omega | (unfold in64; omega) | (simp; done) | (simp; omega) | (simp at *; omega)) ?_
          refine RG.re (v' := .int .i64 (((k : Nat) : Int) - 1)) 112 (.int .i64 ((k - 1 : Nat) : Int)) rfl (congrArg (AV.int .i64) (by omega)) ?_
          refine RG.go tab 1 [0] rfl ?_
          refine RG.nil ?_
          refine ⟨k - 1, swp ([], 0) zs k (k - 1), (by omega), ⟨by omega, by omega, by rw [swp_len, hzs], hSh.step (by omega) hkm (by omega), hW.trans (Win.swp ⟨by omega, by omega⟩ ⟨by omega, by omega⟩ (by omega))⟩, Drop.mask [true] rfl ⟨Sc.rows fun _ => ⟨rfl, rfl⟩, trivial⟩, rfl, rfl, rfl, rfl, rfl, rfl, trivial⟩
        · try simp only [decide_eq_false_iff_not, Int.not_lt] at hb8
          refine SC.exit ?_
          refine SC.ret (End.ret tab rfl ?_)
          have hk : k = i := by omega
          subst hk
          rw [← hij] at hB
          have h := Sh2.srt cW_ord hSh hs1 hB
          rw [show m + 1 = b by omega] at h
          exact ⟨rfl, zs, rfl, hW, h⟩
    · try simp only [ne_eq, beq_eq_false_iff_ne] at hb5
      refine SC.skip ?_
      refine SC.seq ?_
      refine SC.region ?_
      refine RG.ask tab 6 [0] rfl (by (repeat' refine And.intro ?_ ?_) <;> first | rfl | omega | (unfold in64; omega) | (simp; done) | (simp; omega) | (simp at *; omega)) ?_
      refine RG.re (v' := .int .i64 (IntKind.i64.wrap ((IntKind.u64.wrap ((a + b : Nat) : Int)).fdiv (2 ^ (min (1 : Int).toNat IntKind.u64.bits))))) 134 (.int .i64 (((a + b) / 2 : Nat) : Int)) rfl (congrArg (AV.int .i64) (half_ok _ (by omega))) ?_
      refine RG.go tab 1 [0] rfl ?_
      refine RG.nil ?_
      refine SC.seq ?_
      refine SC.region ?_
      refine RG.ask tab 4 [0] rfl (by (repeat' refine And.intro ?_ ?_) <;> first | rfl | omega | (unfold in64; omega) | (simp; done) | (simp; omega) | (simp at *; omega)) ?_
      refine RG.nil ?_
      refine SC.seq ?_
      refine SC.region ?_
      refine RG.go tab 2 [0] rfl ?_
      refine RG.nil ?_
      refine SC.cutE (X := (Nat) × (Nat)) (fun (x : (Nat) × (Nat)) => x.1 = (if m > (a + b) / 2 then (a + b) / 2 + m - b else a) ∧ x.2 = (if m > (a + b) / 2 then (a + b) / 2 else m)) (fun (x : (Nat) × (Nat)) => [(0, .sl 0 L), (1, .int .i64 ((a : Nat) : Int)), (2, .int .i64 ((m : Nat) : Int)), (3, .int .i64 ((b : Nat) : Int)), (4, .fn 84 [] []), (18, .int .i64 (((a + b) / 2 : Nat) : Int)), (19, .int .i64 (((a + b) / 2 + m : Nat) : Int)), (20, .int .i64 ((x.1 : Nat) : Int)), (21, .int .i64 ((x.2 : Nat) : Int))]) (fun (x : (Nat) × (Nat)) => [some ⟨72, 2, xs.map rW⟩]) (fun _ => Nat.le_of_ble_eq_true rfl) ?_ ?_
      · refine SC.seq ?_
        refine SC.region ?_
        refine RG.go tab 3 [0] rfl ?_
        refine RG.nil ?_
        refine SC.cond rfl (fun hb9 => ?_) (fun hb9 => ?_)
        · try simp only [decide_eq_true_eq] at hb9
          refine SC.seq ?_
          refine SC.region ?_
          refine RG.ask tab 3 [0] rfl (by (repeat' refine And.intro ?_ ?_) <;> first | rfl | omega | (unfold in64; omega) | (simp; done) | (simp; omega) | (simp at *; omega)) ?_
          refine RG.re (v' := .int .i64 ((((a + b) / 2 + m : Nat) : Int) - ((b : Nat) : Int))) 143 (.int .i64 ((((a + b) / 2 + m) - b : Nat) : Int)) rfl (congrArg (AV.int .i64) (by omega)) ?_
          refine RG.go tab 1 [0] rfl ?_
          refine RG.nil ?_
          refine SC.region ?_
          refine RG.go tab 2 [0] rfl ?_
          refine RG.nil ?_
          exact ⟨(((a + b) / 2 + m) - b, (a + b) / 2), ⟨by dsimp only; split <;> omega, by dsimp only; split <;> omega⟩, Drop.mask [true] (rfl) ⟨Sc.rows fun _ => ⟨rfl, rfl⟩, trivial⟩, rfl, rfl, rfl, rfl, rfl, rfl, rfl, rfl, rfl, rfl, rfl, rfl, rfl, rfl, rfl, rfl, rfl, rfl, trivial⟩
        · try simp only [decide_eq_false_iff_not, Int.not_lt] at hb9
          refine SC.seq ?_
          refine SC.region ?_
          refine RG.go tab 2 [0] rfl ?_
          refine RG.nil ?_
          refine SC.region ?_
          refine RG.go tab 2 [0] rfl ?_
          refine RG.nil ?_
          exact ⟨(a, m), ⟨by dsimp only; split <;> omega, by dsimp only; split <;> omega⟩, Drop.mask [true] (rfl) ⟨Sc.rows fun _ => ⟨rfl, rfl⟩, trivial⟩, rfl, rfl, rfl, rfl, rfl, rfl, rfl, rfl, rfl, rfl, rfl, rfl, rfl, rfl, rfl, rfl, rfl, rfl, trivial⟩
      · rintro ⟨lo, hi⟩ hcut
        obtain ⟨hlo, hhi⟩ := hcut
        dsimp only at hlo hhi
        have hab1 : (m > (a + b) / 2 → lo = (a + b) / 2 + m - b ∧ hi = (a + b) / 2) ∧ (¬ m > (a + b) / 2 → lo = a ∧ hi = m) := ⟨fun h => by rw [if_pos h] at hlo hhi; exact ⟨hlo, hhi⟩, fun h => by rw [if_neg h] at hlo hhi; exact ⟨hlo, hhi⟩⟩
        have hmono : ∀ k k', lo ≤ k → k ≤ k' → k' < hi → (fun k => ¬ cW (xs.getD ((a + b) / 2 + m - 1 - k) ([], 0)) (xs.getD k ([], 0)) < 0) k' → (fun k => ¬ cW (xs.getD ((a + b) / 2 + m - 1 - k) ([], 0)) (xs.getD k ([], 0)) < 0) k := fun k k' h1 h2 h3 h4 => cW_ord.trans _ _ _ (cW_ord.trans _ _ _ (hs1 k k' (by omega) h2 (by omega)) h4) (hs2 ((a + b) / 2 + m - 1 - k') ((a + b) / 2 + m - 1 - k) (by omega) (by omega) (by omega))
        refine SC.seq ?_
        refine SC.region ?_
        refine RG.ask tab 2 [0] rfl (by (repeat' refine And.intro ?_ ?_) <;> first | rfl | omega | (unfold in64; omega) | (simp; done) | (simp; omega) | (simp at *; omega)) ?_
        refine RG.re (v' := .int .i64 ((((a + b) / 2 + m : Nat) : Int) - 1)) 148 (.int .i64 ((((a + b) / 2 + m) - 1 : Nat) : Int)) rfl (congrArg (AV.int .i64) (by omega)) ?_
        refine RG.go tab 1 [0] rfl ?_
        refine RG.nil ?_
        refine SC.seq ?_
        refine SC.block ?_
        refine SC.loop2 (fun (s : Nat) (r : Nat) => r - s) (fun (s : Nat) (r : Nat) => Bs (fun k => ¬ cW (xs.getD ((a + b) / 2 + m - 1 - k) ([], 0)) (xs.getD k ([], 0)) < 0) lo hi s r) (fun (s : Nat) (r : Nat) => [(0, .sl 0 L), (1, .int .i64 ((a : Nat) : Int)), (2, .int .i64 ((m : Nat) : Int)), (3, .int .i64 ((b : Nat) : Int)), (4, .fn 84 [] []), (18, .int .i64 (((a + b) / 2 : Nat) : Int)), (19, .int .i64 (((a + b) / 2 + m : Nat) : Int)), (20, .int .i64 ((s : Nat) : Int)), (21, .int .i64 ((r : Nat) : Int)), (22, .int .i64 ((((a + b) / 2 + m) - 1 : Nat) : Int))]) (fun (s : Nat) (r : Nat) => [some ⟨72, 2, xs.map rW⟩]) lo hi (Bs.init _ (by omega)) (Drop.mask [true] (rfl) ⟨Sc.rows fun _ => ⟨rfl, rfl⟩, trivial⟩) ⟨rfl, rfl, rfl, rfl, rfl, rfl, rfl, rfl, rfl, rfl, rfl, rfl, rfl, rfl, rfl, rfl, rfl, rfl, rfl, rfl, trivial⟩ (fun _ _ => Nat.le_of_ble_eq_true rfl) fun s r hI4 => ?_
        have hB := hI4
        have hl1 := hB.l1
        have hl2 := hB.l2
        have hl3 := hB.l3
        refine SC.seq ?_
        refine SC.seq ?_
        refine SC.region ?_
        refine RG.go tab 3 [0] rfl ?_
        refine RG.nil ?_
        refine SC.cond rfl (fun hb10 => ?_) (fun hb10 => ?_)
        · try simp only [decide_eq_true_eq] at hb10
          refine SC.skip ?_
          refine SC.block ?_
          refine SC.seq ?_
          refine SC.region ?_
          refine RG.ask tab 6 [0] rfl (by (repeat' refine And.intro ?_ ?_) <;> first | rfl | omega | (unfold in64; omega) | (simp; done) | (simp; omega) | (simp at *; omega)) ?_
          refine RG.re (v' := .int .i64 (IntKind.i64.wrap ((IntKind.u64.wrap ((s + r : Nat) : Int)).fdiv (2 ^ (min (1 : Int).toNat IntKind.u64.bits))))) 157 (.int .i64 (((s + r) / 2 : Nat) : Int)) rfl (congrArg (AV.int .i64) (half_ok _ (by omega))) ?_
          refine RG.go tab 1 [0] rfl ?_
          refine RG.nil ?_
          refine SC.seq ?_
          refine SC.drawn tab [0] (fun kk => if kk = 11 then .pf (.int .i64 (cW (xs.getD ((((a + b) / 2 + m) - 1) - ((s + r) / 2)) ([], 0)) (xs.getD ((s + r) / 2) ([], 0)))) else .none) [] [] [0, 1, 2, 3, 4, 5, 6, 7, 8, 9, 10, 11, 12, 13] 220 rfl mixed (by decide +kernel) ?_
          refine QR.ask 5 rfl (by (repeat' refine And.intro ?_ ?_) <;> first | rfl | omega | (unfold in64; omega) | (simp; done) | (simp; omega) | (simp at *; omega)) ?_
          refine QR.re (v' := .int .i64 (((((a + b) / 2 + m) - 1 : Nat) : Int) - (((s + r) / 2 : Nat) : Int))) 162 (.int .i64 (((((a + b) / 2 + m) - 1) - ((s + r) / 2) : Nat) : Int)) rfl (congrArg (AV.int .i64) (by omega)) ?_
          refine QR.ask 1 rfl (by (repeat' refine And.intro ?_ ?_) <;> first | rfl | omega | (unfold in64; omega) | (simp; done) | (simp; omega) | (simp at *; omega)) ?_
          refine QR.ldr ([], 0) rfl rfl rfl rfl (by first | rfl | assumption | omega | (simp only [List.length_set]; first | assumption | omega) | (simp; omega)) (by first | omega | (simp only [List.length_set]; omega) | (simp; omega)) rfl rfl ?_
          refine QR.ask 3 rfl (by (repeat' refine And.intro ?_ ?_) <;> first | rfl | omega | (unfold in64; omega) | (simp; done) | (simp; omega) | (simp at *; omega)) ?_
          refine QR.ldr ([], 0) rfl rfl rfl rfl (by first | rfl | assumption | omega | (simp only [List.length_set]; first | assumption | omega) | (simp; omega)) (by first | omega | (simp only [List.length_set]; omega) | (simp; omega)) rfl rfl ?_
          refine QR.pfc rfl rfl (cW_pf (xs.getD ((((a + b) / 2 + m) - 1) - ((s + r) / 2)) ([], 0)) (xs.getD ((s + r) / 2) ([], 0))) rfl ?_
          refine QR.go 2 rfl ?_
          refine QR.nil ?_
          refine SC.cond rfl (fun hb11 => ?_) (fun hb11 => ?_)
          · try simp only [decide_eq_false_iff_not, Bool.not_eq_eq_eq_not, Bool.not_true, Int.not_lt] at hb11
            have hbs := hB.up hmono (k := ((s + r) / 2)) (by omega) (by omega) (fun hlt : cW (xs.getD ((a + b) / 2 + m - 1 - ((s + r) / 2)) ([], 0)) (xs.getD ((s + r) / 2) ([], 0)) < 0 => by omega)
            refine SC.region ?_
            refine RG.ask tab 3 [0] rfl (by (repeat' refine And.intro ?_ ?_) <;> first | rfl | omega | (unfold in64; omega) | (simp; done) | (simp; omega) | (simp at *; omega)) ?_
            refine RG.nil ?_
            refine ⟨(s + r) / 2 + 1, r, (by omega), hbs, Drop.mask [true] rfl ⟨Sc.rows fun _ => ⟨rfl, rfl⟩, trivial⟩, rfl, rfl, rfl, rfl, rfl, rfl, rfl, rfl, rfl, rfl, rfl, rfl, rfl, rfl, rfl, rfl, rfl, rfl, rfl, rfl, trivial⟩
          · try simp only [decide_eq_true_eq, Bool.not_eq_eq_eq_not, Bool.not_false] at hb11
            have hbs := hB.dn hmono (k := ((s + r) / 2)) (by omega) (by omega) (fun hn => hn hb11)
            refine SC.region ?_
            refine RG.go tab 2 [0] rfl ?_
            refine RG.nil ?_
            refine ⟨s, (s + r) / 2, (by omega), hbs, Drop.mask [true] rfl ⟨Sc.rows fun _ => ⟨rfl, rfl⟩, trivial⟩, rfl, rfl, rfl, rfl, rfl, rfl, rfl, rfl, rfl, rfl, rfl, rfl, rfl, rfl, rfl, rfl, rfl, rfl, rfl, rfl, trivial⟩
        · try simp only [decide_eq_false_iff_not, Int.not_lt] at hb10
          have hsr : r = s := by have := hB.l2; omega
          rw [hsr] at hB
          have hbd : a ≤ s ∧ s ≤ m ∧ s ≤ (a + b) / 2 ∧ ((a + b) / 2 + m - s) ≤ b := by have := hB.l1; have := hB.l3; omega
          refine SC.exit ?_
          refine SC.seq ?_
          refine SC.region ?_
          refine RG.ask tab 3 [0] rfl (by (repeat' refine And.intro ?_ ?_) <;> first | rfl | omega | (unfold in64; omega) | (simp; done) | (simp; omega) | (simp at *; omega)) ?_
          refine RG.re (v' := .int .i64 ((((a + b) / 2 + m : Nat) : Int) - ((s : Nat) : Int))) 177 (.int .i64 ((((a + b) / 2 + m) - s : Nat) : Int)) rfl (congrArg (AV.int .i64) (by omega)) ?_
          refine RG.go tab 1 [0] rfl ?_
          refine RG.nil ?_
          refine SC.cutE (X := (List (List Int × Int))) (fun (x : (List (List Int × Int))) => x.length = L ∧ (∀ k, x.getD k ([], 0) = rotG ([], 0) xs s (m - s) ((a + b) / 2 - s) k) ∧ Win ([], 0) xs x a b) (fun (x : (List (List Int × Int))) => [(0, .sl 0 L), (1, .int .i64 ((a : Nat) : Int)), (3, .int .i64 ((b : Nat) : Int)), (4, .fn 84 [] []), (18, .int .i64 (((a + b) / 2 : Nat) : Int)), (20, .int .i64 ((s : Nat) : Int)), (24, .int .i64 ((((a + b) / 2 + m) - s : Nat) : Int))]) (fun (x : (List (List Int × Int))) => [some ⟨72, 2, x.map rW⟩]) (fun _ => Nat.le_of_ble_eq_true rfl) ?_ ?_
          · refine SC.cut [(0, .sl 0 L), (1, .int .i64 ((a : Nat) : Int)), (2, .int .i64 ((m : Nat) : Int)), (3, .int .i64 ((b : Nat) : Int)), (4, .fn 84 [] []), (18, .int .i64 (((a + b) / 2 : Nat) : Int)), (20, .int .i64 ((s : Nat) : Int)), (24, .int .i64 ((((a + b) / 2 + m) - s : Nat) : Int)), (185, .bool ((decide (((s : Nat) : Int) < ((m : Nat) : Int))) && (decide (((m : Nat) : Int) < ((((a + b) / 2 + m) - s : Nat) : Int)))))] [some ⟨72, 2, xs.map rW⟩] rfl ?_ ?_
            · refine SC.region ?_
              refine RG.go tab 4 [0] rfl ?_
              refine RG.split 181 rfl fun b12 hb12 => ?_
              cases b12
              · try have hp12 := of_decide_eq_false hb12
                refine RG.go tab 4 [0] rfl ?_
                refine RG.nil ?_
                exact ⟨Drop.mask [true] (rfl) ⟨Sc.rows fun _ => ⟨rfl, rfl⟩, trivial⟩, rfl, rfl, rfl, rfl, rfl, rfl, rfl, rfl, rfl, rfl, rfl, rfl, rfl, rfl, rfl, rfl, (show AV.bool false = AV.bool ((decide (((s : Nat) : Int) < ((m : Nat) : Int))) && (decide (((m : Nat) : Int) < ((((a + b) / 2 + m) - s : Nat) : Int)))) from by first | rfl | ((try simp only [Int.toNat_natCast] at hb12); first | (rw [hb12]; done) | (rw [hb12]; rfl)) | (simp only [hb12]; rfl) | simp_all), rfl, trivial⟩
              · try have hp12 := of_decide_eq_true hb12
                refine RG.go tab 4 [0] rfl ?_
                refine RG.nil ?_
                exact ⟨Drop.mask [true] (rfl) ⟨Sc.rows fun _ => ⟨rfl, rfl⟩, trivial⟩, rfl, rfl, rfl, rfl, rfl, rfl, rfl, rfl, rfl, rfl, rfl, rfl, rfl, rfl, rfl, rfl, (show AV.bool (decide (((m : Nat) : Int) < ((((a + b) / 2 + m) - s : Nat) : Int))) = AV.bool ((decide (((s : Nat) : Int) < ((m : Nat) : Int))) && (decide (((m : Nat) : Int) < ((((a + b) / 2 + m) - s : Nat) : Int)))) from by first | rfl | ((try simp only [Int.toNat_natCast] at hb12); first | (rw [hb12]; done) | (rw [hb12]; rfl)) | (simp only [hb12]; rfl) | simp_all), rfl, trivial⟩
            · refine SC.cond rfl (fun hb13 => ?_) (fun hb13 => ?_)
              · try simp only [decide_eq_true_eq, Bool.and_eq_true] at hb13
                refine SC.region ?_
                refine RG.go tab 5 [0] rfl ?_
                refine RG.fc rfl rfl (rotateW xs L s m ((a + b) / 2 + m - s) hL hx (by omega) (by omega) (by omega)) (fun r0 S0 hq => ?_)
                obtain ⟨rfl, ys, rfl, hro, hw1⟩ := hq
                refine RG.nil ?_
                exact ⟨(ys), ⟨by rw [hw1.len]; exact hL, fun k => by rw [show (a + b) / 2 - s = ((a + b) / 2 + m - s) - m by omega]; exact hro k, hw1.wide (by omega) (by omega)⟩, Drop.mask [true] (rfl) ⟨Sc.rows fun _ => ⟨rfl, rfl⟩, trivial⟩, rfl, rfl, rfl, rfl, rfl, rfl, rfl, rfl, rfl, rfl, rfl, rfl, rfl, rfl, trivial⟩
              · try simp only [decide_eq_true_eq, decide_eq_false_iff_not, Bool.and_eq_false_imp, Int.not_lt] at hb13
                refine SC.skip ?_
                exact ⟨(xs), ⟨hL, fun k => by unfold rotG; (repeat' split) <;> first | rfl | (congr 1; omega) | omega, Win.refl _ _ _⟩, Drop.mask [true] (rfl) ⟨Sc.rows fun _ => ⟨rfl, rfl⟩, trivial⟩, rfl, rfl, rfl, rfl, rfl, rfl, rfl, rfl, rfl, rfl, rfl, rfl, rfl, rfl, trivial⟩
          · intro ys hcut
            obtain ⟨hys, hro, hW⟩ := hcut
            obtain ⟨-, -, -, -, -, -, hM⟩ := sym_mid cW_ord hs1 hs2 ham hmb rfl hlo hhi hB hro
            refine SC.cutE (X := (List (List Int × Int))) (fun (x : (List (List Int × Int))) => x.length = L ∧ Win ([], 0) ys x a ((a + b) / 2) ∧ Srt cW ([], 0) x a ((a + b) / 2)) (fun (x : (List (List Int × Int))) => [(0, .sl 0 L), (3, .int .i64 ((b : Nat) : Int)), (4, .fn 84 [] []), (18, .int .i64 (((a + b) / 2 : Nat) : Int)), (24, .int .i64 ((((a + b) / 2 + m) - s : Nat) : Int))]) (fun (x : (List (List Int × Int))) => [some ⟨72, 2, x.map rW⟩]) (fun _ => Nat.le_of_ble_eq_true rfl) ?_ ?_
            · refine SC.cut [(0, .sl 0 L), (1, .int .i64 ((a : Nat) : Int)), (3, .int .i64 ((b : Nat) : Int)), (4, .fn 84 [] []), (18, .int .i64 (((a + b) / 2 : Nat) : Int)), (20, .int .i64 ((s : Nat) : Int)), (24, .int .i64 ((((a + b) / 2 + m) - s : Nat) : Int)), (199, .bool ((decide (((a : Nat) : Int) < ((s : Nat) : Int))) && (decide (((s : Nat) : Int) < (((a + b) / 2 : Nat) : Int)))))] [some ⟨72, 2, ys.map rW⟩] rfl ?_ ?_
              · refine SC.region ?_
                refine RG.go tab 4 [0] rfl ?_
                refine RG.split 195 rfl fun b14 hb14 => ?_
                cases b14
                · try have hp14 := of_decide_eq_false hb14
                  refine RG.go tab 4 [0] rfl ?_
                  refine RG.nil ?_
                  exact ⟨Drop.mask [true] (rfl) ⟨Sc.rows fun _ => ⟨rfl, rfl⟩, trivial⟩, rfl, rfl, rfl, rfl, rfl, rfl, rfl, rfl, rfl, rfl, rfl, rfl, rfl, rfl, (show AV.bool false = AV.bool ((decide (((a : Nat) : Int) < ((s : Nat) : Int))) && (decide (((s : Nat) : Int) < (((a + b) / 2 : Nat) : Int)))) from by first | rfl | ((try simp only [Int.toNat_natCast] at hb14); first | (rw [hb14]; done) | (rw [hb14]; rfl)) | (simp only [hb14]; rfl) | simp_all), rfl, trivial⟩
                · try have hp14 := of_decide_eq_true hb14
                  refine RG.go tab 4 [0] rfl ?_
                  refine RG.nil ?_
                  exact ⟨Drop.mask [true] (rfl) ⟨Sc.rows fun _ => ⟨rfl, rfl⟩, trivial⟩, rfl, rfl, rfl, rfl, rfl, rfl, rfl, rfl, rfl, rfl, rfl, rfl, rfl, rfl, (show AV.bool (decide (((s : Nat) : Int) < (((a + b) / 2 : Nat) : Int))) = AV.bool ((decide (((a : Nat) : Int) < ((s : Nat) : Int))) && (decide (((s : Nat) : Int) < (((a + b) / 2 : Nat) : Int)))) from by first | rfl | ((try simp only [Int.toNat_natCast] at hb14); first | (rw [hb14]; done) | (rw [hb14]; rfl)) | (simp only [hb14]; rfl) | simp_all), rfl, trivial⟩
              · refine SC.cond rfl (fun hb15 => ?_) (fun hb15 => ?_)
                · try simp only [decide_eq_true_eq, Bool.and_eq_true] at hb15
                  refine SC.region ?_
                  refine RG.go tab 5 [0] rfl ?_
                  refine RG.fc rfl rfl (ih ys L a s ((a + b) / 2) hys hx (by omega) (by omega) (by omega) (by omega) hM.s1 hM.s2) (fun r0 S0 hq => ?_)
                  obtain ⟨rfl, zs, rfl, hw2, hz2⟩ := hq
                  refine RG.nil ?_
                  exact ⟨(zs), ⟨by rw [hw2.len]; exact hys, hw2, hz2⟩, Drop.mask [true] (rfl) ⟨Sc.rows fun _ => ⟨rfl, rfl⟩, trivial⟩, rfl, rfl, rfl, rfl, rfl, rfl, rfl, rfl, rfl, rfl, trivial⟩
                · try simp only [decide_eq_true_eq, decide_eq_false_iff_not, Bool.and_eq_false_imp, Int.not_lt] at hb15
                  refine SC.skip ?_
                  exact ⟨(ys), ⟨hys, Win.refl _ _ _, hM.s1.join0 hM.s2 (by omega)⟩, Drop.mask [true] (rfl) ⟨Sc.rows fun _ => ⟨rfl, rfl⟩, trivial⟩, rfl, rfl, rfl, rfl, rfl, rfl, rfl, rfl, rfl, rfl, trivial⟩
            · intro zs hcut
              obtain ⟨hzs, hw2, hz2⟩ := hcut
              refine SC.cut [(0, .sl 0 L), (3, .int .i64 ((b : Nat) : Int)), (4, .fn 84 [] []), (18, .int .i64 (((a + b) / 2 : Nat) : Int)), (24, .int .i64 ((((a + b) / 2 + m) - s : Nat) : Int)), (213, .bool ((decide ((((a + b) / 2 : Nat) : Int) < ((((a + b) / 2 + m) - s : Nat) : Int))) && (decide (((((a + b) / 2 + m) - s : Nat) : Int) < ((b : Nat) : Int)))))] [some ⟨72, 2, zs.map rW⟩] rfl ?_ ?_
              · refine SC.region ?_
                refine RG.go tab 4 [0] rfl ?_
                refine RG.split 209 rfl fun b16 hb16 => ?_
                cases b16
                · try have hp16 := of_decide_eq_false hb16
                  refine RG.go tab 4 [0] rfl ?_
                  refine RG.nil ?_
                  exact ⟨Drop.mask [true] (rfl) ⟨Sc.rows fun _ => ⟨rfl, rfl⟩, trivial⟩, rfl, rfl, rfl, rfl, rfl, rfl, rfl, rfl, rfl, rfl, (show AV.bool false = AV.bool ((decide ((((a + b) / 2 : Nat) : Int) < ((((a + b) / 2 + m) - s : Nat) : Int))) && (decide (((((a + b) / 2 + m) - s : Nat) : Int) < ((b : Nat) : Int)))) from by first | rfl | ((try simp only [Int.toNat_natCast] at hb16); first | (rw [hb16]; done) | (rw [hb16]; rfl)) | (simp only [hb16]; rfl) | simp_all), rfl, trivial⟩
                · try have hp16 := of_decide_eq_true hb16
                  refine RG.go tab 4 [0] rfl ?_
                  refine RG.nil ?_
                  exact ⟨Drop.mask [true] (rfl) ⟨Sc.rows fun _ => ⟨rfl, rfl⟩, trivial⟩, rfl, rfl, rfl, rfl, rfl, rfl, rfl, rfl, rfl, rfl, (show AV.bool (decide (((((a + b) / 2 + m) - s : Nat) : Int) < ((b : Nat) : Int))) = AV.bool ((decide ((((a + b) / 2 : Nat) : Int) < ((((a + b) / 2 + m) - s : Nat) : Int))) && (decide (((((a + b) / 2 + m) - s : Nat) : Int) < ((b : Nat) : Int)))) from by first | rfl | ((try simp only [Int.toNat_natCast] at hb16); first | (rw [hb16]; done) | (rw [hb16]; rfl)) | (simp only [hb16]; rfl) | simp_all), rfl, trivial⟩
              · refine SC.cond rfl (fun hb17 => ?_) (fun hb17 => ?_)
                · try simp only [decide_eq_true_eq, Bool.and_eq_true] at hb17
                  refine SC.region ?_
                  refine RG.go tab 5 [0] rfl ?_
                  refine RG.fc rfl rfl (ih zs L ((a + b) / 2) ((a + b) / 2 + m - s) b hzs hx (by omega) (by omega) (by omega) hb (hM.s3.out hw2 (.inr (Nat.le_refl _))) (hM.s4.out hw2 (.inr (by omega)))) (fun r0 S0 hq => ?_)
                  obtain ⟨rfl, us, rfl, hw3, hz3⟩ := hq
                  refine RG.nil ?_
                  refine End.normal tab rfl ?_
                  exact ⟨rfl, us, rfl, hW.trans ((hw2.wide (Nat.le_refl _) (by omega)).trans (hw3.wide (by omega) (Nat.le_refl _))), sym_fin hM hw2 hz2 hw3 hz3 (by omega) (by omega)⟩
                · try simp only [decide_eq_true_eq, decide_eq_false_iff_not, Bool.and_eq_false_imp, Int.not_lt] at hb17
                  refine SC.skip ?_
                  refine End.normal tab rfl ?_
                  exact ⟨rfl, zs, rfl, hW.trans (hw2.wide (Nat.le_refl _) (by omega)), sym_fin hM hw2 hz2 (Win.refl _ _ _) ((hM.s3.out hw2 (.inr (Nat.le_refl _))).join0 (hM.s4.out hw2 (.inr (by omega))) (by omega)) (by omega) (by omega)⟩
theorem stableW (xs : List (List Int × Int)) (L : Nat) (hL : xs.length = L) (hx : L ≤ 1099511627776) : FC Try.prog 113 [.sl 0 L, .int .i64 ((L : Nat) : Int), .fn 84 [] []] [some ⟨72, 2, xs.map rW⟩] (fun r S' => r = .tup [] ∧ ∃ ys, S' = [some ⟨72, 2, ys.map rW⟩] ∧ ys.Perm xs ∧ Srt cW ([], 0) ys 0 L) := by
  refine FC.text Try.func113 rfl rfl rfl fun B => ?_
  refine SC.seq ?_
  refine SC.region ?_
  refine RG.go tab 1 [0] rfl ?_
  refine RG.nil ?_
  refine SC.seq ?_
  refine SC.region ?_
  refine RG.go tab 3 [0] rfl ?_
  refine RG.nil ?_
  refine SC.seq ?_
  refine SC.block ?_
  refine SC.loop3 (fun (a : Nat) (b : Nat) (ys : List (List Int × Int)) => L + 20 - b) (fun (a : Nat) (b : Nat) (ys : List (List Int × Int)) => b = a + 20 ∧ a ≤ L ∧ ys.length = L ∧ PreBlk cW ([], 0) ys 20 a ∧ ys.Perm xs) (fun (a : Nat) (b : Nat) (ys : List (List Int × Int)) => [(0, .sl 0 L), (1, .int .i64 ((L : Nat) : Int)), (2, .fn 84 [] []), (6, .int .i64 20), (7, .int .i64 ((a : Nat) : Int)), (8, .int .i64 ((b : Nat) : Int))]) (fun (a : Nat) (b : Nat) (ys : List (List Int × Int)) => [some ⟨72, 2, ys.map rW⟩]) 0 20 xs ⟨rfl, Nat.zero_le _, hL, .zero, .refl _⟩ (Drop.mask [true] (rfl) ⟨Sc.rows fun _ => ⟨rfl, rfl⟩, trivial⟩) ⟨rfl, rfl, rfl, rfl, rfl, rfl, rfl, rfl, rfl, rfl, rfl, rfl, trivial⟩ (fun _ _ _ => Nat.le_of_ble_eq_true rfl) fun a b ys hI0 => ?_
  obtain ⟨hab, haL, hys, hPr, hPm⟩ := hI0
  refine SC.seq ?_
  refine SC.seq ?_
  refine SC.region ?_
  refine RG.go tab 3 [0] rfl ?_
  refine RG.nil ?_
  refine SC.cond rfl (fun hb1 => ?_) (fun hb1 => ?_)
  · try simp only [decide_eq_true_eq] at hb1
    refine SC.skip ?_
    refine SC.block ?_
    refine SC.seq ?_
    refine SC.region ?_
    refine RG.go tab 4 [0] rfl ?_
    refine RG.fc rfl rfl (insertionSortW ys L a b hys hx (by omega) (by omega)) (fun r0 S0 hq => ?_)
    obtain ⟨rfl, ys1, rfl, hs1, hw1⟩ := hq
    refine RG.nil ?_
    refine SC.seq ?_
    refine SC.region ?_
    refine RG.go tab 2 [0] rfl ?_
    refine RG.nil ?_
    refine SC.region ?_
    refine RG.ask tab 4 [0] rfl (by (repeat' refine And.intro ?_ ?_) <;> first | rfl | omega | (unfold in64; omega) | (simp; done) | (simp; omega) | (simp at *; omega)) ?_
    refine RG.nil ?_
    refine ⟨b, b + 20, ys1, (by omega), ⟨by omega, by omega, by rw [hw1.len, hys], (show PreBlk cW ([], 0) ys1 20 b from by rw [hab] at hs1 hw1 ⊢; exact .step (hPr.out hw1 (Nat.le_refl _)) hs1), hw1.perm.trans hPm⟩, Drop.mask [true] rfl ⟨Sc.rows fun _ => ⟨rfl, rfl⟩, trivial⟩, rfl, rfl, rfl, rfl, rfl, rfl, rfl, rfl, rfl, rfl, rfl, rfl, trivial⟩
  · try simp only [decide_eq_false_iff_not, Int.not_le] at hb1
    refine SC.exit ?_
    refine SC.seq ?_
    refine SC.region ?_
    refine RG.go tab 4 [0] rfl ?_
    refine RG.fc rfl rfl (insertionSortW ys L a L hys hx (by omega) (by omega)) (fun r0 S0 hq => ?_)
    obtain ⟨rfl, ys1, rfl, hs1, hw1⟩ := hq
    refine RG.nil ?_
    refine SC.block ?_
    refine SC.loop2 (fun (bs : Nat) (ys2 : List (List Int × Int)) => L - bs) (fun (bs : Nat) (ys2 : List (List Int × Int)) => 0 < bs ∧ bs ≤ 2 * L + 20 ∧ ys2.length = L ∧ Blk cW ([], 0) ys2 bs L 0 ∧ ys2.Perm xs) (fun (bs : Nat) (ys2 : List (List Int × Int)) => [(0, .sl 0 L), (1, .int .i64 ((L : Nat) : Int)), (2, .fn 84 [] []), (6, .int .i64 ((bs : Nat) : Int))]) (fun (bs : Nat) (ys2 : List (List Int × Int)) => [some ⟨72, 2, ys2.map rW⟩]) 20 ys1 ⟨by omega, by omega, by rw [hw1.len, hys], (hPr.out hw1 (Nat.le_refl _)).fin (Blk.last hs1 (by omega)), hw1.perm.trans hPm⟩ (Drop.mask [true] (rfl) ⟨Sc.rows fun _ => ⟨rfl, rfl⟩, trivial⟩) ⟨rfl, rfl, rfl, rfl, rfl, rfl, rfl, rfl, trivial⟩ (fun _ _ => Nat.le_of_ble_eq_true rfl) fun bs ys2 hI1 => ?_
    obtain ⟨hbs, hbL, hys2, hBk, hPn⟩ := hI1
    refine SC.seq ?_
    refine SC.seq ?_
    refine SC.region ?_
    refine RG.go tab 3 [0] rfl ?_
    refine RG.nil ?_
    refine SC.cond rfl (fun hb2 => ?_) (fun hb2 => ?_)
    · try simp only [decide_eq_true_eq] at hb2
      refine SC.skip ?_
      refine SC.block ?_
      refine SC.seq ?_
      refine SC.region ?_
      refine RG.ask tab 2 [0] rfl (by (repeat' refine And.intro ?_ ?_) <;> first | rfl | omega | (unfold in64; omega) | (simp; done) | (simp; omega) | (simp at *; omega)) ?_
      refine RG.re (v' := .int .i64 (2 * ((bs : Nat) : Int))) 32 (.int .i64 ((2 * bs : Nat) : Int)) rfl (congrArg (AV.int .i64) (by omega)) ?_
      refine RG.go tab 2 [0] rfl ?_
      refine RG.nil ?_
      refine SC.seq ?_
      refine SC.block ?_
      refine SC.loop3 (fun (a : Nat) (b : Nat) (zs : List (List Int × Int)) => L + 2 * bs - b) (fun (a : Nat) (b : Nat) (zs : List (List Int × Int)) => b = a + 2 * bs ∧ a ≤ L ∧ zs.length = L ∧ PreBlk cW ([], 0) zs (2 * bs) a ∧ Blk cW ([], 0) zs bs L a ∧ zs.Perm xs) (fun (a : Nat) (b : Nat) (zs : List (List Int × Int)) => [(0, .sl 0 L), (1, .int .i64 ((L : Nat) : Int)), (2, .fn 84 [] []), (6, .int .i64 ((bs : Nat) : Int)), (7, .int .i64 ((a : Nat) : Int)), (8, .int .i64 ((b : Nat) : Int))]) (fun (a : Nat) (b : Nat) (zs : List (List Int × Int)) => [some ⟨72, 2, zs.map rW⟩]) 0 (2 * bs) ys2 ⟨by omega, Nat.zero_le _, hys2, .zero, hBk, hPn⟩ (Drop.mask [true] (rfl) ⟨Sc.rows fun _ => ⟨rfl, rfl⟩, trivial⟩) ⟨rfl, rfl, rfl, rfl, rfl, rfl, rfl, rfl, rfl, rfl, rfl, rfl, trivial⟩ (fun _ _ _ => Nat.le_of_ble_eq_true rfl) fun a b zs hI2 => ?_
      obtain ⟨hab, haL, hzs, hPr, hBl, hPm⟩ := hI2
      refine SC.seq ?_
      refine SC.seq ?_
      refine SC.region ?_
      refine RG.go tab 3 [0] rfl ?_
      refine RG.nil ?_
      refine SC.cond rfl (fun hb3 => ?_) (fun hb3 => ?_)
      · try simp only [decide_eq_true_eq] at hb3
        have hk1 := hBl.take (by omega)
        have hk2 := hk1.2.take (by omega)
        refine SC.skip ?_
        refine SC.block ?_
        refine SC.seq ?_
        refine SC.region ?_
        refine RG.ask tab 7 [0] rfl (by (repeat' refine And.intro ?_ ?_) <;> first | rfl | omega | (unfold in64; omega) | (simp; done) | (simp; omega) | (simp at *; omega)) ?_
        refine RG.fc rfl rfl (symMergeW (b - a + 1) zs L a (a + bs) b hzs hx (by omega) (by omega) (by omega) (by omega) (by have := hk1.1; rwa [show min (a + bs) L = a + bs by omega] at this) (by have := hk2.1; rwa [show min (a + bs + bs) L = b by omega] at this)) (fun r0 S0 hq => ?_)
        obtain ⟨rfl, zs1, rfl, hw1, hs1⟩ := hq
        refine RG.nil ?_
        refine SC.seq ?_
        refine SC.region ?_
        refine RG.go tab 2 [0] rfl ?_
        refine RG.nil ?_
        refine SC.region ?_
        refine RG.ask tab 3 [0] rfl (by (repeat' refine And.intro ?_ ?_) <;> first | rfl | omega | (unfold in64; omega) | (simp; done) | (simp; omega) | (simp at *; omega)) ?_
        refine RG.re (v' := .int .i64 (2 * ((bs : Nat) : Int))) 47 (.int .i64 ((2 * bs : Nat) : Int)) rfl (congrArg (AV.int .i64) (by omega)) ?_
        refine RG.ask tab 2 [0] rfl (by (repeat' refine And.intro ?_ ?_) <;> first | rfl | omega | (unfold in64; omega) | (simp; done) | (simp; omega) | (simp at *; omega)) ?_
        refine RG.nil ?_
        refine ⟨b, b + 2 * bs, zs1, (by omega), ⟨by omega, by omega, by rw [hw1.len, hzs], (show PreBlk cW ([], 0) zs1 (2 * bs) b from by rw [hab] at hs1 hw1 ⊢; exact .step (hPr.out hw1 (Nat.le_refl _)) hs1), (by have h := hk2.2.out hw1 (by omega); rwa [show a + bs + bs = b by omega] at h), hw1.perm.trans hPm⟩, Drop.mask [true] rfl ⟨Sc.rows fun _ => ⟨rfl, rfl⟩, trivial⟩, rfl, rfl, rfl, rfl, rfl, rfl, rfl, rfl, rfl, rfl, rfl, rfl, trivial⟩
      · try simp only [decide_eq_false_iff_not, Int.not_le] at hb3
        refine SC.exit ?_
        refine SC.cutE (X := (List (List Int × Int))) (fun (x : (List (List Int × Int))) => x.length = L ∧ Blk cW ([], 0) x (2 * bs) L 0 ∧ x.Perm xs) (fun (x : (List (List Int × Int))) => [(0, .sl 0 L), (1, .int .i64 ((L : Nat) : Int)), (2, .fn 84 [] []), (6, .int .i64 ((bs : Nat) : Int))]) (fun (x : (List (List Int × Int))) => [some ⟨72, 2, x.map rW⟩]) (fun _ => Nat.le_of_ble_eq_true rfl) ?_ ?_
        · refine SC.seq ?_
          refine SC.region ?_
          refine RG.ask tab 4 [0] rfl (by (repeat' refine And.intro ?_ ?_) <;> first | rfl | omega | (unfold in64; omega) | (simp; done) | (simp; omega) | (simp at *; omega)) ?_
          refine RG.nil ?_
          refine SC.seq ?_
          refine SC.region ?_
          refine RG.go tab 3 [0] rfl ?_
          refine RG.nil ?_
          refine SC.cond rfl (fun hb4 => ?_) (fun hb4 => ?_)
          · try simp only [decide_eq_true_eq] at hb4
            have hk1 := hBl.take (by omega)
            have hk2 := hk1.2.take (by omega)
            refine SC.region ?_
            refine RG.go tab 5 [0] rfl ?_
            refine RG.fc rfl rfl (symMergeW (L - a + 1) zs L a (a + bs) L hzs hx (by omega) (by omega) (by omega) (by omega) (by have := hk1.1; rwa [show min (a + bs) L = a + bs by omega] at this) (by have := hk2.1; rwa [show min (a + bs + bs) L = L by omega] at this)) (fun r0 S0 hq => ?_)
            obtain ⟨rfl, zs1, rfl, hw1, hs1⟩ := hq
            refine RG.nil ?_
            exact ⟨(zs1), ⟨by rw [hw1.len]; exact hzs, (hPr.out hw1 (Nat.le_refl _)).fin (Blk.last hs1 (by omega)), hw1.perm.trans hPm⟩, Drop.mask [true] (rfl) ⟨Sc.rows fun _ => ⟨rfl, rfl⟩, trivial⟩, rfl, rfl, rfl, rfl, rfl, rfl, rfl, rfl, trivial⟩
          · try simp only [decide_eq_false_iff_not, Int.not_lt] at hb4
            refine SC.skip ?_
            exact ⟨(zs), ⟨hzs, hPr.fin (if hla : L ≤ a then .done hla else Blk.last (by have := (hBl.take (by omega)).1; rwa [show min (a + bs) L = L by omega] at this) (by omega)), hPm⟩, Drop.mask [true] (rfl) ⟨Sc.rows fun _ => ⟨rfl, rfl⟩, trivial⟩, rfl, rfl, rfl, rfl, rfl, rfl, rfl, rfl, trivial⟩
        · intro us hcut
          obtain ⟨hus, hub, hup⟩ := hcut
          refine SC.region ?_
          refine RG.ask tab 2 [0] rfl (by (repeat' refine And.intro ?_ ?_) <;> first | rfl | omega | (unfold in64; omega) | (simp; done) | (simp; omega) | (simp at *; omega)) ?_
          refine RG.re (v' := .int .i64 (((bs : Nat) : Int) * 2)) 62 (.int .i64 ((bs * 2 : Nat) : Int)) rfl (congrArg (AV.int .i64) (by omega)) ?_
          refine RG.go tab 1 [0] rfl ?_
          refine RG.nil ?_
          refine ⟨bs * 2, us, (by omega), ⟨by omega, by omega, hus, by rw [show bs * 2 = 2 * bs by omega]; exact hub, hup⟩, Drop.mask [true] rfl ⟨Sc.rows fun _ => ⟨rfl, rfl⟩, trivial⟩, rfl, rfl, rfl, rfl, rfl, rfl, rfl, rfl, trivial⟩
    · try simp only [decide_eq_false_iff_not, Int.not_lt] at hb2
      refine SC.exit ?_
      refine End.normal tab rfl ?_
      exact ⟨rfl, ys2, rfl, hPn, hBk.fin (by omega)⟩
theorem sortStableW (xs : List (List Int × Int)) (L : Nat) (hL : xs.length = L) (hx : L ≤ 1099511627776) : FC Try.prog 83 [.sl 0 L, .fn 84 [] []] [some ⟨72, 2, xs.map rW⟩] (fun r S' => r = .tup [] ∧ ∃ ys, S' = [some ⟨72, 2, ys.map rW⟩] ∧ ys.Perm xs ∧ Srt cW ([], 0) ys 0 L) := by
  refine FC.text Try.func83 rfl rfl rfl fun B => ?_
  refine SC.region ?_
  refine RG.ask tab 4 [0] rfl (by (repeat' refine And.intro ?_ ?_) <;> first | rfl | omega | (unfold in64; omega) | (simp; done) | (simp; omega) | (simp at *; omega)) ?_
  refine RG.fc rfl rfl (stableW xs L hL hx) (fun r0 S0 hq => ?_)
  obtain ⟨rfl, ys1, rfl, hpm, hst⟩ := hq
  refine RG.nil ?_
  refine End.normal tab rfl ?_
  exact ⟨rfl, ys1, rfl, hpm, hst⟩
def rG (w : List Int × Int × Int) : List AV := [ints w.1, .int .i64 w.2.1, .int .i64 w.2.2]
def cG (x y : List Int × Int × Int) : Int := cmpL x.1 y.1
theorem cG_ord : OrdC cG := ⟨fun x y h => (cmpL_ord.asym _ _ h), fun x y z h1 h2 => cmpL_ord.trans _ _ _ h1 h2⟩
theorem cG_pf (x : List Int × Int × Int) (y : List Int × Int × Int) : PF Try.prog 92 [.agg [ints x.1, .int .i64 x.2.1, .int .i64 x.2.2], .agg [ints y.1, .int .i64 y.2.1, .int .i64 y.2.2]] (.int .i64 (cG x y)) := by
  refine PF.text Try.func92 rfl rfl rfl fun B => ?_
  refine SC.lenA 0 0 rfl (Nat.le_of_ble_eq_true rfl) rfl fun hlen0_0 => ?_
  refine SC.lenA 1 0 rfl (Nat.le_of_ble_eq_true rfl) rfl fun hlen1_0 => ?_
  refine SC.seq ?_
  refine SC.region ?_
  refine RG.go tab 3 [] rfl ?_
  refine RG.nil ?_
  refine SC.seq ?_
  refine SC.region ?_
  refine RG.go tab 4 [] rfl ?_
  refine RG.pf rfl rfl (compareRows_pf x.1 y.1) rfl ?_
  refine RG.go tab 1 [] rfl ?_
  refine RG.nil ?_
  refine SC.ret (End.ret tab rfl ?_)
  refine seal_eq rfl ?_
  first | rfl | simp_all
theorem swapRangeG (xs : List (List Int × Int × Int)) (L a b n : Nat) (hL : xs.length = L) (hx : L ≤ 1099511627776) (hab : a + n ≤ b) (hb : b + n ≤ L) : FC Try.prog 139 [.sl 0 L, .int .i64 ((a : Nat) : Int), .int .i64 ((b : Nat) : Int), .int .i64 ((n : Nat) : Int), .fn 92 [] []] [some ⟨89, 3, xs.map rG⟩] (fun r S' => r = .tup [] ∧ ∃ ys, S' = [some ⟨89, 3, ys.map rG⟩] ∧ SwpR ([], 0, 0) xs ys a b n ∧ Win ([], 0, 0) xs ys a (b + n)) := by
  refine FC.text Try.func139 rfl rfl rfl fun B => ?_
  refine SC.seq ?_
  refine SC.region ?_
  refine RG.go tab 1 [0] rfl ?_
  refine RG.nil ?_
  refine SC.block ?_
  refine SC.loop2 (fun (i : Nat) (ys : List (List Int × Int × Int)) => n - i) (fun (i : Nat) (ys : List (List Int × Int × Int)) => i ≤ n ∧ ys.length = L ∧ SwpR ([], 0, 0) xs ys a b i ∧ Win ([], 0, 0) xs ys a (b + n)) (fun (i : Nat) (ys : List (List Int × Int × Int)) => [(0, .sl 0 L), (1, .int .i64 ((a : Nat) : Int)), (2, .int .i64 ((b : Nat) : Int)), (3, .int .i64 ((n : Nat) : Int)), (10, .int .i64 ((i : Nat) : Int))]) (fun (i : Nat) (ys : List (List Int × Int × Int)) => [some ⟨89, 3, ys.map rG⟩]) 0 xs ⟨Nat.zero_le _, hL, SwpR.zero _ _ _, Win.refl _ _ _⟩ (Drop.mask [true] (rfl) ⟨Sc.rows fun _ => ⟨rfl, rfl⟩, trivial⟩) ⟨rfl, rfl, rfl, rfl, rfl, rfl, rfl, rfl, rfl, rfl, trivial⟩ (fun _ _ => Nat.le_of_ble_eq_true rfl) fun i ys hI0 => ?_
  obtain ⟨hi, hys, hI, hW⟩ := hI0
  refine SC.seq ?_
  refine SC.seq ?_
  refine SC.region ?_
  refine RG.go tab 3 [0] rfl ?_
  refine RG.nil ?_
  refine SC.cond rfl (fun hb1 => ?_) (fun hb1 => ?_)
  · try simp only [decide_eq_true_eq] at hb1
    refine SC.skip ?_
    refine SC.seq ?_
    refine SC.block ?_
    refine SC.drawn tab [0] (fun _ => .none) [4, 5, 6, 7] [0] [0, 1, 2, 3, 4, 5, 6, 7, 8, 9, 10, 11, 12, 13, 14, 15, 16, 17, 18, 19, 20, 21, 22, 23] 38 rfl mixed (by decide +kernel) ?_
    refine QR.ask 13 rfl (by (repeat' refine And.intro ?_ ?_) <;> first | rfl | omega | (unfold in64; omega) | (simp; done) | (simp; omega) | (simp at *; omega)) ?_
    refine QR.ldr ([], 0, 0) rfl rfl rfl rfl (by first | rfl | assumption | omega | (simp only [List.length_set]; first | assumption | omega) | (simp; omega)) (by first | omega | (simp only [List.length_set]; omega) | (simp; omega)) rfl rfl ?_
    refine QR.ask 5 rfl (by (repeat' refine And.intro ?_ ?_) <;> first | rfl | omega | (unfold in64; omega) | (simp; done) | (simp; omega) | (simp at *; omega)) ?_
    refine QR.ldr ([], 0, 0) rfl rfl rfl rfl (by first | rfl | assumption | omega | (simp only [List.length_set]; first | assumption | omega) | (simp; omega)) (by first | omega | (simp only [List.length_set]; omega) | (simp; omega)) rfl rfl ?_
    refine QR.ask 1 rfl (by (repeat' refine And.intro ?_ ?_) <;> first | rfl | omega | (unfold in64; omega) | (simp; done) | (simp; omega) | (simp at *; omega)) ?_
    refine QR.str ([], 0, 0) (ys.getD (b + i) ([], 0, 0)) rfl rfl rfl rfl rfl rfl (by first | rfl | assumption | omega | (simp only [List.length_set]; first | assumption | omega) | (simp; omega)) (by first | omega | (simp only [List.length_set]; omega) | (simp; omega)) rfl rfl rfl rfl rfl rfl rfl ?_
    refine QR.ask 1 rfl (by (repeat' refine And.intro ?_ ?_) <;> first | rfl | omega | (unfold in64; omega) | (simp; done) | (simp; omega) | (simp at *; omega)) ?_
    refine QR.str ([], 0, 0) (ys.getD (a + i) ([], 0, 0)) rfl rfl rfl rfl rfl rfl (by first | rfl | assumption | omega | (simp only [List.length_set]; first | assumption | omega) | (simp; omega)) (by first | omega | (simp only [List.length_set]; omega) | (simp; omega)) rfl rfl rfl rfl rfl rfl rfl ?_
    refine QR.nil ?_
    refine SC.region ?_
    refine RG.ask tab 3 [0] rfl (by (repeat' refine And.intro ?_ ?_) <;> first | rfl | omega | (unfold in64; omega) | (simp; done) | (simp; omega) | (simp at *; omega)) ?_
    refine RG.nil ?_
    refine ⟨i + 1, swp ([], 0, 0) ys (a + i) (b + i), (by omega), ⟨by omega, by rw [swp_len, hys], hI.step (by omega) (by omega) hab (by omega), hW.trans (Win.swp ⟨by omega, by omega⟩ ⟨by omega, by omega⟩ (by omega))⟩, Drop.mask [true] rfl ⟨Sc.rows fun _ => ⟨rfl, rfl⟩, trivial⟩, rfl, rfl, rfl, rfl, rfl, rfl, rfl, rfl, rfl, rfl, trivial⟩
  · try simp only [decide_eq_false_iff_not, Int.not_lt] at hb1
    refine SC.exit ?_
    refine End.normal tab rfl ?_
    exact ⟨rfl, ys, rfl, by rw [show n = i by omega]; exact hI, hW⟩
theorem rotateG (xs : List (List Int × Int × Int)) (L a m b : Nat) (hL : xs.length = L) (hx : L ≤ 1099511627776) (ham : a < m) (hmb : m < b) (hb : b ≤ L) : FC Try.prog 137 [.sl 0 L, .int .i64 ((a : Nat) : Int), .int .i64 ((m : Nat) : Int), .int .i64 ((b : Nat) : Int), .fn 92 [] []] [some ⟨89, 3, xs.map rG⟩] (fun r S' => r = .tup [] ∧ ∃ ys, S' = [some ⟨89, 3, ys.map rG⟩] ∧ (∀ k, ys.getD k ([], 0, 0) = rotG ([], 0, 0) xs a (m - a) (b - m) k) ∧ Win ([], 0, 0) xs ys a b) := by
  refine FC.text Try.func137 rfl rfl rfl fun B => ?_
  refine SC.seq ?_
  refine SC.region ?_
  refine RG.ask tab 3 [0] rfl (by (repeat' refine And.intro ?_ ?_) <;> first | rfl | omega | (unfold in64; omega) | (simp; done) | (simp; omega) | (simp at *; omega)) ?_
  refine RG.re (v' := .int .i64 (((m : Nat) : Int) - ((a : Nat) : Int))) 14 (.int .i64 ((m - a : Nat) : Int)) rfl (congrArg (AV.int .i64) (by omega)) ?_
  refine RG.go tab 1 [0] rfl ?_
  refine RG.nil ?_
  refine SC.seq ?_
  refine SC.region ?_
  refine RG.ask tab 3 [0] rfl (by (repeat' refine And.intro ?_ ?_) <;> first | rfl | omega | (unfold in64; omega) | (simp; done) | (simp; omega) | (simp at *; omega)) ?_
  refine RG.re (v' := .int .i64 (((b : Nat) : Int) - ((m : Nat) : Int))) 17 (.int .i64 ((b - m : Nat) : Int)) rfl (congrArg (AV.int .i64) (by omega)) ?_
  refine RG.go tab 1 [0] rfl ?_
  refine RG.nil ?_
  refine SC.seq ?_
  refine SC.block ?_
  refine SC.loop3 (fun (i : Nat) (j : Nat) (ys : List (List Int × Int × Int)) => i + j) (fun (i : Nat) (j : Nat) (ys : List (List Int × Int × Int)) => 0 < i ∧ 0 < j ∧ i ≤ m - a ∧ j ≤ b - m ∧ ys.length = L ∧ (∀ k, rotG ([], 0, 0) ys (m - i) i j k = rotG ([], 0, 0) xs a (m - a) (b - m) k) ∧ Win ([], 0, 0) xs ys a b) (fun (i : Nat) (j : Nat) (ys : List (List Int × Int × Int)) => [(0, .sl 0 L), (2, .int .i64 ((m : Nat) : Int)), (4, .fn 92 [] []), (10, .int .i64 ((i : Nat) : Int)), (11, .int .i64 ((j : Nat) : Int))]) (fun (i : Nat) (j : Nat) (ys : List (List Int × Int × Int)) => [some ⟨89, 3, ys.map rG⟩]) (m - a) (b - m) xs ⟨by omega, by omega, Nat.le_refl _, Nat.le_refl _, hL, fun k => by rw [show m - (m - a) = a by omega], Win.refl _ _ _⟩ (Drop.mask [true] (rfl) ⟨Sc.rows fun _ => ⟨rfl, rfl⟩, trivial⟩) ⟨rfl, rfl, rfl, rfl, rfl, rfl, rfl, rfl, rfl, rfl, trivial⟩ (fun _ _ _ => Nat.le_of_ble_eq_true rfl) fun i j ys hI0 => ?_
  obtain ⟨hi0, hj0, hi, hj, hys, hI, hW⟩ := hI0
  refine SC.seq ?_
  refine SC.seq ?_
  refine SC.region ?_
  refine RG.go tab 3 [0] rfl ?_
  refine RG.nil ?_
  refine SC.cond rfl (fun hb1 => ?_) (fun hb1 => ?_)
  · try simp only [bne_iff_ne, ne_eq] at hb1
    refine SC.skip ?_
    refine SC.block ?_
    refine SC.seq ?_
    refine SC.region ?_
    refine RG.go tab 3 [0] rfl ?_
    refine RG.nil ?_
    refine SC.cond rfl (fun hb2 => ?_) (fun hb2 => ?_)
    · try simp only [decide_eq_true_eq] at hb2
      refine SC.seq ?_
      refine SC.region ?_
      refine RG.ask tab 4 [0] rfl (by (repeat' refine And.intro ?_ ?_) <;> first | rfl | omega | (unfold in64; omega) | (simp; done) | (simp; omega) | (simp at *; omega)) ?_
      refine RG.re (v' := .int .i64 (((m : Nat) : Int) - ((i : Nat) : Int))) 27 (.int .i64 ((m - i : Nat) : Int)) rfl (congrArg (AV.int .i64) (by omega)) ?_
      refine RG.go tab 3 [0] rfl ?_
      refine RG.fc rfl rfl (swapRangeG ys L (m - i) m j hys hx (by omega) (by omega)) (fun r0 S0 hq => ?_)
      obtain ⟨rfl, ys1, rfl, hsw, hw1⟩ := hq
      refine RG.nil ?_
      refine SC.region ?_
      refine RG.ask tab 3 [0] rfl (by (repeat' refine And.intro ?_ ?_) <;> first | rfl | omega | (unfold in64; omega) | (simp; done) | (simp; omega) | (simp at *; omega)) ?_
      refine RG.re (v' := .int .i64 (((i : Nat) : Int) - ((j : Nat) : Int))) 34 (.int .i64 ((i - j : Nat) : Int)) rfl (congrArg (AV.int .i64) (by omega)) ?_
      refine RG.go tab 1 [0] rfl ?_
      refine RG.nil ?_
      refine ⟨i - j, j, ys1, (by omega), ⟨by omega, by omega, by omega, by omega, by rw [hw1.len, hys], fun k => (rotG_gt hsw (by omega) (by omega) k).trans (hI k), hW.trans (hw1.wide (by omega) (by omega))⟩, Drop.mask [true] rfl ⟨Sc.rows fun _ => ⟨rfl, rfl⟩, trivial⟩, rfl, rfl, rfl, rfl, rfl, rfl, rfl, rfl, rfl, rfl, trivial⟩
    · try simp only [decide_eq_false_iff_not, Int.not_lt] at hb2
      refine SC.seq ?_
      refine SC.region ?_
      refine RG.ask tab 4 [0] rfl (by (repeat' refine And.intro ?_ ?_) <;> first | rfl | omega | (unfold in64; omega) | (simp; done) | (simp; omega) | (simp at *; omega)) ?_
      refine RG.re (v' := .int .i64 (((m : Nat) : Int) - ((i : Nat) : Int))) 38 (.int .i64 ((m - i : Nat) : Int)) rfl (congrArg (AV.int .i64) (by omega)) ?_
      refine RG.ask tab 5 [0] rfl (by (repeat' refine And.intro ?_ ?_) <;> first | rfl | omega | (unfold in64; omega) | (simp; done) | (simp; omega) | (simp at *; omega)) ?_
      refine RG.re (v' := .int .i64 (((m + j : Nat) : Int) - ((i : Nat) : Int))) 43 (.int .i64 (((m + j) - i : Nat) : Int)) rfl (congrArg (AV.int .i64) (by omega)) ?_
      refine RG.go tab 2 [0] rfl ?_
      refine RG.fc rfl rfl (swapRangeG ys L (m - i) (m + j - i) i hys hx (by omega) (by omega)) (fun r0 S0 hq => ?_)
      obtain ⟨rfl, ys1, rfl, hsw, hw1⟩ := hq
      refine RG.nil ?_
      refine SC.region ?_
      refine RG.ask tab 3 [0] rfl (by (repeat' refine And.intro ?_ ?_) <;> first | rfl | omega | (unfold in64; omega) | (simp; done) | (simp; omega) | (simp at *; omega)) ?_
      refine RG.re (v' := .int .i64 (((j : Nat) : Int) - ((i : Nat) : Int))) 49 (.int .i64 ((j - i : Nat) : Int)) rfl (congrArg (AV.int .i64) (by omega)) ?_
      refine RG.go tab 1 [0] rfl ?_
      refine RG.nil ?_
      refine ⟨i, j - i, ys1, (by omega), ⟨by omega, by omega, by omega, by omega, by rw [hw1.len, hys], fun k => (rotG_lt hsw (by omega) (by omega) k).trans (hI k), hW.trans (hw1.wide (by omega) (by omega))⟩, Drop.mask [true] rfl ⟨Sc.rows fun _ => ⟨rfl, rfl⟩, trivial⟩, rfl, rfl, rfl, rfl, rfl, rfl, rfl, rfl, rfl, rfl, trivial⟩
  · try simp only [bne_eq_false_iff_eq] at hb1
    refine SC.exit ?_
    refine SC.region ?_
    refine RG.ask tab 4 [0] rfl (by (repeat' refine And.intro ?_ ?_) <;> first | rfl | omega | (unfold in64; omega) | (simp; done) | (simp; omega) | (simp at *; omega)) ?_
    refine RG.re (v' := .int .i64 (((m : Nat) : Int) - ((i : Nat) : Int))) 53 (.int .i64 ((m - i : Nat) : Int)) rfl (congrArg (AV.int .i64) (by omega)) ?_
    refine RG.go tab 3 [0] rfl ?_
    refine RG.fc rfl rfl (swapRangeG ys L (m - i) m i hys hx (by omega) (by omega)) (fun r0 S0 hq => ?_)
    obtain ⟨rfl, ys1, rfl, hsw, hw1⟩ := hq
    refine RG.nil ?_
    refine End.normal tab rfl ?_
    have hij : i = j := by omega
    subst hij
    exact ⟨rfl, _, rfl, fun k => (rotG_eq hsw (by omega) k).trans (hI k), hW.trans (hw1.wide (by omega) (by omega))⟩
theorem insertionSortG (xs : List (List Int × Int × Int)) (L a b : Nat) (hL : xs.length = L) (hx : L ≤ 1099511627776) (hab : a ≤ b) (hb : b ≤ L) : FC Try.prog 131 [.sl 0 L, .int .i64 ((a : Nat) : Int), .int .i64 ((b : Nat) : Int), .fn 92 [] []] [some ⟨89, 3, xs.map rG⟩] (fun r S' => r = .tup [] ∧ ∃ ys, S' = [some ⟨89, 3, ys.map rG⟩] ∧ Srt cG ([], 0, 0) ys a b ∧ Win ([], 0, 0) xs ys a b) := by
  refine FC.text Try.func131 rfl rfl rfl fun B => ?_
  refine SC.seq ?_
  refine SC.region ?_
  refine RG.ask tab 3 [0] rfl (by (repeat' refine And.intro ?_ ?_) <;> first | rfl | omega | (unfold in64; omega) | (simp; done) | (simp; omega) | (simp at *; omega)) ?_
  refine RG.nil ?_
  refine SC.block ?_
  refine SC.loop2 (fun (i : Nat) (ys : List (List Int × Int × Int)) => b - i) (fun (i : Nat) (ys : List (List Int × Int × Int)) => a < i ∧ (i ≤ b ∨ i = a + 1) ∧ ys.length = L ∧ Srt cG ([], 0, 0) ys a i ∧ Win ([], 0, 0) xs ys a b) (fun (i : Nat) (ys : List (List Int × Int × Int)) => [(0, .sl 0 L), (1, .int .i64 ((a : Nat) : Int)), (2, .int .i64 ((b : Nat) : Int)), (3, .fn 92 [] []), (8, .int .i64 ((i : Nat) : Int))]) (fun (i : Nat) (ys : List (List Int × Int × Int)) => [some ⟨89, 3, ys.map rG⟩]) (a + 1) xs ⟨by omega, by omega, hL, Srt.one cG_ord (by omega), Win.refl _ _ _⟩ (Drop.mask [true] (rfl) ⟨Sc.rows fun _ => ⟨rfl, rfl⟩, trivial⟩) ⟨rfl, rfl, rfl, rfl, rfl, rfl, rfl, rfl, rfl, rfl, trivial⟩ (fun _ _ => Nat.le_of_ble_eq_true rfl) fun i ys hI0 => ?_
  obtain ⟨hai, hib, hys, hI, hW⟩ := hI0
  refine SC.seq ?_
  refine SC.seq ?_
  refine SC.region ?_
  refine RG.go tab 3 [0] rfl ?_
  refine RG.nil ?_
  refine SC.cond rfl (fun hb1 => ?_) (fun hb1 => ?_)
  · try simp only [decide_eq_true_eq] at hb1
    refine SC.skip ?_
    refine SC.seq ?_
    refine SC.block ?_
    refine SC.seq ?_
    refine SC.region ?_
    refine RG.go tab 2 [0] rfl ?_
    refine RG.nil ?_
    refine SC.block ?_
    refine SC.loop2 (fun (j : Nat) (zs : List (List Int × Int × Int)) => j) (fun (j : Nat) (zs : List (List Int × Int × Int)) => a ≤ j ∧ j ≤ i ∧ zs.length = L ∧ Ins cG ([], 0, 0) zs a i j ∧ Win ([], 0, 0) xs zs a b) (fun (j : Nat) (zs : List (List Int × Int × Int)) => [(0, .sl 0 L), (1, .int .i64 ((a : Nat) : Int)), (2, .int .i64 ((b : Nat) : Int)), (3, .fn 92 [] []), (8, .int .i64 ((i : Nat) : Int)), (9, .int .i64 ((j : Nat) : Int))]) (fun (j : Nat) (zs : List (List Int × Int × Int)) => [some ⟨89, 3, zs.map rG⟩]) i ys ⟨by omega, by omega, hys, Ins.init hI, hW⟩ (Drop.mask [true] (rfl) ⟨Sc.rows fun _ => ⟨rfl, rfl⟩, trivial⟩) ⟨rfl, rfl, rfl, rfl, rfl, rfl, rfl, rfl, rfl, rfl, rfl, rfl, trivial⟩ (fun _ _ => Nat.le_of_ble_eq_true rfl) fun j zs hI1 => ?_
    obtain ⟨haj, hji, hzs, hJ, hV⟩ := hI1
    refine SC.seq ?_
    refine SC.cut [(0, .sl 0 L), (1, .int .i64 ((a : Nat) : Int)), (2, .int .i64 ((b : Nat) : Int)), (3, .fn 92 [] []), (8, .int .i64 ((i : Nat) : Int)), (9, .int .i64 ((j : Nat) : Int)), (34, .bool ((decide (((j : Nat) : Int) > ((a : Nat) : Int))) && (decide ((cG (zs.getD j ([], 0, 0)) (zs.getD (j - 1) ([], 0, 0)) : Int) < 0))))] [some ⟨89, 3, zs.map rG⟩] rfl ?_ ?_
    · refine SC.drawn tab [0] (fun kk => if kk = 14 then .pf (.int .i64 (cG (zs.getD j ([], 0, 0)) (zs.getD (j - 1) ([], 0, 0)))) else .none) [] [] [0, 1, 2, 3, 4, 5, 6, 7, 8, 9, 10, 11, 12, 13, 14, 15, 16] 53 rfl mixed (by decide +kernel) ?_
      refine QR.go 4 rfl ?_
      refine QR.split 21 rfl fun b2 hb2 => ?_
      cases b2
      · try have hp2 := of_decide_eq_false hb2
        refine QR.go 13 rfl ?_
        refine QR.nil ?_
        exact ⟨Drop.mask [true] (rfl) ⟨Sc.rows fun _ => ⟨rfl, rfl⟩, trivial⟩, rfl, rfl, rfl, rfl, rfl, rfl, rfl, rfl, rfl, rfl, rfl, rfl, (show AV.bool false = AV.bool ((decide (((j : Nat) : Int) > ((a : Nat) : Int))) && (decide ((cG (zs.getD j ([], 0, 0)) (zs.getD (j - 1) ([], 0, 0)) : Int) < 0))) from by first | rfl | ((try simp only [Int.toNat_natCast] at hb2); first | (rw [hb2]; done) | (rw [hb2]; rfl)) | (simp only [hb2]; rfl) | simp_all), rfl, trivial⟩
      · try have hp2 := of_decide_eq_true hb2
        refine QR.ask 4 rfl (by (repeat' refine And.intro ?_ ?_) <;> first | rfl | omega | (unfold in64; omega) | (simp; done) | (simp; omega) | (simp at *; omega)) ?_
        refine QR.ldr ([], 0, 0) rfl rfl rfl rfl (by first | rfl | assumption | omega | (simp only [List.length_set]; first | assumption | omega) | (simp; omega)) (by first | omega | (simp only [List.length_set]; omega) | (simp; omega)) rfl rfl ?_
        refine QR.ask 3 rfl (by (repeat' refine And.intro ?_ ?_) <;> first | rfl | omega | (unfold in64; omega) | (simp; done) | (simp; omega) | (simp at *; omega)) ?_
        refine QR.re (v' := .int .i64 (((j : Nat) : Int) - 1)) 29 (.int .i64 ((j - 1 : Nat) : Int)) rfl (congrArg (AV.int .i64) (by omega)) ?_
        refine QR.ask 1 rfl (by (repeat' refine And.intro ?_ ?_) <;> first | rfl | omega | (unfold in64; omega) | (simp; done) | (simp; omega) | (simp at *; omega)) ?_
        refine QR.ldr ([], 0, 0) rfl rfl rfl rfl (by first | rfl | assumption | omega | (simp only [List.length_set]; first | assumption | omega) | (simp; omega)) (by first | omega | (simp only [List.length_set]; omega) | (simp; omega)) rfl rfl ?_
        refine QR.pfc rfl rfl (cG_pf (zs.getD j ([], 0, 0)) (zs.getD (j - 1) ([], 0, 0))) rfl ?_
        refine QR.go 2 rfl ?_
        refine QR.nil ?_
        exact ⟨Drop.mask [true] (rfl) ⟨Sc.rows fun _ => ⟨rfl, rfl⟩, trivial⟩, rfl, rfl, rfl, rfl, rfl, rfl, rfl, rfl, rfl, rfl, rfl, rfl, (show AV.bool (decide ((cG (zs.getD j ([], 0, 0)) (zs.getD (j - 1) ([], 0, 0)) : Int) < 0)) = AV.bool ((decide (((j : Nat) : Int) > ((a : Nat) : Int))) && (decide ((cG (zs.getD j ([], 0, 0)) (zs.getD (j - 1) ([], 0, 0)) : Int) < 0))) from by first | rfl | ((try simp only [Int.toNat_natCast] at hb2); first | (rw [hb2]; done) | (rw [hb2]; rfl)) | (simp only [hb2]; rfl) | simp_all), rfl, trivial⟩
    · refine SC.cond rfl (fun hb3 => ?_) (fun hb3 => ?_)
      · try simp only [decide_eq_true_eq, Bool.and_eq_true] at hb3
        have hcnd := hb3
        refine SC.skip ?_
        refine SC.seq ?_
        refine SC.block ?_
        refine SC.drawn tab [0] (fun _ => .none) [2, 3, 4] [0] [0, 1, 2, 3, 4, 5, 6, 7, 8, 9, 10, 11, 12, 13, 14, 15, 16, 17] 53 rfl mixed (by decide +kernel) ?_
        refine QR.ask 5 rfl (by (repeat' refine And.intro ?_ ?_) <;> first | rfl | omega | (unfold in64; omega) | (simp; done) | (simp; omega) | (simp at *; omega)) ?_
        refine QR.re (v' := .int .i64 (((j : Nat) : Int) - 1)) 41 (.int .i64 ((j - 1 : Nat) : Int)) rfl (congrArg (AV.int .i64) (by omega)) ?_
        refine QR.ask 3 rfl (by (repeat' refine And.intro ?_ ?_) <;> first | rfl | omega | (unfold in64; omega) | (simp; done) | (simp; omega) | (simp at *; omega)) ?_
        refine QR.re (v' := .int .i64 (((j : Nat) : Int) - 1)) 44 (.int .i64 ((j - 1 : Nat) : Int)) rfl (congrArg (AV.int .i64) (by omega)) ?_
        refine QR.ask 1 rfl (by (repeat' refine And.intro ?_ ?_) <;> first | rfl | omega | (unfold in64; omega) | (simp; done) | (simp; omega) | (simp at *; omega)) ?_
        refine QR.ldr ([], 0, 0) rfl rfl rfl rfl (by first | rfl | assumption | omega | (simp only [List.length_set]; first | assumption | omega) | (simp; omega)) (by first | omega | (simp only [List.length_set]; omega) | (simp; omega)) rfl rfl ?_
        refine QR.ask 3 rfl (by (repeat' refine And.intro ?_ ?_) <;> first | rfl | omega | (unfold in64; omega) | (simp; done) | (simp; omega) | (simp at *; omega)) ?_
        refine QR.ldr ([], 0, 0) rfl rfl rfl rfl (by first | rfl | assumption | omega | (simp only [List.length_set]; first | assumption | omega) | (simp; omega)) (by first | omega | (simp only [List.length_set]; omega) | (simp; omega)) rfl rfl ?_
        refine QR.ask 1 rfl (by (repeat' refine And.intro ?_ ?_) <;> first | rfl | omega | (unfold in64; omega) | (simp; done) | (simp; omega) | (simp at *; omega)) ?_
        refine QR.str ([], 0, 0) (zs.getD (j - 1) ([], 0, 0)) rfl rfl rfl rfl rfl rfl (by first | rfl | assumption | omega | (simp only [List.length_set]; first | assumption | omega) | (simp; omega)) (by first | omega | (simp only [List.length_set]; omega) | (simp; omega)) rfl rfl rfl rfl rfl rfl rfl ?_
        refine QR.ask 1 rfl (by (repeat' refine And.intro ?_ ?_) <;> first | rfl | omega | (unfold in64; omega) | (simp; done) | (simp; omega) | (simp at *; omega)) ?_
        refine QR.str ([], 0, 0) (zs.getD j ([], 0, 0)) rfl rfl rfl rfl rfl rfl (by first | rfl | assumption | omega | (simp only [List.length_set]; first | assumption | omega) | (simp; omega)) (by first | omega | (simp only [List.length_set]; omega) | (simp; omega)) rfl rfl rfl rfl rfl rfl rfl ?_
        refine QR.nil ?_
        refine SC.region ?_
        refine RG.ask tab 2 [0] rfl (by (repeat' refine And.intro ?_ ?_) <;> first | rfl | omega | (unfold in64; omega) | (simp; done) | (simp; omega) | (simp at *; omega)) ?_
        refine RG.re (v' := .int .i64 (((j : Nat) : Int) - 1)) 36 (.int .i64 ((j - 1 : Nat) : Int)) rfl (congrArg (AV.int .i64) (by omega)) ?_
        refine RG.go tab 1 [0] rfl ?_
        refine RG.nil ?_
        refine ⟨j - 1, swp ([], 0, 0) zs j (j - 1), (by omega), ⟨by omega, by omega, by rw [swp_len, hzs], hJ.step cG_ord hcnd.2 (by omega) (by omega) (by omega), hV.trans (Win.swp ⟨by omega, by omega⟩ ⟨by omega, by omega⟩ (by omega))⟩, Drop.mask [true] rfl ⟨Sc.rows fun _ => ⟨rfl, rfl⟩, trivial⟩, rfl, rfl, rfl, rfl, rfl, rfl, rfl, rfl, rfl, rfl, rfl, rfl, trivial⟩
      · try simp only [decide_eq_true_eq, decide_eq_false_iff_not, Bool.and_eq_false_imp, Int.not_lt] at hb3
        have hfin : Srt cG ([], 0, 0) zs a (i + 1) := hJ.fin cG_ord ((Nat.lt_or_ge a j).elim (fun h => .inr (by have := hb3 (by omega); omega)) (fun h => .inl (by omega))) haj
        refine SC.exit ?_
        refine SC.region ?_
        refine RG.ask tab 3 [0] rfl (by (repeat' refine And.intro ?_ ?_) <;> first | rfl | omega | (unfold in64; omega) | (simp; done) | (simp; omega) | (simp at *; omega)) ?_
        refine RG.nil ?_
        refine ⟨i + 1, zs, (by omega), ⟨by omega, by omega, hzs, hfin, hV⟩, Drop.mask [true] rfl ⟨Sc.rows fun _ => ⟨rfl, rfl⟩, trivial⟩, rfl, rfl, rfl, rfl, rfl, rfl, rfl, rfl, rfl, rfl, trivial⟩
  · try simp only [decide_eq_false_iff_not, Int.not_lt] at hb1
    refine SC.exit ?_
    refine End.normal tab rfl ?_
    exact ⟨rfl, ys, rfl, hI.sub (Nat.le_refl _) (by omega), hW⟩
theorem symMergeG (K : Nat) : ∀ (xs : List (List Int × Int × Int)) (L a m b : Nat) (hL : xs.length = L) (hx : L ≤ 1099511627776) (hK : b - a < K) (ham : a < m) (hmb : m < b) (hb : b ≤ L) (hs1 : Srt cG ([], 0, 0) xs a m) (hs2 : Srt cG ([], 0, 0) xs m b), FC Try.prog 132 [.sl 0 L, .int .i64 ((a : Nat) : Int), .int .i64 ((m : Nat) : Int), .int .i64 ((b : Nat) : Int), .fn 92 [] []] [some ⟨89, 3, xs.map rG⟩] (fun r S' => r = .tup [] ∧ ∃ ys, S' = [some ⟨89, 3, ys.map rG⟩] ∧ Win ([], 0, 0) xs ys a b ∧ Srt cG ([], 0, 0) ys a b) := by
  induction K with | zero => (intros; omega) | succ K ih => ?_
  intro xs L a m b hL hx hK ham hmb hb hs1 hs2
  refine FC.text Try.func132 rfl rfl rfl fun B => ?_
  refine SC.seq ?_
  refine SC.seq ?_
  refine SC.region ?_
  refine RG.ask tab 3 [0] rfl (by (repeat' refine And.intro ?_ ?_) <;> first | rfl | omega | (unfold in64; omega) | (simp; done) | (simp; omega) | (simp at *; omega)) ?_
  refine RG.re (v' := .int .i64 (((m : Nat) : Int) - ((a : Nat) : Int))) 27 (.int .i64 ((m - a : Nat) : Int)) rfl (congrArg (AV.int .i64) (by omega)) ?_
  refine RG.go tab 1 [0] rfl ?_
  refine RG.nil ?_
  refine SC.cond rfl (fun hb1 => ?_) (fun hb1 => ?_)
  · try simp only [beq_iff_eq] at hb1
    refine SC.seq ?_
    refine SC.region ?_
    refine RG.go tab 2 [0] rfl ?_
    refine RG.nil ?_
    refine SC.seq ?_
    refine SC.region ?_
    refine RG.go tab 2 [0] rfl ?_
    refine RG.nil ?_
    refine SC.seq ?_
    refine SC.block ?_
    refine SC.loop2 (fun (i : Nat) (j : Nat) => j - i) (fun (i : Nat) (j : Nat) => Bs (fun k => cG (xs.getD k ([], 0, 0)) (xs.getD a ([], 0, 0)) < 0) m b i j) (fun (i : Nat) (j : Nat) => [(0, .sl 0 L), (1, .int .i64 ((a : Nat) : Int)), (4, .fn 92 [] []), (10, .int .i64 ((i : Nat) : Int)), (11, .int .i64 ((j : Nat) : Int))]) (fun (i : Nat) (j : Nat) => [some ⟨89, 3, xs.map rG⟩]) m b (Bs.init _ (by omega)) (Drop.mask [true] (rfl) ⟨Sc.rows fun _ => ⟨rfl, rfl⟩, trivial⟩) ⟨rfl, rfl, rfl, rfl, rfl, rfl, rfl, rfl, rfl, rfl, trivial⟩ (fun _ _ => Nat.le_of_ble_eq_true rfl) fun i j hI0 => ?_
    have hB := hI0
    have hl1 := hB.l1
    have hl2 := hB.l2
    have hl3 := hB.l3
    refine SC.seq ?_
    refine SC.seq ?_
    refine SC.region ?_
    refine RG.go tab 3 [0] rfl ?_
    refine RG.nil ?_
    refine SC.cond rfl (fun hb2 => ?_) (fun hb2 => ?_)
    · try simp only [decide_eq_true_eq] at hb2
      refine SC.skip ?_
      refine SC.block ?_
      refine SC.seq ?_
      refine SC.region ?_
      refine RG.ask tab 6 [0] rfl (by (repeat' refine And.intro ?_ ?_) <;> first | rfl | omega | (unfold in64; omega) | (simp; done) | (simp; omega) | (simp at *; omega)) ?_
      refine RG.re (v' := .int .i64 (IntKind.i64.wrap ((IntKind.u64.wrap ((i + j : Nat) : Int)).fdiv (2 ^ (min (1 : Int).toNat IntKind.u64.bits))))) 39 (.int .i64 (((i + j) / 2 : Nat) : Int)) rfl (congrArg (AV.int .i64) (half_ok _ (by omega))) ?_
      refine RG.go tab 1 [0] rfl ?_
      refine RG.nil ?_
      refine SC.seq ?_
      refine SC.drawn tab [0] (fun kk => if kk = 9 then .pf (.int .i64 (cG (xs.getD ((i + j) / 2) ([], 0, 0)) (xs.getD a ([], 0, 0)))) else .none) [] [] [0, 1, 2, 3, 4, 5, 6, 7, 8, 9, 10] 220 rfl mixed (by decide +kernel) ?_
      refine QR.ask 4 rfl (by (repeat' refine And.intro ?_ ?_) <;> first | rfl | omega | (unfold in64; omega) | (simp; done) | (simp; omega) | (simp at *; omega)) ?_
      refine QR.ldr ([], 0, 0) rfl rfl rfl rfl (by first | rfl | assumption | omega | (simp only [List.length_set]; first | assumption | omega) | (simp; omega)) (by first | omega | (simp only [List.length_set]; omega) | (simp; omega)) rfl rfl ?_
      refine QR.ask 3 rfl (by (repeat' refine And.intro ?_ ?_) <;> first | rfl | omega | (unfold in64; omega) | (simp; done) | (simp; omega) | (simp at *; omega)) ?_
      refine QR.ldr ([], 0, 0) rfl rfl rfl rfl (by first | rfl | assumption | omega | (simp only [List.length_set]; first | assumption | omega) | (simp; omega)) (by first | omega | (simp only [List.length_set]; omega) | (simp; omega)) rfl rfl ?_
      refine QR.pfc rfl rfl (cG_pf (xs.getD ((i + j) / 2) ([], 0, 0)) (xs.getD a ([], 0, 0))) rfl ?_
      refine QR.go 1 rfl ?_
      refine QR.nil ?_
      refine SC.cond rfl (fun hb3 => ?_) (fun hb3 => ?_)
      · try simp only [decide_eq_true_eq] at hb3
        have hbs := hB.up (fun k k' h1 h2 h3 h4 => cG_ord.le_lt (hs2 k k' h1 h2 h3) h4) (k := (i + j) / 2) (by omega) (by omega) hb3
        refine SC.region ?_
        refine RG.ask tab 3 [0] rfl (by (repeat' refine And.intro ?_ ?_) <;> first | rfl | omega | (unfold in64; omega) | (simp; done) | (simp; omega) | (simp at *; omega)) ?_
        refine RG.nil ?_
        refine ⟨(i + j) / 2 + 1, j, (by omega), hbs, Drop.mask [true] rfl ⟨Sc.rows fun _ => ⟨rfl, rfl⟩, trivial⟩, rfl, rfl, rfl, rfl, rfl, rfl, rfl, rfl, rfl, rfl, trivial⟩
      · try simp only [decide_eq_false_iff_not, Int.not_lt] at hb3
        have hbs := hB.dn (fun k k' h1 h2 h3 h4 => cG_ord.le_lt (hs2 k k' h1 h2 h3) h4) (k := (i + j) / 2) (by omega) (by omega) (fun hlt : cG (xs.getD ((i + j) / 2) ([], 0, 0)) (xs.getD a ([], 0, 0)) < 0 => by omega)
        refine SC.region ?_
        refine RG.go tab 2 [0] rfl ?_
        refine RG.nil ?_
        refine ⟨i, (i + j) / 2, (by omega), hbs, Drop.mask [true] rfl ⟨Sc.rows fun _ => ⟨rfl, rfl⟩, trivial⟩, rfl, rfl, rfl, rfl, rfl, rfl, rfl, rfl, rfl, rfl, trivial⟩
    · try simp only [decide_eq_false_iff_not, Int.not_lt] at hb2
      have hl1 := hB.l1
      have hl2 := hB.l2
      have hl3 := hB.l3
      have hij : i = j := by omega
      refine SC.exit ?_
      refine SC.seq ?_
      refine SC.seq ?_
      refine SC.region ?_
      refine RG.go tab 2 [0] rfl ?_
      refine RG.nil ?_
      refine SC.block ?_
      refine SC.loop2 (fun (k : Nat) (zs : List (List Int × Int × Int)) => i - k) (fun (k : Nat) (zs : List (List Int × Int × Int)) => a ≤ k ∧ k ≤ i - 1 ∧ zs.length = L ∧ Sh1 ([], 0, 0) xs zs a k ∧ Win ([], 0, 0) xs zs a b) (fun (k : Nat) (zs : List (List Int × Int × Int)) => [(0, .sl 0 L), (10, .int .i64 ((i : Nat) : Int)), (13, .int .i64 ((k : Nat) : Int))]) (fun (k : Nat) (zs : List (List Int × Int × Int)) => [some ⟨89, 3, zs.map rG⟩]) a xs ⟨Nat.le_refl _, by omega, hL, Sh1.init _ _, Win.refl _ _ _⟩ (Drop.mask [true] (rfl) ⟨Sc.rows fun _ => ⟨rfl, rfl⟩, trivial⟩) ⟨rfl, rfl, rfl, rfl, rfl, rfl, trivial⟩ (fun _ _ => Nat.le_of_ble_eq_true rfl) fun k zs hI1 => ?_
      obtain ⟨hak, hki, hzs, hSh, hW⟩ := hI1
      refine SC.seq ?_
      refine SC.seq ?_
      refine SC.region ?_
      refine RG.ask tab 3 [0] rfl (by (repeat' refine And.intro ?_ ?_) <;> first | rfl | omega | (unfold in64; omega) | (simp; done) | (simp; omega) | (simp at *; omega)) ?_
      refine RG.re (v' := .int .i64 (((i : Nat) : Int) - 1)) 57 (.int .i64 ((i - 1 : Nat) : Int)) rfl (congrArg (AV.int .i64) (by omega)) ?_
      refine RG.go tab 1 [0] rfl ?_
      refine RG.nil ?_
      refine SC.cond rfl (fun hb4 => ?_) (fun hb4 => ?_)
      · try simp only [decide_eq_true_eq] at hb4
        refine SC.skip ?_
        refine SC.seq ?_
        refine SC.block ?_
        refine SC.drawn tab [0] (fun _ => .none) [2, 3, 4] [0] [0, 1, 2, 3, 4, 5, 6, 7, 8, 9, 10, 11, 12, 13, 14, 15, 16, 17] 220 rfl mixed (by decide +kernel) ?_
        refine QR.ask 9 rfl (by (repeat' refine And.intro ?_ ?_) <;> first | rfl | omega | (unfold in64; omega) | (simp; done) | (simp; omega) | (simp at *; omega)) ?_
        refine QR.ldr ([], 0, 0) rfl rfl rfl rfl (by first | rfl | assumption | omega | (simp only [List.length_set]; first | assumption | omega) | (simp; omega)) (by first | omega | (simp only [List.length_set]; omega) | (simp; omega)) rfl rfl ?_
        refine QR.ask 3 rfl (by (repeat' refine And.intro ?_ ?_) <;> first | rfl | omega | (unfold in64; omega) | (simp; done) | (simp; omega) | (simp at *; omega)) ?_
        refine QR.ldr ([], 0, 0) rfl rfl rfl rfl (by first | rfl | assumption | omega | (simp only [List.length_set]; first | assumption | omega) | (simp; omega)) (by first | omega | (simp only [List.length_set]; omega) | (simp; omega)) rfl rfl ?_
        refine QR.ask 1 rfl (by (repeat' refine And.intro ?_ ?_) <;> first | rfl | omega | (unfold in64; omega) | (simp; done) | (simp; omega) | (simp at *; omega)) ?_
        refine QR.str ([], 0, 0) (zs.getD (k + 1) ([], 0, 0)) rfl rfl rfl rfl rfl rfl (by first | rfl | assumption | omega | (simp only [List.length_set]; first | assumption | omega) | (simp; omega)) (by first | omega | (simp only [List.length_set]; omega) | (simp; omega)) rfl rfl rfl rfl rfl rfl rfl ?_
        refine QR.ask 1 rfl (by (repeat' refine And.intro ?_ ?_) <;> first | rfl | omega | (unfold in64; omega) | (simp; done) | (simp; omega) | (simp at *; omega)) ?_
        refine QR.str ([], 0, 0) (zs.getD k ([], 0, 0)) rfl rfl rfl rfl rfl rfl (by first | rfl | assumption | omega | (simp only [List.length_set]; first | assumption | omega) | (simp; omega)) (by first | omega | (simp only [List.length_set]; omega) | (simp; omega)) rfl rfl rfl rfl rfl rfl rfl ?_
        refine QR.nil ?_
        refine SC.region ?_
        refine RG.ask tab 3 [0] rfl (by (repeat' refine And.intro ?_ ?_) <;> first | rfl | omega | (unfold in64; omega) | (simp; done) | (simp; omega) | (simp at *; omega)) ?_
        refine RG.nil ?_
        refine ⟨k + 1, swp ([], 0, 0) zs k (k + 1), (by omega), ⟨by omega, by omega, by rw [swp_len, hzs], hSh.step hak (by omega), hW.trans (Win.swp ⟨by omega, by omega⟩ ⟨by omega, by omega⟩ (by omega))⟩, Drop.mask [true] rfl ⟨Sc.rows fun _ => ⟨rfl, rfl⟩, trivial⟩, rfl, rfl, rfl, rfl, rfl, rfl, trivial⟩
      · try simp only [decide_eq_false_iff_not, Int.not_lt] at hb4
        refine SC.exit ?_
        refine SC.ret (End.ret tab rfl ?_)
        have hk : k = i - 1 := by omega
        subst hk
        rw [← hij, show m = a + 1 by omega] at hB
        rw [show m = a + 1 by omega] at hs2
        exact ⟨rfl, zs, rfl, hW, Sh1.srt cG_ord hSh hs2 hB⟩
  · try simp only [ne_eq, beq_eq_false_iff_ne] at hb1
    refine SC.skip ?_
    refine SC.seq ?_
    refine SC.seq ?_
    refine SC.region ?_
    refine RG.ask tab 3 [0] rfl (by (repeat' refine And.intro ?_ ?_) <;> first | rfl | omega | (unfold in64; omega) | (simp; done) | (simp; omega) | (simp at *; omega)) ?_
    refine RG.re (v' := .int .i64 (((b : Nat) : Int) - ((m : Nat) : Int))) 79 (.int .i64 ((b - m : Nat) : Int)) rfl (congrArg (AV.int .i64) (by omega)) ?_
    refine RG.go tab 1 [0] rfl ?_
    refine RG.nil ?_
    refine SC.cond rfl (fun hb5 => ?_) (fun hb5 => ?_)
    · try simp only [beq_iff_eq] at hb5
      refine SC.seq ?_
      refine SC.region ?_
      refine RG.go tab 2 [0] rfl ?_
      refine RG.nil ?_
      refine SC.seq ?_
      refine SC.region ?_
      refine RG.go tab 2 [0] rfl ?_
      refine RG.nil ?_
      refine SC.seq ?_
      refine SC.block ?_
      refine SC.loop2 (fun (i : Nat) (j : Nat) => j - i) (fun (i : Nat) (j : Nat) => Bs (fun k => ¬ cG (xs.getD m ([], 0, 0)) (xs.getD k ([], 0, 0)) < 0) a m i j) (fun (i : Nat) (j : Nat) => [(0, .sl 0 L), (2, .int .i64 ((m : Nat) : Int)), (4, .fn 92 [] []), (14, .int .i64 ((i : Nat) : Int)), (15, .int .i64 ((j : Nat) : Int))]) (fun (i : Nat) (j : Nat) => [some ⟨89, 3, xs.map rG⟩]) a m (Bs.init _ (by omega)) (Drop.mask [true] (rfl) ⟨Sc.rows fun _ => ⟨rfl, rfl⟩, trivial⟩) ⟨rfl, rfl, rfl, rfl, rfl, rfl, rfl, rfl, rfl, rfl, trivial⟩ (fun _ _ => Nat.le_of_ble_eq_true rfl) fun i j hI2 => ?_
      have hB := hI2
      have hl1 := hB.l1
      have hl2 := hB.l2
      have hl3 := hB.l3
      refine SC.seq ?_
      refine SC.seq ?_
      refine SC.region ?_
      refine RG.go tab 3 [0] rfl ?_
      refine RG.nil ?_
      refine SC.cond rfl (fun hb6 => ?_) (fun hb6 => ?_)
      · try simp only [decide_eq_true_eq] at hb6
        refine SC.skip ?_
        refine SC.block ?_
        refine SC.seq ?_
        refine SC.region ?_
        refine RG.ask tab 6 [0] rfl (by (repeat' refine And.intro ?_ ?_) <;> first | rfl | omega | (unfold in64; omega) | (simp; done) | (simp; omega) | (simp at *; omega)) ?_
        refine RG.re (v' := .int .i64 (IntKind.i64.wrap ((IntKind.u64.wrap ((i + j : Nat) : Int)).fdiv (2 ^ (min (1 : Int).toNat IntKind.u64.bits))))) 91 (.int .i64 (((i + j) / 2 : Nat) : Int)) rfl (congrArg (AV.int .i64) (half_ok _ (by omega))) ?_
        refine RG.go tab 1 [0] rfl ?_
        refine RG.nil ?_
        refine SC.seq ?_
        refine SC.drawn tab [0] (fun kk => if kk = 9 then .pf (.int .i64 (cG (xs.getD m ([], 0, 0)) (xs.getD ((i + j) / 2) ([], 0, 0)))) else .none) [] [] [0, 1, 2, 3, 4, 5, 6, 7, 8, 9, 10, 11] 220 rfl mixed (by decide +kernel) ?_
        refine QR.ask 4 rfl (by (repeat' refine And.intro ?_ ?_) <;> first | rfl | omega | (unfold in64; omega) | (simp; done) | (simp; omega) | (simp at *; omega)) ?_
        refine QR.ldr ([], 0, 0) rfl rfl rfl rfl (by first | rfl | assumption | omega | (simp only [List.length_set]; first | assumption | omega) | (simp; omega)) (by first | omega | (simp only [List.length_set]; omega) | (simp; omega)) rfl rfl ?_
        refine QR.ask 3 rfl (by (repeat' refine And.intro ?_ ?_) <;> first | rfl | omega | (unfold in64; omega) | (simp; done) | (simp; omega) | (simp at *; omega)) ?_
        refine QR.ldr ([], 0, 0) rfl rfl rfl rfl (by first | rfl | assumption | omega | (simp only [List.length_set]; first | assumption | omega) | (simp; omega)) (by first | omega | (simp only [List.length_set]; omega) | (simp; omega)) rfl rfl ?_
        refine QR.pfc rfl rfl (cG_pf (xs.getD m ([], 0, 0)) (xs.getD ((i + j) / 2) ([], 0, 0))) rfl ?_
        refine QR.go 2 rfl ?_
        refine QR.nil ?_
        refine SC.cond rfl (fun hb7 => ?_) (fun hb7 => ?_)
        · try simp only [decide_eq_false_iff_not, Bool.not_eq_eq_eq_not, Bool.not_true, Int.not_lt] at hb7
          have hbs := hB.up (fun k k' h1 h2 h3 h4 => cG_ord.trans _ _ _ (hs1 k k' h1 h2 h3) h4) (k := (i + j) / 2) (by omega) (by omega) (fun hlt : cG (xs.getD m ([], 0, 0)) (xs.getD ((i + j) / 2) ([], 0, 0)) < 0 => by omega)
          refine SC.region ?_
          refine RG.ask tab 3 [0] rfl (by (repeat' refine And.intro ?_ ?_) <;> first | rfl | omega | (unfold in64; omega) | (simp; done) | (simp; omega) | (simp at *; omega)) ?_
          refine RG.nil ?_
          refine ⟨(i + j) / 2 + 1, j, (by omega), hbs, Drop.mask [true] rfl ⟨Sc.rows fun _ => ⟨rfl, rfl⟩, trivial⟩, rfl, rfl, rfl, rfl, rfl, rfl, rfl, rfl, rfl, rfl, trivial⟩
        · try simp only [decide_eq_true_eq, Bool.not_eq_eq_eq_not, Bool.not_false] at hb7
          have hbs := hB.dn (fun k k' h1 h2 h3 h4 => cG_ord.trans _ _ _ (hs1 k k' h1 h2 h3) h4) (k := (i + j) / 2) (by omega) (by omega) (fun hn => hn hb7)
          refine SC.region ?_
          refine RG.go tab 2 [0] rfl ?_
          refine RG.nil ?_
          refine ⟨i, (i + j) / 2, (by omega), hbs, Drop.mask [true] rfl ⟨Sc.rows fun _ => ⟨rfl, rfl⟩, trivial⟩, rfl, rfl, rfl, rfl, rfl, rfl, rfl, rfl, rfl, rfl, trivial⟩
      · try simp only [decide_eq_false_iff_not, Int.not_lt] at hb6
        have hl1 := hB.l1
        have hl2 := hB.l2
        have hl3 := hB.l3
        have hij : i = j := by omega
        refine SC.exit ?_
        refine SC.seq ?_
        refine SC.seq ?_
        refine SC.region ?_
        refine RG.go tab 2 [0] rfl ?_
        refine RG.nil ?_
        refine SC.block ?_
        refine SC.loop2 (fun (k : Nat) (zs : List (List Int × Int × Int)) => k) (fun (k : Nat) (zs : List (List Int × Int × Int)) => i ≤ k ∧ k ≤ m ∧ zs.length = L ∧ Sh2 ([], 0, 0) xs zs m k ∧ Win ([], 0, 0) xs zs a b) (fun (k : Nat) (zs : List (List Int × Int × Int)) => [(0, .sl 0 L), (14, .int .i64 ((i : Nat) : Int)), (17, .int .i64 ((k : Nat) : Int))]) (fun (k : Nat) (zs : List (List Int × Int × Int)) => [some ⟨89, 3, zs.map rG⟩]) m xs ⟨by omega, Nat.le_refl _, hL, Sh2.init _ _, Win.refl _ _ _⟩ (Drop.mask [true] (rfl) ⟨Sc.rows fun _ => ⟨rfl, rfl⟩, trivial⟩) ⟨rfl, rfl, rfl, rfl, rfl, rfl, trivial⟩ (fun _ _ => Nat.le_of_ble_eq_true rfl) fun k zs hI3 => ?_
        obtain ⟨hik, hkm, hzs, hSh, hW⟩ := hI3
        refine SC.seq ?_
        refine SC.seq ?_
        refine SC.region ?_
        refine RG.go tab 3 [0] rfl ?_
        refine RG.nil ?_
        refine SC.cond rfl (fun hb8 => ?_) (fun hb8 => ?_)
        · try simp only [decide_eq_true_eq] at hb8
          refine SC.skip ?_
          refine SC.seq ?_
          refine SC.block ?_
          refine SC.drawn tab [0] (fun _ => .none) [2, 3, 4] [0] [0, 1, 2, 3, 4, 5, 6, 7, 8, 9, 10, 11, 12, 13, 14, 15, 16, 17] 220 rfl mixed (by decide +kernel) ?_
          refine QR.ask 5 rfl (by (repeat' refine And.intro ?_ ?_) <;> first | rfl | omega | (unfold in64; omega) | (simp; done) | (simp; omega) | (simp at *; omega)) ?_
          refine QR.re (v' := .int .i64 (((k : Nat) : Int) - 1)) 117 (.int .i64 ((k - 1 : Nat) : Int)) rfl (congrArg (AV.int .i64) (by omega)) ?_
          refine QR.ask 3 rfl (by (repeat' refine And.intro ?_ ?_) <;> first | rfl | omega | (unfold in64; omega) | (simp; done) | (simp; omega) | (simp at *; omega)) ?_
          refine QR.re (v' := .int .i64 (((k : Nat) : Int) - 1)) 120 (.int .i64 ((k - 1 : Nat) : Int)) rfl (congrArg (AV.int .i64) (by omega)) ?_
          refine QR.ask 1 rfl (by (repeat' refine And.intro ?_ ?_) <;> first | rfl | omega | (unfold in64; omega) | (simp; done) | (simp; omega) | (simp at *; omega)) ?_
          refine QR.ldr ([], 0, 0) rfl rfl rfl rfl (by first | rfl | assumption | omega | (simp only [List.length_set]; first | assumption | omega) | (simp; omega)) (by first | omega | (simp only [List.length_set]; omega) | (simp; omega)) rfl rfl ?_
          refine QR.ask 3 rfl (by (repeat' refine And.intro ?_ ?_) <;> first | rfl | omega | (unfold in64; omega) | (simp; done) | (simp; omega) | (simp at *; omega)) ?_
          refine QR.ldr ([], 0, 0) rfl rfl rfl rfl (by first | rfl | assumption | omega | (simp only [List.length_set]; first | assumption | omega) | (simp; omega)) (by first | omega | (simp only [List.length_set]; omega) | (simp; omega)) rfl rfl ?_
          refine QR.ask 1 rfl (by (repeat' refine And.intro ?_ ?_) <;> first | rfl | omega | (unfold in64; omega) | (simp; done) | (simp; omega) | (simp at *; omega)) ?_
          refine QR.str ([], 0, 0) (zs.getD (k - 1) ([], 0, 0)) rfl rfl rfl rfl rfl rfl (by first | rfl | assumption | omega | (simp only [List.length_set]; first | assumption | omega) | (simp; omega)) (by first | omega | (simp only [List.length_set]; omega) | (simp; omega)) rfl rfl rfl rfl rfl rfl rfl ?_
          refine QR.ask 1 rfl (by (repeat' refine And.intro ?_ ?_) <;> first | rfl | omega | (unfold in64; omega) | (simp; done) | (simp; omega) | (simp at *; omega)) ?_
          refine QR.str ([], 0, 0) (zs.getD k ([], 0, 0)) rfl rfl rfl rfl rfl rfl (by first | rfl | assumption | omega | (simp only [List.length_set]; first | assumption | omega) | (simp; omega)) (by first | omega | (simp only [List.length_set]; omega) | (simp; omega)) rfl rfl rfl rfl rfl rfl rfl ?_
          refine QR.nil ?_
          refine SC.region ?_
          refine RG.ask tab 2 [0] rfl (by (repeat' refine And.intro ?_ ?_) <;> first | rfl | omega | (unfold in64; omega) | (simp; done) | (simp; omega) | (simp at *; omega)) ?_
          refine RG.re (v' := .int .i64 (((k : Nat) : Int) - 1)) 112 (.int .i64 ((k - 1 : Nat) : Int)) rfl (congrArg (AV.int .i64) (by omega)) ?_
          refine RG.go tab 1 [0] rfl ?_
          refine RG.nil ?_
          refine ⟨k - 1, swp ([], 0, 0) zs k (k - 1), (by omega), ⟨by omega, by omega, by rw [swp_len, hzs], hSh.step (by omega) hkm (by omega), hW.trans (Win.swp ⟨by omega, by omega⟩ ⟨by omega, by omega⟩ (by omega))⟩, Drop.mask [true] rfl ⟨Sc.rows fun _ => ⟨rfl, rfl⟩, trivial⟩, rfl, rfl, rfl, rfl, rfl, rfl, trivial⟩
        · try simp only [decide_eq_false_iff_not, Int.not_lt] at hb8
          refine SC.exit ?_
          refine SC.ret (End.ret tab rfl ?_)
          have hk : k = i := by omega
          subst hk
          rw [← hij] at hB
          have h := Sh2.srt cG_ord hSh hs1 hB
          rw [show m + 1 = b by omega] at h
          exact ⟨rfl, zs, rfl, hW, h⟩
    · try simp only [ne_eq, beq_eq_false_iff_ne] at hb5
      refine SC.skip ?_
      refine SC.seq ?_
      refine SC.region ?_
      refine RG.ask tab 6 [0] rfl (by (repeat' refine And.intro ?_ ?_) <;> first | rfl | omega | (unfold in64; omega) | (simp; done) | (simp; omega) | (simp at *; omega)) ?_
      refine RG.re (v' := .int .i64 (IntKind.i64.wrap ((IntKind.u64.wrap ((a + b : Nat) : Int)).fdiv (2 ^ (min (1 : Int).toNat IntKind.u64.bits))))) 134 (.int .i64 (((a + b) / 2 : Nat) : Int)) rfl (congrArg (AV.int .i64) (half_ok _ (by omega))) ?_
      refine RG.go tab 1 [0] rfl ?_
      refine RG.nil ?_
      refine SC.seq ?_
      refine SC.region ?_
      refine RG.ask tab 4 [0] rfl (by (repeat' refine And.intro ?_ ?_) <;> first | rfl | omega | (unfold in64; omega) | (simp; done) | (simp; omega) | (simp at *; omega)) ?_
      refine RG.nil ?_
      refine SC.seq ?_
      refine SC.region ?_
      refine RG.go tab 2 [0] rfl ?_
      refine RG.nil ?_
      refine SC.cutE (X := (Nat) × (Nat)) (fun (x : (Nat) × (Nat)) => x.1 = (if m > (a + b) / 2 then (a + b) / 2 + m - b else a) ∧ x.2 = (if m > (a + b) / 2 then (a + b) / 2 else m)) (fun (x : (Nat) × (Nat)) => [(0, .sl 0 L), (1, .int .i64 ((a : Nat) : Int)), (2, .int .i64 ((m : Nat) : Int)), (3, .int .i64 ((b : Nat) : Int)), (4, .fn 92 [] []), (18, .int .i64 (((a + b) / 2 : Nat) : Int)), (19, .int .i64 (((a + b) / 2 + m : Nat) : Int)), (20, .int .i64 ((x.1 : Nat) : Int)), (21, .int .i64 ((x.2 : Nat) : Int))]) (fun (x : (Nat) × (Nat)) => [some ⟨89, 3, xs.map rG⟩]) (fun _ => Nat.le_of_ble_eq_true rfl) ?_ ?_
      · refine SC.seq ?_
        refine SC.region ?_
        refine RG.go tab 3 [0] rfl ?_
        refine RG.nil ?_
        refine SC.cond rfl (fun hb9 => ?_) (fun hb9 => ?_)
        · try simp only [decide_eq_true_eq] at hb9
          refine SC.seq ?_
          refine SC.region ?_
          refine RG.ask tab 3 [0] rfl (by (repeat' refine And.intro ?_ ?_) <;> first | rfl | omega | (unfold in64; omega) | (simp; done) | (simp; omega) | (simp at *; omega)) ?_
          refine RG.re (v' := .int .i64 ((((a + b) / 2 + m : Nat) : Int) - ((b : Nat) : Int))) 143 (.int .i64 ((((a + b) / 2 + m) - b : Nat) : Int)) rfl (congrArg (AV.int .i64) (by omega)) ?_
          refine RG.go tab 1 [0] rfl ?_
          refine RG.nil ?_
          refine SC.region ?_
          refine RG.go tab 2 [0] rfl ?_
          refine RG.nil ?_
          exact ⟨(((a + b) / 2 + m) - b, (a + b) / 2), ⟨by dsimp only; split <;> omega, by dsimp only; split <;> omega⟩, Drop.mask [true] (rfl) ⟨Sc.rows fun _ => ⟨rfl, rfl⟩, trivial⟩, rfl, rfl, rfl, rfl, rfl, rfl, rfl, rfl, rfl, rfl, rfl, rfl, rfl, rfl, rfl, rfl, rfl, rfl, trivial⟩
        · try simp only [decide_eq_false_iff_not, Int.not_lt] at hb9
          refine SC.seq ?_
          refine SC.region ?_
          refine RG.go tab 2 [0] rfl ?_
          refine RG.nil ?_
          refine SC.region ?_
          refine RG.go tab 2 [0] rfl ?_
          refine RG.nil ?_
          exact ⟨(a, m), ⟨by dsimp only; split <;> omega, by dsimp only; split <;> omega⟩, Drop.mask [true] (rfl) ⟨Sc.rows fun _ => ⟨rfl, rfl⟩, trivial⟩, rfl, rfl, rfl, rfl, rfl, rfl, rfl, rfl, rfl, rfl, rfl, rfl, rfl, rfl, rfl, rfl, rfl, rfl, trivial⟩
      · rintro ⟨lo, hi⟩ hcut
        obtain ⟨hlo, hhi⟩ := hcut
        dsimp only at hlo hhi
        have hab1 : (m > (a + b) / 2 → lo = (a + b) / 2 + m - b ∧ hi = (a + b) / 2) ∧ (¬ m > (a + b) / 2 → lo = a ∧ hi = m) := ⟨fun h => by rw [if_pos h] at hlo hhi; exact ⟨hlo, hhi⟩, fun h => by rw [if_neg h] at hlo hhi; exact ⟨hlo, hhi⟩⟩
        have hmono : ∀ k k', lo ≤ k → k ≤ k' → k' < hi → (fun k => ¬ cG (xs.getD ((a + b) / 2 + m - 1 - k) ([], 0, 0)) (xs.getD k ([], 0, 0)) < 0) k' → (fun k => ¬ cG (xs.getD ((a + b) / 2 + m - 1 - k) ([], 0, 0)) (xs.getD k ([], 0, 0)) < 0) k := fun k k' h1 h2 h3 h4 => cG_ord.trans _ _ _ (cG_ord.trans _ _ _ (hs1 k k' (by omega) h2 (by omega)) h4) (hs2 ((a + b) / 2 + m - 1 - k') ((a + b) / 2 + m - 1 - k) (by omega) (by omega) (by omega))
        refine SC.seq ?_
        refine SC.region ?_
        refine RG.ask tab 2 [0] rfl (by (repeat' refine And.intro ?_ ?_) <;> first | rfl | omega | (unfold in64; omega) | (simp; done) | (simp; omega) | (simp at *; omega)) ?_
        refine RG.re (v' := .int .i64 ((((a + b) / 2 + m : Nat) : Int) - 1)) 148 (.int .i64 ((((a + b) / 2 + m) - 1 : Nat) : Int)) rfl (congrArg (AV.int .i64) (by omega)) ?_
        refine RG.go tab 1 [0] rfl ?_
        refine RG.nil ?_
        refine SC.seq ?_
        refine SC.block ?_
        refine SC.loop2 (fun (s : Nat) (r : Nat) => r - s) (fun (s : Nat) (r : Nat) => Bs (fun k => ¬ cG (xs.getD ((a + b) / 2 + m - 1 - k) ([], 0, 0)) (xs.getD k ([], 0, 0)) < 0) lo hi s r) (fun (s : Nat) (r : Nat) => [(0, .sl 0 L), (1, .int .i64 ((a : Nat) : Int)), (2, .int .i64 ((m : Nat) : Int)), (3, .int .i64 ((b : Nat) : Int)), (4, .fn 92 [] []), (18, .int .i64 (((a + b) / 2 : Nat) : Int)), (19, .int .i64 (((a + b) / 2 + m : Nat) : Int)), (20, .int .i64 ((s : Nat) : Int)), (21, .int .i64 ((r : Nat) : Int)), (22, .int .i64 ((((a + b) / 2 + m) - 1 : Nat) : Int))]) (fun (s : Nat) (r : Nat) => [some ⟨89, 3, xs.map rG⟩]) lo hi (Bs.init _ (by omega)) (Drop.mask [true] (rfl) ⟨Sc.rows fun _ => ⟨rfl, rfl⟩, trivial⟩) ⟨rfl, rfl, rfl, rfl, rfl, rfl, rfl, rfl, rfl, rfl, rfl, rfl, rfl, rfl, rfl, rfl, rfl, rfl, rfl, rfl, trivial⟩ (fun _ _ => Nat.le_of_ble_eq_true rfl) fun s r hI4 => ?_
        have hB := hI4
        have hl1 := hB.l1
        have hl2 := hB.l2
        have hl3 := hB.l3
        refine SC.seq ?_
        refine SC.seq ?_
        refine SC.region ?_
        refine RG.go tab 3 [0] rfl ?_
        refine RG.nil ?_
        refine SC.cond rfl (fun hb10 => ?_) (fun hb10 => ?_)
        · try simp only [decide_eq_true_eq] at hb10
          refine SC.skip ?_
          refine SC.block ?_
          refine SC.seq ?_
          refine SC.region ?_
          refine RG.ask tab 6 [0] rfl (by (repeat' refine And.intro ?_ ?_) <;> first | rfl | omega | (unfold in64; omega) | (simp; done) | (simp; omega) | (simp at *; omega)) ?_
          refine RG.re (v' := .int .i64 (IntKind.i64.wrap ((IntKind.u64.wrap ((s + r : Nat) : Int)).fdiv (2 ^ (min (1 : Int).toNat IntKind.u64.bits))))) 157 (.int .i64 (((s + r) / 2 : Nat) : Int)) rfl (congrArg (AV.int .i64) (half_ok _ (by omega))) ?_
          refine RG.go tab 1 [0] rfl ?_
          refine RG.nil ?_
          refine SC.seq ?_
          refine SC.drawn tab [0] (fun kk => if kk = 11 then .pf (.int .i64 (cG (xs.getD ((((a + b) / 2 + m) - 1) - ((s + r) / 2)) ([], 0, 0)) (xs.getD ((s + r) / 2) ([], 0, 0)))) else .none) [] [] [0, 1, 2, 3, 4, 5, 6, 7, 8, 9, 10, 11, 12, 13] 220 rfl mixed (by decide +kernel) ?_
          refine QR.ask 5 rfl (by (repeat' refine And.intro ?_ ?_) <;> first | rfl | omega | (unfold in64; omega) | (simp; done) | (simp; omega) | (simp at *; omega)) ?_
          refine QR.re (v' := .int .i64 (((((a + b) / 2 + m) - 1 : Nat) : Int) - (((s + r) / 2 : Nat) : Int))) 162 (.int .i64 (((((a + b) / 2 + m) - 1) - ((s + r) / 2) : Nat) : Int)) rfl (congrArg (AV.int .i64) (by omega)) ?_
          refine QR.ask 1 rfl (by (repeat' refine And.intro ?_ ?_) <;> first | rfl | omega | (unfold in64; omega) | (simp; done) | (simp; omega) | (simp at *; omega)) ?_
          refine QR.ldr ([], 0, 0) rfl rfl rfl rfl (by first | rfl | assumption | omega | (simp only [List.length_set]; first | assumption | omega) | (simp; omega)) (by first | omega | (simp only [List.length_set]; omega) | (simp; omega)) rfl rfl ?_
          refine QR.ask 3 rfl (by (repeat' refine And.intro ?_ ?_) <;> first | rfl | omega | (unfold in64; omega) | (simp; done) | (simp; omega) | (simp at *; omega)) ?_
          refine QR.ldr ([], 0, 0) rfl rfl rfl rfl (by first | rfl | assumption | omega | (simp only [List.length_set]; first | assumption | omega) | (simp; omega)) (by first | omega | (simp only [List.length_set]; omega) | (simp; omega)) rfl rfl ?_
          refine QR.pfc rfl rfl (cG_pf (xs.getD ((((a + b) / 2 + m) - 1) - ((s + r) / 2)) ([], 0, 0)) (xs.getD ((s + r) / 2) ([], 0, 0))) rfl ?_
          refine QR.go 2 rfl ?_
          refine QR.nil ?_
          refine SC.cond rfl (fun hb11 => ?_) (fun hb11 => ?_)
          · try simp only [decide_eq_false_iff_not, Bool.not_eq_eq_eq_not, Bool.not_true, Int.not_lt] at hb11
            have hbs := hB.up hmono (k := ((s + r) / 2)) (by omega) (by omega) (fun hlt : cG (xs.getD ((a + b) / 2 + m - 1 - ((s + r) / 2)) ([], 0, 0)) (xs.getD ((s + r) / 2) ([], 0, 0)) < 0 => by omega)
            refine SC.region ?_
            refine RG.ask tab 3 [0] rfl (by (repeat' refine And.intro ?_ ?_) <;> first | rfl | omega | (unfold in64; omega) | (simp; done) | (simp; omega) | (simp at *; omega)) ?_
            refine RG.nil ?_
            refine ⟨(s + r) / 2 + 1, r, (by omega), hbs, Drop.mask [true] rfl ⟨Sc.rows fun _ => ⟨rfl, rfl⟩, trivial⟩, rfl, rfl, rfl, rfl, rfl, rfl, rfl, rfl, rfl, rfl, rfl, rfl, rfl, rfl, rfl, rfl, rfl, rfl, rfl, rfl, trivial⟩
          · try simp only [decide_eq_true_eq, Bool.not_eq_eq_eq_not, Bool.not_false] at hb11
            have hbs := hB.dn hmono (k := ((s + r) / 2)) (by omega) (by omega) (fun hn => hn hb11)
            refine SC.region ?_
            refine RG.go tab 2 [0] rfl ?_
            refine RG.nil ?_
            refine ⟨s, (s + r) / 2, (by omega), hbs, Drop.mask [true] rfl ⟨Sc.rows fun _ => ⟨rfl, rfl⟩, trivial⟩, rfl, rfl, rfl, rfl, rfl, rfl, rfl, rfl, rfl, rfl, rfl, rfl, rfl, rfl, rfl, rfl, rfl, rfl, rfl, rfl, trivial⟩
        · try simp only [decide_eq_false_iff_not, Int.not_lt] at hb10
          have hsr : r = s := by have := hB.l2; omega
          rw [hsr] at hB
          have hbd : a ≤ s ∧ s ≤ m ∧ s ≤ (a + b) / 2 ∧ ((a + b) / 2 + m - s) ≤ b := by have := hB.l1; have := hB.l3; omega
          refine SC.exit ?_
          refine SC.seq ?_
          refine SC.region ?_
          refine RG.ask tab 3 [0] rfl (by (repeat' refine And.intro ?_ ?_) <;> first | rfl | omega | (unfold in64; omega) | (simp; done) | (simp; omega) | (simp at *; omega)) ?_
          refine RG.re (v' := .int .i64 ((((a + b) / 2 + m : Nat) : Int) - ((s : Nat) : Int))) 177 (.int .i64 ((((a + b) / 2 + m) - s : Nat) : Int)) rfl (congrArg (AV.int .i64) (by omega)) ?_
          refine RG.go tab 1 [0] rfl ?_
          refine RG.nil ?_
          refine SC.cutE (X := (List (List Int × Int × Int))) (fun (x : (List (List Int × Int × Int))) => x.length = L ∧ (∀ k, x.getD k ([], 0, 0) = rotG ([], 0, 0) xs s (m - s) ((a + b) / 2 - s) k) ∧ Win ([], 0, 0) xs x a b) (fun (x : (List (List Int × Int × Int))) => [(0, .sl 0 L), (1, .int .i64 ((a : Nat) : Int)), (3, .int .i64 ((b : Nat) : Int)), (4, .fn 92 [] []), (18, .int .i64 (((a + b) / 2 : Nat) : Int)), (20, .int .i64 ((s : Nat) : Int)), (24, .int .i64 ((((a + b) / 2 + m) - s : Nat) : Int))]) (fun (x : (List (List Int × Int × Int))) => [some ⟨89, 3, x.map rG⟩]) (fun _ => Nat.le_of_ble_eq_true rfl) ?_ ?_
          · refine SC.cut [(0, .sl 0 L), (1, .int .i64 ((a : Nat) : Int)), (2, .int .i64 ((m : Nat) : Int)), (3, .int .i64 ((b : Nat) : Int)), (4, .fn 92 [] []), (18, .int .i64 (((a + b) / 2 : Nat) : Int)), (20, .int .i64 ((s : Nat) : Int)), (24, .int .i64 ((((a + b) / 2 + m) - s : Nat) : Int)), (185, .bool ((decide (((s : Nat) : Int) < ((m : Nat) : Int))) && (decide (((m : Nat) : Int) < ((((a + b) / 2 + m) - s : Nat) : Int)))))] [some ⟨89, 3, xs.map rG⟩] rfl ?_ ?_
            · refine SC.region ?_
              refine RG.go tab 4 [0] rfl ?_
              refine RG.split 181 rfl fun b12 hb12 => ?_
              cases b12
              · try have hp12 := of_decide_eq_false hb12
                refine RG.go tab 4 [0] rfl ?_
                refine RG.nil ?_
                exact ⟨Drop.mask [true] (rfl) ⟨Sc.rows fun _ => ⟨rfl, rfl⟩, trivial⟩, rfl, rfl, rfl, rfl, rfl, rfl, rfl, rfl, rfl, rfl, rfl, rfl, rfl, rfl, rfl, rfl, (show AV.bool false = AV.bool ((decide (((s : Nat) : Int) < ((m : Nat) : Int))) && (decide (((m : Nat) : Int) < ((((a + b) / 2 + m) - s : Nat) : Int)))) from by first | rfl | ((try simp only [Int.toNat_natCast] at hb12); first | (rw [hb12]; done) | (rw [hb12]; rfl)) | (simp only [hb12]; rfl) | simp_all), rfl, trivial⟩
              · try have hp12 := of_decide_eq_true hb12
                refine RG.go tab 4 [0] rfl ?_
                refine RG.nil ?_
                exact ⟨Drop.mask [true] (rfl) ⟨Sc.rows fun _ => ⟨rfl, rfl⟩, trivial⟩, rfl, rfl, rfl, rfl, rfl, rfl, rfl, rfl, rfl, rfl, rfl, rfl, rfl, rfl, rfl, rfl, (show AV.bool (decide (((m : Nat) : Int) < ((((a + b) / 2 + m) - s : Nat) : Int))) = AV.bool ((decide (((s : Nat) : Int) < ((m : Nat) : Int))) && (decide (((m : Nat) : Int) < ((((a + b) / 2 + m) - s : Nat) : Int)))) from by first | rfl | ((try simp only [Int.toNat_natCast] at hb12); first | (rw [hb12]; done) | (rw [hb12]; rfl)) | (simp only [hb12]; rfl) | simp_all), rfl, trivial⟩
            · refine SC.cond rfl (fun hb13 => ?_) (fun hb13 => ?_)
              · try simp only [decide_eq_true_eq, Bool.and_eq_true] at hb13
                refine SC.region ?_
                refine RG.go tab 5 [0] rfl ?_
                refine RG.fc rfl rfl (rotateG xs L s m ((a + b) / 2 + m - s) hL hx (by omega) (by omega) (by omega)) (fun r0 S0 hq => ?_)
                obtain ⟨rfl, ys, rfl, hro, hw1⟩ := hq
                refine RG.nil ?_
                exact ⟨(ys), ⟨by rw [hw1.len]; exact hL, fun k => by rw [show (a + b) / 2 - s = ((a + b) / 2 + m - s) - m by omega]; exact hro k, hw1.wide (by omega) (by omega)⟩, Drop.mask [true] (rfl) ⟨Sc.rows fun _ => ⟨rfl, rfl⟩, trivial⟩, rfl, rfl, rfl, rfl, rfl, rfl, rfl, rfl, rfl, rfl, rfl, rfl, rfl, rfl, trivial⟩
              · try simp only [decide_eq_true_eq, decide_eq_false_iff_not, Bool.and_eq_false_imp, Int.not_lt] at hb13
                refine SC.skip ?_
                exact ⟨(xs), ⟨hL, fun k => by unfold rotG; (repeat' split) <;> first | rfl | (congr 1; omega) | omega, Win.refl _ _ _⟩, Drop.mask [true] (rfl) ⟨Sc.rows fun _ => ⟨rfl, rfl⟩, trivial⟩, rfl, rfl, rfl, rfl, rfl, rfl, rfl, rfl, rfl, rfl, rfl, rfl, rfl, rfl, trivial⟩
          · intro ys hcut
            obtain ⟨hys, hro, hW⟩ := hcut
            obtain ⟨-, -, -, -, -, -, hM⟩ := sym_mid cG_ord hs1 hs2 ham hmb rfl hlo hhi hB hro
            refine SC.cutE (X := (List (List Int × Int × Int))) (fun (x : (List (List Int × Int × Int))) => x.length = L ∧ Win ([], 0, 0) ys x a ((a + b) / 2) ∧ Srt cG ([], 0, 0) x a ((a + b) / 2)) (fun (x : (List (List Int × Int × Int))) => [(0, .sl 0 L), (3, .int .i64 ((b : Nat) : Int)), (4, .fn 92 [] []), (18, .int .i64 (((a + b) / 2 : Nat) : Int)), (24, .int .i64 ((((a + b) / 2 + m) - s : Nat) : Int))]) (fun (x : (List (List Int × Int × Int))) => [some ⟨89, 3, x.map rG⟩]) (fun _ => Nat.le_of_ble_eq_true rfl) ?_ ?_
            · refine SC.cut [(0, .sl 0 L), (1, .int .i64 ((a : Nat) : Int)), (3, .int .i64 ((b : Nat) : Int)), (4, .fn 92 [] []), (18, .int .i64 (((a + b) / 2 : Nat) : Int)), (20, .int .i64 ((s : Nat) : Int)), (24, .int .i64 ((((a + b) / 2 + m) - s : Nat) : Int)), (199, .bool ((decide (((a : Nat) : Int) < ((s : Nat) : Int))) && (decide (((s : Nat) : Int) < (((a + b) / 2 : Nat) : Int)))))] [some ⟨89, 3, ys.map rG⟩] rfl ?_ ?_
              · refine SC.region ?_
                refine RG.go tab 4 [0] rfl ?_
                refine RG.split 195 rfl fun b14 hb14 => ?_
                cases b14
                · try have hp14 := of_decide_eq_false hb14
                  refine RG.go tab 4 [0] rfl ?_
                  refine RG.nil ?_
                  exact ⟨Drop.mask [true] (rfl) ⟨Sc.rows fun _ => ⟨rfl, rfl⟩, trivial⟩, rfl, rfl, rfl, rfl, rfl, rfl, rfl, rfl, rfl, rfl, rfl, rfl, rfl, rfl, (show AV.bool false = AV.bool ((decide (((a : Nat) : Int) < ((s : Nat) : Int))) && (decide (((s : Nat) : Int) < (((a + b) / 2 : Nat) : Int)))) from by first | rfl | ((try simp only [Int.toNat_natCast] at hb14); first | (rw [hb14]; done) | (rw [hb14]; rfl)) | (simp only [hb14]; rfl) | simp_all), rfl, trivial⟩
                · try have hp14 := of_decide_eq_true hb14
                  refine RG.go tab 4 [0] rfl ?_
                  refine RG.nil ?_
                  exact ⟨Drop.mask [true] (rfl) ⟨Sc.rows fun _ => ⟨rfl, rfl⟩, trivial⟩, rfl, rfl, rfl, rfl, rfl, rfl, rfl, rfl, rfl, rfl, rfl, rfl, rfl, rfl, (show AV.bool (decide (((s : Nat) : Int) < (((a + b) / 2 : Nat) : Int))) = AV.bool ((decide (((a : Nat) : Int) < ((s : Nat) : Int))) && (decide (((s : Nat) : Int) < (((a + b) / 2 : Nat) : Int)))) from by first | rfl | ((try simp only [Int.toNat_natCast] at hb14); first | (rw [hb14]; done) | (rw [hb14]; rfl)) | (simp only [hb14]; rfl) | simp_all), rfl, trivial⟩
              · refine SC.cond rfl (fun hb15 => ?_) (fun hb15 => ?_)
                · try simp only [decide_eq_true_eq, Bool.and_eq_true] at hb15
                  refine SC.region ?_
                  refine RG.go tab 5 [0] rfl ?_
                  refine RG.fc rfl rfl (ih ys L a s ((a + b) / 2) hys hx (by omega) (by omega) (by omega) (by omega) hM.s1 hM.s2) (fun r0 S0 hq => ?_)
                  obtain ⟨rfl, zs, rfl, hw2, hz2⟩ := hq
                  refine RG.nil ?_
                  exact ⟨(zs), ⟨by rw [hw2.len]; exact hys, hw2, hz2⟩, Drop.mask [true] (rfl) ⟨Sc.rows fun _ => ⟨rfl, rfl⟩, trivial⟩, rfl, rfl, rfl, rfl, rfl, rfl, rfl, rfl, rfl, rfl, trivial⟩
                · try simp only [decide_eq_true_eq, decide_eq_false_iff_not, Bool.and_eq_false_imp, Int.not_lt] at hb15
                  refine SC.skip ?_
                  exact ⟨(ys), ⟨hys, Win.refl _ _ _, hM.s1.join0 hM.s2 (by omega)⟩, Drop.mask [true] (rfl) ⟨Sc.rows fun _ => ⟨rfl, rfl⟩, trivial⟩, rfl, rfl, rfl, rfl, rfl, rfl, rfl, rfl, rfl, rfl, trivial⟩
            · intro zs hcut
              obtain ⟨hzs, hw2, hz2⟩ := hcut
              refine SC.cut [(0, .sl 0 L), (3, .int .i64 ((b : Nat) : Int)), (4, .fn 92 [] []), (18, .int .i64 (((a + b) / 2 : Nat) : Int)), (24, .int .i64 ((((a + b) / 2 + m) - s : Nat) : Int)), (213, .bool ((decide ((((a + b) / 2 : Nat) : Int) < ((((a + b) / 2 + m) - s : Nat) : Int))) && (decide (((((a + b) / 2 + m) - s : Nat) : Int) < ((b : Nat) : Int)))))] [some ⟨89, 3, zs.map rG⟩] rfl ?_ ?_
              · refine SC.region ?_
                refine RG.go tab 4 [0] rfl ?_
                refine RG.split 209 rfl fun b16 hb16 => ?_
                cases b16
                · try have hp16 := of_decide_eq_false hb16
                  refine RG.go tab 4 [0] rfl ?_
                  refine RG.nil ?_
                  exact ⟨Drop.mask [true] (rfl) ⟨Sc.rows fun _ => ⟨rfl, rfl⟩, trivial⟩, rfl, rfl, rfl, rfl, rfl, rfl, rfl, rfl, rfl, rfl, (show AV.bool false = AV.bool ((decide ((((a + b) / 2 : Nat) : Int) < ((((a + b) / 2 + m) - s : Nat) : Int))) && (decide (((((a + b) / 2 + m) - s : Nat) : Int) < ((b : Nat) : Int)))) from by first | rfl | ((try simp only [Int.toNat_natCast] at hb16); first | (rw [hb16]; done) | (rw [hb16]; rfl)) | (simp only [hb16]; rfl) | simp_all), rfl, trivial⟩
                · try have hp16 := of_decide_eq_true hb16
                  refine RG.go tab 4 [0] rfl ?_
                  refine RG.nil ?_
                  exact ⟨Drop.mask [true] (rfl) ⟨Sc.rows fun _ => ⟨rfl, rfl⟩, trivial⟩, rfl, rfl, rfl, rfl, rfl, rfl, rfl, rfl, rfl, rfl, (show AV.bool (decide (((((a + b) / 2 + m) - s : Nat) : Int) < ((b : Nat) : Int))) = AV.bool ((decide ((((a + b) / 2 : Nat) : Int) < ((((a + b) / 2 + m) - s : Nat) : Int))) && (decide (((((a + b) / 2 + m) - s : Nat) : Int) < ((b : Nat) : Int)))) from by first | rfl | ((try simp only [Int.toNat_natCast] at hb16); first | (rw [hb16]; done) | (rw [hb16]; rfl)) | (simp only [hb16]; rfl) | simp_all), rfl, trivial⟩
              · refine SC.cond rfl (fun hb17 => ?_) (fun hb17 => ?_)
                · try simp only [decide_eq_true_eq, Bool.and_eq_true] at hb17
                  refine SC.region ?_
                  refine RG.go tab 5 [0] rfl ?_
                  refine RG.fc rfl rfl (ih zs L ((a + b) / 2) ((a + b) / 2 + m - s) b hzs hx (by omega) (by omega) (by omega) hb (hM.s3.out hw2 (.inr (Nat.le_refl _))) (hM.s4.out hw2 (.inr (by omega)))) (fun r0 S0 hq => ?_)
                  obtain ⟨rfl, us, rfl, hw3, hz3⟩ := hq
                  refine RG.nil ?_
                  refine End.normal tab rfl ?_
                  exact ⟨rfl, us, rfl, hW.trans ((hw2.wide (Nat.le_refl _) (by omega)).trans (hw3.wide (by omega) (Nat.le_refl _))), sym_fin hM hw2 hz2 hw3 hz3 (by omega) (by omega)⟩
                · try simp only [decide_eq_true_eq, decide_eq_false_iff_not, Bool.and_eq_false_imp, Int.not_lt] at hb17
                  refine SC.skip ?_
                  refine End.normal tab rfl ?_
                  exact ⟨rfl, zs, rfl, hW.trans (hw2.wide (Nat.le_refl _) (by omega)), sym_fin hM hw2 hz2 (Win.refl _ _ _) ((hM.s3.out hw2 (.inr (Nat.le_refl _))).join0 (hM.s4.out hw2 (.inr (by omega))) (by omega)) (by omega) (by omega)⟩
theorem stableG (xs : List (List Int × Int × Int)) (L : Nat) (hL : xs.length = L) (hx : L ≤ 1099511627776) : FC Try.prog 118 [.sl 0 L, .int .i64 ((L : Nat) : Int), .fn 92 [] []] [some ⟨89, 3, xs.map rG⟩] (fun r S' => r = .tup [] ∧ ∃ ys, S' = [some ⟨89, 3, ys.map rG⟩] ∧ ys.Perm xs ∧ Srt cG ([], 0, 0) ys 0 L) := by
  refine FC.text Try.func118 rfl rfl rfl fun B => ?_
  refine SC.seq ?_
  refine SC.region ?_
  refine RG.go tab 1 [0] rfl ?_
  refine RG.nil ?_
  refine SC.seq ?_
  refine SC.region ?_
  refine RG.go tab 3 [0] rfl ?_
  refine RG.nil ?_
  refine SC.seq ?_
  refine SC.block ?_
  refine SC.loop3 (fun (a : Nat) (b : Nat) (ys : List (List Int × Int × Int)) => L + 20 - b) (fun (a : Nat) (b : Nat) (ys : List (List Int × Int × Int)) => b = a + 20 ∧ a ≤ L ∧ ys.length = L ∧ PreBlk cG ([], 0, 0) ys 20 a ∧ ys.Perm xs) (fun (a : Nat) (b : Nat) (ys : List (List Int × Int × Int)) => [(0, .sl 0 L), (1, .int .i64 ((L : Nat) : Int)), (2, .fn 92 [] []), (6, .int .i64 20), (7, .int .i64 ((a : Nat) : Int)), (8, .int .i64 ((b : Nat) : Int))]) (fun (a : Nat) (b : Nat) (ys : List (List Int × Int × Int)) => [some ⟨89, 3, ys.map rG⟩]) 0 20 xs ⟨rfl, Nat.zero_le _, hL, .zero, .refl _⟩ (Drop.mask [true] (rfl) ⟨Sc.rows fun _ => ⟨rfl, rfl⟩, trivial⟩) ⟨rfl, rfl, rfl, rfl, rfl, rfl, rfl, rfl, rfl, rfl, rfl, rfl, trivial⟩ (fun _ _ _ => Nat.le_of_ble_eq_true rfl) fun a b ys hI0 => ?_
  obtain ⟨hab, haL, hys, hPr, hPm⟩ := hI0
  refine SC.seq ?_
  refine SC.seq ?_
  refine SC.region ?_
  refine RG.go tab 3 [0] rfl ?_
  refine RG.nil ?_
  refine SC.cond rfl (fun hb1 => ?_) (fun hb1 => ?_)
  · try simp only [decide_eq_true_eq] at hb1
    refine SC.skip ?_
    refine SC.block ?_
    refine SC.seq ?_
    refine SC.region ?_
    refine RG.go tab 4 [0] rfl ?_
    refine RG.fc rfl rfl (insertionSortG ys L a b hys hx (by omega) (by omega)) (fun r0 S0 hq => ?_)
    obtain ⟨rfl, ys1, rfl, hs1, hw1⟩ := hq
    refine RG.nil ?_
    refine SC.seq ?_
    refine SC.region ?_
    refine RG.go tab 2 [0] rfl ?_
    refine RG.nil ?_
    refine SC.region ?_
    refine RG.ask tab 4 [0] rfl (by (repeat' refine And.intro ?_ ?_) <;> first | rfl | omega | (unfold in64; omega) | (simp; done) | (simp; omega) | (simp at *; omega)) ?_
    refine RG.nil ?_
    refine ⟨b, b + 20, ys1, (by omega), ⟨by omega, by omega, by rw [hw1.len, hys], (show PreBlk cG ([], 0, 0) ys1 20 b from by rw [hab] at hs1 hw1 ⊢; exact .step (hPr.out hw1 (Nat.le_refl _)) hs1), hw1.perm.trans hPm⟩, Drop.mask [true] rfl ⟨Sc.rows fun _ => ⟨rfl, rfl⟩, trivial⟩, rfl, rfl, rfl, rfl, rfl, rfl, rfl, rfl, rfl, rfl, rfl, rfl, trivial⟩
  · try simp only [decide_eq_false_iff_not, Int.not_le] at hb1
    refine SC.exit ?_
    refine SC.seq ?_
    refine SC.region ?_
    refine RG.go tab 4 [0] rfl ?_
    refine RG.fc rfl rfl (insertionSortG ys L a L hys hx (by omega) (by omega)) (fun r0 S0 hq => ?_)
    obtain ⟨rfl, ys1, rfl, hs1, hw1⟩ := hq
    refine RG.nil ?_
    refine SC.block ?_
    refine SC.loop2 (fun (bs : Nat) (ys2 : List (List Int × Int × Int)) => L - bs) (fun (bs : Nat) (ys2 : List (List Int × Int × Int)) => 0 < bs ∧ bs ≤ 2 * L + 20 ∧ ys2.length = L ∧ Blk cG ([], 0, 0) ys2 bs L 0 ∧ ys2.Perm xs) (fun (bs : Nat) (ys2 : List (List Int × Int × Int)) => [(0, .sl 0 L), (1, .int .i64 ((L : Nat) : Int)), (2, .fn 92 [] []), (6, .int .i64 ((bs : Nat) : Int))]) (fun (bs : Nat) (ys2 : List (List Int × Int × Int)) => [some ⟨89, 3, ys2.map rG⟩]) 20 ys1 ⟨by omega, by omega, by rw [hw1.len, hys], (hPr.out hw1 (Nat.le_refl _)).fin (Blk.last hs1 (by omega)), hw1.perm.trans hPm⟩ (Drop.mask [true] (rfl) ⟨Sc.rows fun _ => ⟨rfl, rfl⟩, trivial⟩) ⟨rfl, rfl, rfl, rfl, rfl, rfl, rfl, rfl, trivial⟩ (fun _ _ => Nat.le_of_ble_eq_true rfl) fun bs ys2 hI1 => ?_
    obtain ⟨hbs, hbL, hys2, hBk, hPn⟩ := hI1
    refine SC.seq ?_
    refine SC.seq ?_
    refine SC.region ?_
    refine RG.go tab 3 [0] rfl ?_
    refine RG.nil ?_
    refine SC.cond rfl (fun hb2 => ?_) (fun hb2 => ?_)
    · try simp only [decide_eq_true_eq] at hb2
      refine SC.skip ?_
      refine SC.block ?_
      refine SC.seq ?_
      refine SC.region ?_
      refine RG.ask tab 2 [0] rfl (by (repeat' refine And.intro ?_ ?_) <;> first | rfl | omega | (unfold in64; omega) | (simp; done) | (simp; omega) | (simp at *; omega)) ?_
      refine RG.re (v' := .int .i64 (2 * ((bs : Nat) : Int))) 32 (.int .i64 ((2 * bs : Nat) : Int)) rfl (congrArg (AV.int .i64) (by omega)) ?_
      refine RG.go tab 2 [0] rfl ?_
      refine RG.nil ?_
      refine SC.seq ?_
      refine SC.block ?_
      refine SC.loop3 (fun (a : Nat) (b : Nat) (zs : List (List Int × Int × Int)) => L + 2 * bs - b) (fun (a : Nat) (b : Nat) (zs : List (List Int × Int × Int)) => b = a + 2 * bs ∧ a ≤ L ∧ zs.length = L ∧ PreBlk cG ([], 0, 0) zs (2 * bs) a ∧ Blk cG ([], 0, 0) zs bs L a ∧ zs.Perm xs) (fun (a : Nat) (b : Nat) (zs : List (List Int × Int × Int)) => [(0, .sl 0 L), (1, .int .i64 ((L : Nat) : Int)), (2, .fn 92 [] []), (6, .int .i64 ((bs : Nat) : Int)), (7, .int .i64 ((a : Nat) : Int)), (8, .int .i64 ((b : Nat) : Int))]) (fun (a : Nat) (b : Nat) (zs : List (List Int × Int × Int)) => [some ⟨89, 3, zs.map rG⟩]) 0 (2 * bs) ys2 ⟨by omega, Nat.zero_le _, hys2, .zero, hBk, hPn⟩ (Drop.mask [true] (rfl) ⟨Sc.rows fun _ => ⟨rfl, rfl⟩, trivial⟩) ⟨rfl, rfl, rfl, rfl, rfl, rfl, rfl, rfl, rfl, rfl, rfl, rfl, trivial⟩ (fun _ _ _ => Nat.le_of_ble_eq_true rfl) fun a b zs hI2 => ?_
      obtain ⟨hab, haL, hzs, hPr, hBl, hPm⟩ := hI2
      refine SC.seq ?_
      refine SC.seq ?_
      refine SC.region ?_
      refine RG.go tab 3 [0] rfl ?_
      refine RG.nil ?_
      refine SC.cond rfl (fun hb3 => ?_) (fun hb3 => ?_)
      · try simp only [decide_eq_true_eq] at hb3
        have hk1 := hBl.take (by omega)
        have hk2 := hk1.2.take (by omega)
        refine SC.skip ?_
        refine SC.block ?_
        refine SC.seq ?_
        refine SC.region ?_
        refine RG.ask tab 7 [0] rfl (by (repeat' refine And.intro ?_ ?_) <;> first | rfl | omega | (unfold in64; omega) | (simp; done) | (simp; omega) | (simp at *; omega)) ?_
        refine RG.fc rfl rfl (symMergeG (b - a + 1) zs L a (a + bs) b hzs hx (by omega) (by omega) (by omega) (by omega) (by have := hk1.1; rwa [show min (a + bs) L = a + bs by omega] at this) (by have := hk2.1; rwa [show min (a + bs + bs) L = b by omega] at this)) (fun r0 S0 hq => ?_)
        obtain ⟨rfl, zs1, rfl, hw1, hs1⟩ := hq
        refine RG.nil ?_
        refine SC.seq ?_
        refine SC.region ?_
        refine RG.go tab 2 [0] rfl ?_
        refine RG.nil ?_
        refine SC.region ?_
        refine RG.ask tab 3 [0] rfl (by (repeat' refine And.intro ?_ ?_) <;> first | rfl | omega | (unfold in64; omega) | (simp; done) | (simp; omega) | (simp at *; omega)) ?_
        refine RG.re (v' := .int .i64 (2 * ((bs : Nat) : Int))) 47 (.int .i64 ((2 * bs : Nat) : Int)) rfl (congrArg (AV.int .i64) (by omega)) ?_
        refine RG.ask tab 2 [0] rfl (by (repeat' refine And.intro ?_ ?_) <;> first | rfl | omega | (unfold in64; omega) | (simp; done) | (simp; omega) | (simp at *; omega)) ?_
        refine RG.nil ?_
        refine ⟨b, b + 2 * bs, zs1, (by omega), ⟨by omega, by omega, by rw [hw1.len, hzs], (show PreBlk cG ([], 0, 0) zs1 (2 * bs) b from by rw [hab] at hs1 hw1 ⊢; exact .step (hPr.out hw1 (Nat.le_refl _)) hs1), (by have h := hk2.2.out hw1 (by omega); rwa [show a + bs + bs = b by omega] at h), hw1.perm.trans hPm⟩, Drop.mask [true] rfl ⟨Sc.rows fun _ => ⟨rfl, rfl⟩, trivial⟩, rfl, rfl, rfl, rfl, rfl, rfl, rfl, rfl, rfl, rfl, rfl, rfl, trivial⟩
      · try simp only [decide_eq_false_iff_not, Int.not_le] at hb3
        refine SC.exit ?_
        refine SC.cutE (X := (List (List Int × Int × Int))) (fun (x : (List (List Int × Int × Int))) => x.length = L ∧ Blk cG ([], 0, 0) x (2 * bs) L 0 ∧ x.Perm xs) (fun (x : (List (List Int × Int × Int))) => [(0, .sl 0 L), (1, .int .i64 ((L : Nat) : Int)), (2, .fn 92 [] []), (6, .int .i64 ((bs : Nat) : Int))]) (fun (x : (List (List Int × Int × Int))) => [some ⟨89, 3, x.map rG⟩]) (fun _ => Nat.le_of_ble_eq_true rfl) ?_ ?_
        · refine SC.seq ?_
          refine SC.region ?_
          refine RG.ask tab 4 [0] rfl (by (repeat' refine And.intro ?_ ?_) <;> first | rfl | omega | (unfold in64; omega) | (simp; done) | (simp; omega) | (simp at *; omega)) ?_
          refine RG.nil ?_
          refine SC.seq ?_
          refine SC.region ?_
          refine RG.go tab 3 [0] rfl ?_
          refine RG.nil ?_
          refine SC.cond rfl (fun hb4 => ?_) (fun hb4 => ?_)
          · try simp only [decide_eq_true_eq] at hb4
            have hk1 := hBl.take (by omega)
            have hk2 := hk1.2.take (by omega)
            refine SC.region ?_
            refine RG.go tab 5 [0] rfl ?_
            refine RG.fc rfl rfl (symMergeG (L - a + 1) zs L a (a + bs) L hzs hx (by omega) (by omega) (by omega) (by omega) (by have := hk1.1; rwa [show min (a + bs) L = a + bs by omega] at this) (by have := hk2.1; rwa [show min (a + bs + bs) L = L by omega] at this)) (fun r0 S0 hq => ?_)
            obtain ⟨rfl, zs1, rfl, hw1, hs1⟩ := hq
            refine RG.nil ?_
            exact ⟨(zs1), ⟨by rw [hw1.len]; exact hzs, (hPr.out hw1 (Nat.le_refl _)).fin (Blk.last hs1 (by omega)), hw1.perm.trans hPm⟩, Drop.mask [true] (rfl) ⟨Sc.rows fun _ => ⟨rfl, rfl⟩, trivial⟩, rfl, rfl, rfl, rfl, rfl, rfl, rfl, rfl, trivial⟩
          · try simp only [decide_eq_false_iff_not, Int.not_lt] at hb4
            refine SC.skip ?_
            exact ⟨(zs), ⟨hzs, hPr.fin (if hla : L ≤ a then .done hla else Blk.last (by have := (hBl.take (by omega)).1; rwa [show min (a + bs) L = L by omega] at this) (by omega)), hPm⟩, Drop.mask [true] (rfl) ⟨Sc.rows fun _ => ⟨rfl, rfl⟩, trivial⟩, rfl, rfl, rfl, rfl, rfl, rfl, rfl, rfl, trivial⟩
        · intro us hcut
          obtain ⟨hus, hub, hup⟩ := hcut
          refine SC.region ?_
          refine RG.ask tab 2 [0] rfl (by (repeat' refine And.intro ?_ ?_) <;> first | rfl | omega | (unfold in64; omega) | (simp; done) | (simp; omega) | (simp at *; omega)) ?_
          refine RG.re (v' := .int .i64 (((bs : Nat) : Int) * 2)) 62 (.int .i64 ((bs * 2 : Nat) : Int)) rfl (congrArg (AV.int .i64) (by omega)) ?_
          refine RG.go tab 1 [0] rfl ?_
          refine RG.nil ?_
          refine ⟨bs * 2, us, (by omega), ⟨by omega, by omega, hus, by rw [show bs * 2 = 2 * bs by omega]; exact hub, hup⟩, Drop.mask [true] rfl ⟨Sc.rows fun _ => ⟨rfl, rfl⟩, trivial⟩, rfl, rfl, rfl, rfl, rfl, rfl, rfl, rfl, trivial⟩
    · try simp only [decide_eq_false_iff_not, Int.not_lt] at hb2
      refine SC.exit ?_
      refine End.normal tab rfl ?_
      exact ⟨rfl, ys2, rfl, hPn, hBk.fin (by omega)⟩
theorem sortStableG (xs : List (List Int × Int × Int)) (L : Nat) (hL : xs.length = L) (hx : L ≤ 1099511627776) : FC Try.prog 91 [.sl 0 L, .fn 92 [] []] [some ⟨89, 3, xs.map rG⟩] (fun r S' => r = .tup [] ∧ ∃ ys, S' = [some ⟨89, 3, ys.map rG⟩] ∧ ys.Perm xs ∧ Srt cG ([], 0, 0) ys 0 L) := by
  refine FC.text Try.func91 rfl rfl rfl fun B => ?_
  refine SC.region ?_
  refine RG.ask tab 4 [0] rfl (by (repeat' refine And.intro ?_ ?_) <;> first | rfl | omega | (unfold in64; omega) | (simp; done) | (simp; omega) | (simp at *; omega)) ?_
  refine RG.fc rfl rfl (stableG xs L hL hx) (fun r0 S0 hq => ?_)
  obtain ⟨rfl, ys1, rfl, hpm, hst⟩ := hq
  refine RG.nil ?_
  refine End.normal tab rfl ?_
  exact ⟨rfl, ys1, rfl, hpm, hst⟩
end Go.Proofs.Ythholadaflfpcaa
