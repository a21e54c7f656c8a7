import Derived.Test.YthholadaflfpcaaP6
namespace Go.Proofs.Ythholadaflfpcaa
open Go Go.Fw
/-- A row that is good. -/
def goodRow (l : List Int) : Bool := decide ((l.length : Int) ≤ 6) && l.all fun x => inB x (-100000) 100000
def cmpI (a b : Int) : Int := if a < b then -1 else if b < a then 1 else 0
def cmpL : List Int → List Int → Int
  | [], [] => 0
  | [], _ :: _ => -1
  | _ :: _, [] => 1
  | a :: xs, b :: ys => if a < b then -1 else if b < a then 1 else cmpL xs ys
def rowOf (r : List Int) (c : Int) : Bool := goodRow r && (r.length : Int) == c
def isW (n : Int) : Bool := inB n (-1000000) 1000000
def gAt (c : Int) (l : List Wt) (i : Nat) : Bool := rowOf (l.getD i ([], 0)).1 c && isW (l.getD i ([], 0)).2 && !((l.getD i ([], 0)).2 == 0) && (decide (i = 0) || decide (cmpL (l.getD (i - 1) ([], 0)).1 (l.getD i ([], 0)).1 < 0))
def goodTb (t : Tb) : Bool := inB t.1 0 6 && decide ((t.2.length : Int) ≤ 60) && (List.range t.2.length).all (gAt t.1 t.2)
theorem goodTb_all {t : Tb} (h : ∀ j, j < t.2.length → gAt t.1 t.2 j = true) : goodTb t = (inB t.1 0 6 && decide ((t.2.length : Int) ≤ 60)) := by
  unfold goodTb
  rw [show (List.range t.2.length).all (gAt t.1 t.2) = true from by simpa using h, Bool.and_true]
theorem goodTb_not {t : Tb} {i : Nat} (hi : i < t.2.length) (h : gAt t.1 t.2 i = false) : goodTb t = false := by
  unfold goodTb
  rw [show (List.range t.2.length).all (gAt t.1 t.2) = false from by simpa using ⟨i, hi, h⟩, Bool.and_false]
theorem all_drop {l : List Int} {i : Nat} {p : Int → Bool} (h : ∀ j, j < i → p (l.getD j 0) = true) (hi : i ≥ l.length) : l.all p = true := by
  rw [List.all_eq_true]
  intro x hx
  obtain ⟨j, hj, rfl⟩ := List.getElem_of_mem hx
  simpa [hj] using h j (by omega)
theorem all_not {α : Type} {l : List α} {i : Nat} {p : α → Bool} {d : α} (hi : i < l.length) (h : p (l.getD i d) = false) : l.all p = false := by
  rw [List.all_eq_false]
  exact ⟨_, getD_mem hi, by simpa using h⟩
theorem isCell_pf (n : Int) : PF Try.prog 111 [.int .i64 n] (.bool (inB n (-100000) 100000)) := by
  refine PF.text Try.func111 rfl rfl rfl fun B => ?_
  refine SC.seq ?_
  refine SC.region ?_
  refine RG.go tab 1 [] rfl ?_
  refine RG.nil ?_
  refine SC.seq ?_
  refine SC.region ?_
  refine RG.go tab 1 [] rfl ?_
  refine RG.pf rfl rfl (within_pf n (-100000) 100000) rfl ?_
  refine RG.go tab 1 [] rfl ?_
  refine RG.nil ?_
  refine SC.ret (End.ret tab rfl ?_)
  refine seal_eq rfl ?_
  first | rfl | simp_all
theorem isColumns_pf (n : Int) : PF Try.prog 37 [.int .i64 n] (.bool (inB n 0 6)) := by
  refine PF.text Try.func37 rfl rfl rfl fun B => ?_
  refine SC.seq ?_
  refine SC.region ?_
  refine RG.go tab 1 [] rfl ?_
  refine RG.nil ?_
  refine SC.seq ?_
  refine SC.region ?_
  refine RG.go tab 1 [] rfl ?_
  refine RG.pf rfl rfl (within_pf n 0 6) rfl ?_
  refine RG.go tab 1 [] rfl ?_
  refine RG.nil ?_
  refine SC.ret (End.ret tab rfl ?_)
  refine seal_eq rfl ?_
  first | rfl | simp_all
theorem isWeight_pf (n : Int) : PF Try.prog 41 [.int .i64 n] (.bool (isW n)) := by
  refine PF.text Try.func41 rfl rfl rfl fun B => ?_
  refine SC.seq ?_
  refine SC.region ?_
  refine RG.go tab 1 [] rfl ?_
  refine RG.nil ?_
  refine SC.seq ?_
  refine SC.region ?_
  refine RG.go tab 1 [] rfl ?_
  refine RG.pf rfl rfl (within_pf n (-1000000) 1000000) rfl ?_
  refine RG.go tab 1 [] rfl ?_
  refine RG.nil ?_
  refine SC.ret (End.ret tab rfl ?_)
  refine seal_eq rfl ?_
  first | rfl | simp_all
theorem l2Weight_pf (n : Int) : PF Try.prog 33 [.int .i64 n] (.bool (isW n)) := by
  refine PF.text Try.func33 rfl rfl rfl fun B => ?_
  refine SC.seq ?_
  refine SC.region ?_
  refine RG.go tab 1 [] rfl ?_
  refine RG.nil ?_
  refine SC.seq ?_
  refine SC.region ?_
  refine RG.go tab 1 [] rfl ?_
  refine RG.pf rfl rfl (l1In_pf n (-1000000) 1000000) rfl ?_
  refine RG.go tab 1 [] rfl ?_
  refine RG.nil ?_
  refine SC.ret (End.ret tab rfl ?_)
  refine seal_eq rfl ?_
  first | rfl | simp_all
theorem iGoodRow_pf (r : List Int) : PF Try.prog 80 [.agg [ints r]] (.bool (goodRow r)) := by
  refine PF.text Try.func80 rfl rfl rfl fun B => ?_
  refine SC.lenA 0 0 rfl (Nat.le_of_ble_eq_true rfl) rfl fun hlen0_0 => ?_
  refine SC.seq ?_
  refine SC.region ?_
  refine RG.go tab 2 [] rfl ?_
  refine RG.nil ?_
  refine SC.cut [(2, .bool ((decide ((r.length : Int) ≤ 6)) && (r.all (fun x : Int => inB x (-100000) 100000))))] [none] rfl ?_ ?_
  · refine SC.region ?_
    refine RG.go tab 5 [] rfl ?_
    refine RG.split 7 rfl fun b1 hb1 => ?_
    cases b1
    · try have hp1 := of_decide_eq_false hb1
      refine RG.go tab 5 [] rfl ?_
      refine RG.nil ?_
      exact ⟨Drop.mask [false] (rfl) trivial, (show AV.bool false = AV.bool ((decide ((r.length : Int) ≤ 6)) && (r.all (fun x : Int => inB x (-100000) 100000))) from by first | rfl | ((try simp only [Int.toNat_natCast] at hb1); first | (rw [hb1]; done) | (rw [hb1]; rfl)) | (simp only [hb1]; rfl) | simp_all), rfl, trivial⟩
    · try have hp1 := of_decide_eq_true hb1
      refine RG.go tab 2 [] rfl ?_
      refine RG.pf rfl rfl (areAll_int r (111) [] [] (fun x : Int => inB x (-100000) 100000) (fun x _ => isCell_pf x) rfl rfl) rfl ?_
      refine RG.go tab 2 [] rfl ?_
      refine RG.nil ?_
      exact ⟨Drop.mask [false] (rfl) trivial, (show AV.bool (r.all (fun x : Int => inB x (-100000) 100000)) = AV.bool ((decide ((r.length : Int) ≤ 6)) && (r.all (fun x : Int => inB x (-100000) 100000))) from by first | rfl | ((try simp only [Int.toNat_natCast] at hb1); first | (rw [hb1]; done) | (rw [hb1]; rfl)) | (simp only [hb1]; rfl) | simp_all), rfl, trivial⟩
  · refine SC.ret (End.ret tab rfl ?_)
    refine seal_eq rfl ?_
    unfold goodRow
    first | rfl | (congr 1; apply decide_eq_decide.2; omega) | (simp_all; done) | (rw [decide_eq_false (by omega)]; simp)
theorem isRowOf_pf (r : List Int) (c : Int) : PF Try.prog 40 [.agg [ints r], .int .i64 c] (.bool (rowOf r c)) := by
  refine PF.text Try.func40 rfl rfl rfl fun B => ?_
  refine SC.lenA 0 0 rfl (Nat.le_of_ble_eq_true rfl) rfl fun hlen0_0 => ?_
  refine SC.seq ?_
  refine SC.region ?_
  refine RG.go tab 2 [] rfl ?_
  refine RG.nil ?_
  refine SC.cut [(4, .bool ((goodRow r) && ((r.length : Int) == c)))] [none] rfl ?_ ?_
  · refine SC.region ?_
    refine RG.go tab 1 [] rfl ?_
    refine RG.pf rfl rfl (iGoodRow_pf r) rfl ?_
    refine RG.go tab 1 [] rfl ?_
    refine RG.split 7 rfl fun b1 hb1 => ?_
    cases b1
    · try have hp1 := of_decide_eq_false hb1
      refine RG.go tab 7 [] rfl ?_
      refine RG.nil ?_
      exact ⟨Drop.mask [false] (rfl) trivial, (show AV.bool false = AV.bool ((goodRow r) && ((r.length : Int) == c)) from by first | rfl | ((try simp only [Int.toNat_natCast] at hb1); first | (rw [hb1]; done) | (rw [hb1]; rfl)) | (simp only [hb1]; rfl) | simp_all), rfl, trivial⟩
    · try have hp1 := of_decide_eq_true hb1
      refine RG.go tab 7 [] rfl ?_
      refine RG.nil ?_
      exact ⟨Drop.mask [false] (rfl) trivial, (show AV.bool ((r.length : Int) == c) = AV.bool ((goodRow r) && ((r.length : Int) == c)) from by first | rfl | ((try simp only [Int.toNat_natCast] at hb1); first | (rw [hb1]; done) | (rw [hb1]; rfl)) | (simp only [hb1]; rfl) | simp_all), rfl, trivial⟩
  · refine SC.ret (End.ret tab rfl ?_)
    refine seal_eq rfl ?_
    first | rfl | simp_all [rowOf]
theorem sGoodRow_pf (r : List Int) : PF Try.prog 32 [.agg [ints r]] (.bool (goodRow r)) := by
  refine PF.text Try.func32 rfl rfl rfl fun B => ?_
  refine SC.lenA 0 0 rfl (Nat.le_of_ble_eq_true rfl) rfl fun hlen0_0 => ?_
  refine SC.seq ?_
  refine SC.region ?_
  refine RG.go tab 2 [] rfl ?_
  refine RG.nil ?_
  refine SC.seq ?_
  refine SC.seq ?_
  refine SC.region ?_
  refine RG.go tab 4 [] rfl ?_
  refine RG.nil ?_
  refine SC.block ?_
  refine SC.loop1 (fun (i : Nat) => r.length - i) (fun (i : Nat) => i ≤ r.length ∧ ∀ j, j < i → inB (r.getD j 0) (-100000) 100000 = true) (fun (i : Nat) => [(1, .ptr 0 1 0 0), (6, ints r), (7, .int .i64 (r.length : Int)), (8, .int .i64 ((i : Nat) : Int))]) (fun (i : Nat) => [some ⟨70, 1, [[ints r]]⟩]) 0 ⟨Nat.zero_le _, fun j hj => absurd hj (Nat.not_lt_zero _)⟩ (Drop.mask [true] (rfl) ⟨Sc.one rfl, trivial⟩) ⟨rfl, rfl, rfl, rfl, rfl, rfl, rfl, rfl, trivial⟩ (fun _ => Nat.le_of_ble_eq_true rfl) fun i hI0 => ?_
  obtain ⟨hi, hI⟩ := hI0
  refine SC.seq ?_
  refine SC.region ?_
  refine RG.go tab 1 [] rfl ?_
  refine RG.nil ?_
  refine SC.seq ?_
  refine SC.cond rfl (fun hb1 => ?_) (fun hb1 => ?_)
  · try simp only [decide_eq_true_eq] at hb1
    refine SC.skip ?_
    refine SC.seq ?_
    refine SC.block ?_
    refine SC.seq ?_
    refine SC.region ?_
    refine RG.ask tab 3 [] rfl (by (repeat' refine And.intro ?_ ?_) <;> first | rfl | omega | (unfold in64; omega) | (simp; done) | (simp; omega) | (simp at *; omega)) ?_
    refine RG.nil ?_
    refine SC.seq ?_
    refine SC.region ?_
    refine RG.go tab 1 [] rfl ?_
    refine RG.pf rfl rfl (l1In_pf (r.getD i 0) (-100000) 100000) rfl ?_
    refine RG.go tab 1 [] rfl ?_
    refine RG.nil ?_
    refine SC.cond rfl (fun hb2 => ?_) (fun hb2 => ?_)
    · try simp only [Bool.not_eq_eq_eq_not, Bool.not_true] at hb2
      refine SC.seq ?_
      refine SC.region ?_
      refine RG.go tab 1 [] rfl ?_
      refine RG.nil ?_
      refine SC.ret (End.ret tab rfl ?_)
      refine seal_eq rfl ?_
      unfold goodRow; rw [all_not (p := fun x => inB x (-100000) 100000) (i := i) (d := 0) (by omega) (by simpa using hb2), Bool.and_false]
    · try simp only [Bool.not_eq_eq_eq_not, Bool.not_false] at hb2
      refine SC.skip ?_
      refine SC.region ?_
      refine RG.ask tab 2 [] rfl (by (repeat' refine And.intro ?_ ?_) <;> first | rfl | omega | (unfold in64; omega) | (simp; done) | (simp; omega) | (simp at *; omega)) ?_
      refine RG.nil ?_
      refine ⟨i + 1, (by omega), ⟨by omega, fun j hj => (Nat.lt_succ_iff_lt_or_eq.1 hj).elim (fun h => hI j h) (fun h => by rw [h]; simpa using hb2)⟩, Drop.mask [true] (rfl) ⟨Sc.one rfl, trivial⟩, rfl, rfl, rfl, rfl, rfl, rfl, rfl, rfl, trivial⟩
  · try simp only [decide_eq_false_iff_not, Int.not_lt] at hb1
    refine SC.exit ?_
    refine SC.seq ?_
    refine SC.region ?_
    refine RG.go tab 5 [] rfl ?_
    refine RG.nil ?_
    refine SC.ret (End.ret tab rfl ?_)
    refine seal_eq rfl ?_
    unfold goodRow; rw [all_drop hI (by omega), Bool.and_true]
theorem isNaN_pf (x : Int) : PF Try.prog 136 [.int .i64 x] (.bool false) := by
  refine PF.text Try.func136 rfl rfl rfl fun B => ?_
  refine SC.seq ?_
  refine SC.region ?_
  refine RG.go tab 1 [] rfl ?_
  refine RG.nil ?_
  refine SC.seq ?_
  refine SC.region ?_
  refine RG.go tab 4 [] rfl ?_
  refine RG.nil ?_
  refine SC.ret (End.ret tab rfl ?_)
  refine seal_eq rfl ?_
  simp
theorem cmpCompare_pf (x : Int) (y : Int) : PF Try.prog 130 [.int .i64 x, .int .i64 y] (.int .i64 (cmpI x y)) := by
  refine PF.text Try.func130 rfl rfl rfl fun B => ?_
  refine SC.seq ?_
  refine SC.region ?_
  refine RG.go tab 1 [] rfl ?_
  refine RG.nil ?_
  refine SC.seq ?_
  refine SC.region ?_
  refine RG.go tab 1 [] rfl ?_
  refine RG.pf rfl rfl (isNaN_pf x) rfl ?_
  refine RG.go tab 1 [] rfl ?_
  refine RG.nil ?_
  refine SC.seq ?_
  refine SC.region ?_
  refine RG.go tab 1 [] rfl ?_
  refine RG.pf rfl rfl (isNaN_pf y) rfl ?_
  refine RG.go tab 1 [] rfl ?_
  refine RG.nil ?_
  refine SC.seq ?_
  refine SC.seq ?_
  refine SC.region ?_
  refine RG.go tab 1 [] rfl ?_
  refine RG.nil ?_
  refine SC.cond rfl (fun hb1 => ?_) (fun hb1 => ?_)
  · try simp only [decide_eq_true_eq, decide_eq_false_iff_not, Bool.not_eq_true, Bool.not_eq_false, Bool.not_eq_eq_eq_not, Bool.not_true, Bool.not_false, beq_iff_eq, bne_iff_ne, ne_eq, Bool.and_eq_true, Bool.or_eq_true, Bool.and_eq_false_imp, Bool.or_eq_false_iff, Int.toNat_natCast, beq_eq_false_iff_ne, Decidable.not_not, bne_eq_false_iff_eq, Int.not_lt, Int.not_le] at hb1
    refine SC.seq ?_
    refine SC.seq ?_
    refine SC.region ?_
    refine RG.go tab 1 [] rfl ?_
    refine RG.nil ?_
    refine SC.cond rfl (fun hb2 => ?_) (fun hb2 => ?_)
    · try simp only [decide_eq_true_eq, decide_eq_false_iff_not, Bool.not_eq_true, Bool.not_eq_false, Bool.not_eq_eq_eq_not, Bool.not_true, Bool.not_false, beq_iff_eq, bne_iff_ne, ne_eq, Bool.and_eq_true, Bool.or_eq_true, Bool.and_eq_false_imp, Bool.or_eq_false_iff, Int.toNat_natCast, beq_eq_false_iff_ne, Decidable.not_not, bne_eq_false_iff_eq, Int.not_lt, Int.not_le] at hb2
      refine SC.seq ?_
      refine SC.region ?_
      refine RG.go tab 1 [] rfl ?_
      refine RG.nil ?_
      refine SC.ret (End.ret tab rfl ?_)
      refine seal_eq rfl ?_
      unfold cmpI; (repeat' split) <;> first | rfl | omega | simp_all
    · try simp only [] at hb2
      refine SC.skip ?_
      refine SC.seq ?_
      refine SC.region ?_
      refine RG.go tab 1 [] rfl ?_
      refine RG.nil ?_
      refine SC.ret (End.ret tab rfl ?_)
      refine seal_eq rfl ?_
      unfold cmpI; (repeat' split) <;> first | rfl | omega | simp_all
  · try simp only [] at hb1
    refine SC.skip ?_
    refine SC.seq ?_
    refine SC.seq ?_
    refine SC.region ?_
    refine RG.go tab 1 [] rfl ?_
    refine RG.nil ?_
    refine SC.cond rfl (fun hb3 => ?_) (fun hb3 => ?_)
    · try simp only [decide_eq_true_eq, decide_eq_false_iff_not, Bool.not_eq_true, Bool.not_eq_false, Bool.not_eq_eq_eq_not, Bool.not_true, Bool.not_false, beq_iff_eq, bne_iff_ne, ne_eq, Bool.and_eq_true, Bool.or_eq_true, Bool.and_eq_false_imp, Bool.or_eq_false_iff, Int.toNat_natCast, beq_eq_false_iff_ne, Decidable.not_not, bne_eq_false_iff_eq, Int.not_lt, Int.not_le] at hb3
      refine SC.seq ?_
      refine SC.region ?_
      refine RG.go tab 1 [] rfl ?_
      refine RG.nil ?_
      refine SC.ret (End.ret tab rfl ?_)
      refine seal_eq rfl ?_
      unfold cmpI; (repeat' split) <;> first | rfl | omega | simp_all
    · try simp only [] at hb3
      refine SC.skip ?_
      refine SC.seq ?_
      refine SC.seq ?_
      refine SC.region ?_
      refine RG.go tab 3 [] rfl ?_
      refine RG.nil ?_
      refine SC.cond rfl (fun hb4 => ?_) (fun hb4 => ?_)
      · try simp only [decide_eq_true_eq] at hb4
        refine SC.seq ?_
        refine SC.region ?_
        refine RG.go tab 1 [] rfl ?_
        refine RG.nil ?_
        refine SC.ret (End.ret tab rfl ?_)
        refine seal_eq rfl ?_
        unfold cmpI; (repeat' split) <;> first | rfl | omega | simp_all
      · try simp only [decide_eq_false_iff_not, Int.not_lt] at hb4
        refine SC.skip ?_
        refine SC.seq ?_
        refine SC.seq ?_
        refine SC.region ?_
        refine RG.go tab 3 [] rfl ?_
        refine RG.nil ?_
        refine SC.cond rfl (fun hb5 => ?_) (fun hb5 => ?_)
        · try simp only [decide_eq_true_eq] at hb5
          refine SC.seq ?_
          refine SC.region ?_
          refine RG.go tab 1 [] rfl ?_
          refine RG.nil ?_
          refine SC.ret (End.ret tab rfl ?_)
          refine seal_eq rfl ?_
          unfold cmpI; (repeat' split) <;> first | rfl | omega | simp_all
        · try simp only [decide_eq_false_iff_not, Int.not_lt] at hb5
          refine SC.skip ?_
          refine SC.seq ?_
          refine SC.region ?_
          refine RG.go tab 1 [] rfl ?_
          refine RG.nil ?_
          refine SC.ret (End.ret tab rfl ?_)
          refine seal_eq rfl ?_
          unfold cmpI; (repeat' split) <;> first | rfl | omega | simp_all
theorem cmpL_drop {a b : List Int} {i : Nat} (ha : i < a.length) (hb : i < b.length) : cmpL (a.drop i) (b.drop i) = if a.getD i 0 < b.getD i 0 then -1 else if b.getD i 0 < a.getD i 0 then 1 else cmpL (a.drop (i + 1)) (b.drop (i + 1)) := by
  rw [drop_getD 0 ha, drop_getD 0 hb]; rfl
theorem cmpL_end {a b : List Int} {i : Nat} (h : i ≥ a.length) : cmpL (a.drop i) (b.drop i) = if i < b.length then -1 else 0 := by
  rw [List.drop_eq_nil_of_le h]
  split
  · rw [drop_getD 0 (by assumption)]; rfl
  · rw [List.drop_eq_nil_of_le (by omega)]; rfl
theorem cmpL_end2 {a b : List Int} {i : Nat} (h : i ≥ b.length) (ha : i < a.length) : cmpL (a.drop i) (b.drop i) = 1 := by
  rw [List.drop_eq_nil_of_le h, drop_getD 0 ha]; rfl
theorem sliceCompare_pf (a : List Int) (b : List Int) : PF Try.prog 114 [ints a, ints b] (.int .i64 (cmpL a b)) := by
  refine PF.text Try.func114 rfl rfl rfl fun B => ?_
  refine SC.len 0 rfl fun hlen0 => ?_
  refine SC.len 1 rfl fun hlen1 => ?_
  refine SC.seq ?_
  refine SC.region ?_
  refine RG.go tab 1 [] rfl ?_
  refine RG.nil ?_
  refine SC.seq ?_
  refine SC.seq ?_
  refine SC.region ?_
  refine RG.go tab 3 [] rfl ?_
  refine RG.nil ?_
  refine SC.block ?_
  refine SC.loop1 (fun (i : Nat) => a.length - i) (fun (i : Nat) => i ≤ a.length ∧ i ≤ b.length ∧ cmpL (a.drop i) (b.drop i) = cmpL a b) (fun (i : Nat) => [(0, ints a), (1, ints b), (9, ints a), (10, .int .i64 (a.length : Int)), (11, .int .i64 ((i : Nat) : Int))]) (fun (i : Nat) => []) 0 ⟨Nat.zero_le _, Nat.zero_le _, rfl⟩ (Drop.none0) ⟨rfl, rfl, rfl, rfl, rfl, rfl, rfl, rfl, rfl, rfl, trivial⟩ (fun _ => Nat.le_of_ble_eq_true rfl) fun i hI0 => ?_
  obtain ⟨hia, hib, hI⟩ := hI0
  refine SC.seq ?_
  refine SC.region ?_
  refine RG.go tab 1 [] rfl ?_
  refine RG.nil ?_
  refine SC.seq ?_
  refine SC.cond rfl (fun hb1 => ?_) (fun hb1 => ?_)
  · try simp only [decide_eq_true_eq] at hb1
    refine SC.skip ?_
    refine SC.seq ?_
    refine SC.block ?_
    refine SC.seq ?_
    refine SC.region ?_
    refine RG.ask tab 5 [] rfl (by (repeat' refine And.intro ?_ ?_) <;> first | rfl | omega | (unfold in64; omega) | (simp; done) | (simp; omega) | (simp at *; omega)) ?_
    refine RG.nil ?_
    refine SC.seq ?_
    refine SC.seq ?_
    refine SC.region ?_
    refine RG.go tab 4 [] rfl ?_
    refine RG.nil ?_
    refine SC.cond rfl (fun hb2 => ?_) (fun hb2 => ?_)
    · try simp only [decide_eq_true_eq] at hb2
      refine SC.seq ?_
      refine SC.region ?_
      refine RG.go tab 1 [] rfl ?_
      refine RG.nil ?_
      refine SC.ret (End.ret tab rfl ?_)
      refine seal_eq rfl ?_
      rw [← hI]
      first | (rw [cmpL_drop (by omega) (by omega)]; (repeat' split) <;> first | rfl | omega) | (rw [cmpL_end (by omega)]; (repeat' split) <;> first | rfl | omega) | (rw [cmpL_end2 (by omega) (by omega)])
    · try simp only [decide_eq_false_iff_not, Int.not_le] at hb2
      refine SC.skip ?_
      refine SC.seq ?_
      refine SC.region ?_
      refine RG.ask tab 5 [] rfl (by (repeat' refine And.intro ?_ ?_) <;> first | rfl | omega | (unfold in64; omega) | (simp; done) | (simp; omega) | (simp at *; omega)) ?_
      refine RG.nil ?_
      refine SC.seq ?_
      refine SC.region ?_
      refine RG.go tab 2 [] rfl ?_
      refine RG.pf rfl rfl (cmpCompare_pf (a.getD i 0) (b.getD i 0)) rfl ?_
      refine RG.go tab 1 [] rfl ?_
      refine RG.nil ?_
      refine SC.seq ?_
      refine SC.region ?_
      refine RG.go tab 2 [] rfl ?_
      refine RG.nil ?_
      refine SC.cond rfl (fun hb3 => ?_) (fun hb3 => ?_)
      · try simp only [bne_iff_ne, ne_eq] at hb3
        refine SC.seq ?_
        refine SC.region ?_
        refine RG.go tab 2 [] rfl ?_
        refine RG.nil ?_
        refine SC.ret (End.ret tab rfl ?_)
        refine seal_eq rfl ?_
        rw [← hI, cmpL_drop (by omega) (by omega)]
        unfold cmpI at *; (repeat' split) <;> first | rfl | omega | simp_all
      · try simp only [bne_eq_false_iff_eq] at hb3
        refine SC.skip ?_
        refine SC.region ?_
        refine RG.ask tab 2 [] rfl (by (repeat' refine And.intro ?_ ?_) <;> first | rfl | omega | (unfold in64; omega) | (simp; done) | (simp; omega) | (simp at *; omega)) ?_
        refine RG.nil ?_
        refine ⟨i + 1, (by omega), ⟨by omega, by omega, by rw [← hI, cmpL_drop (a := a) (b := b) (i := i) (by omega) (by omega)]; unfold cmpI at hb3; (repeat' split) <;> first | rfl | omega | simp_all⟩, Drop.none0, rfl, rfl, rfl, rfl, rfl, rfl, rfl, rfl, rfl, rfl, trivial⟩
  · try simp only [decide_eq_false_iff_not, Int.not_lt] at hb1
    refine SC.exit ?_
    refine SC.seq ?_
    refine SC.seq ?_
    refine SC.region ?_
    refine RG.go tab 5 [] rfl ?_
    refine RG.nil ?_
    refine SC.cond rfl (fun hb4 => ?_) (fun hb4 => ?_)
    · try simp only [decide_eq_true_eq] at hb4
      refine SC.seq ?_
      refine SC.region ?_
      refine RG.go tab 1 [] rfl ?_
      refine RG.nil ?_
      refine SC.ret (End.ret tab rfl ?_)
      refine seal_eq rfl ?_
      rw [← hI]
      first | (rw [cmpL_drop (by omega) (by omega)]; (repeat' split) <;> first | rfl | omega) | (rw [cmpL_end (by omega)]; (repeat' split) <;> first | rfl | omega) | (rw [cmpL_end2 (by omega) (by omega)])
    · try simp only [decide_eq_false_iff_not, Int.not_lt] at hb4
      refine SC.skip ?_
      refine SC.seq ?_
      refine SC.region ?_
      refine RG.go tab 1 [] rfl ?_
      refine RG.nil ?_
      refine SC.ret (End.ret tab rfl ?_)
      refine seal_eq rfl ?_
      rw [← hI]
      first | (rw [cmpL_drop (by omega) (by omega)]; (repeat' split) <;> first | rfl | omega) | (rw [cmpL_end (by omega)]; (repeat' split) <;> first | rfl | omega) | (rw [cmpL_end2 (by omega) (by omega)])
theorem compareRows_pf (a : List Int) (b : List Int) : PF Try.prog 85 [.agg [ints a], .agg [ints b]] (.int .i64 (cmpL a b)) := by
  refine PF.text Try.func85 rfl rfl rfl fun B => ?_
  refine SC.lenA 0 0 rfl (Nat.le_of_ble_eq_true rfl) rfl fun hlen0_0 => ?_
  refine SC.lenA 1 0 rfl (Nat.le_of_ble_eq_true rfl) rfl fun hlen1_0 => ?_
  refine SC.seq ?_
  refine SC.region ?_
  refine RG.go tab 3 [] rfl ?_
  refine RG.nil ?_
  refine SC.seq ?_
  refine SC.region ?_
  refine RG.go tab 4 [] rfl ?_
  refine RG.pf rfl rfl (sliceCompare_pf a b) rfl ?_
  refine RG.go tab 1 [] rfl ?_
  refine RG.nil ?_
  refine SC.ret (End.ret tab rfl ?_)
  refine seal_eq rfl ?_
  first | rfl | simp_all
theorem l1Compare_pf (a : List Int) (b : List Int) : PF Try.prog 73 [.agg [ints a], .agg [ints b]] (.int .i64 (cmpL a b)) := by
  refine PF.text Try.func73 rfl rfl rfl fun B => ?_
  refine SC.lenA 0 0 rfl (Nat.le_of_ble_eq_true rfl) rfl fun hlen0_0 => ?_
  refine SC.lenA 1 0 rfl (Nat.le_of_ble_eq_true rfl) rfl fun hlen1_0 => ?_
  refine SC.seq ?_
  refine SC.region ?_
  refine RG.go tab 3 [] rfl ?_
  refine RG.nil ?_
  refine SC.seq ?_
  refine SC.seq ?_
  refine SC.region ?_
  refine RG.go tab 1 [] rfl ?_
  refine RG.nil ?_
  refine SC.block ?_
  refine SC.loop1 (fun (i : Nat) => a.length - i) (fun (i : Nat) => i ≤ a.length ∧ i ≤ b.length ∧ cmpL (a.drop i) (b.drop i) = cmpL a b) (fun (i : Nat) => [(2, .ptr 0 1 0 0), (3, .ptr 1 1 0 0), (5, .int .i64 ((i : Nat) : Int))]) (fun (i : Nat) => [some ⟨70, 1, [[ints a]]⟩, some ⟨70, 1, [[ints b]]⟩]) 0 ⟨Nat.zero_le _, Nat.zero_le _, rfl⟩ (Drop.mask [true, true] (rfl) ⟨Sc.one rfl, Sc.one rfl, trivial⟩) ⟨rfl, rfl, rfl, rfl, rfl, rfl, trivial⟩ (fun _ => Nat.le_of_ble_eq_true rfl) fun i hI0 => ?_
  obtain ⟨hia, hib, hI⟩ := hI0
  refine SC.seq ?_
  refine SC.cut [(2, .ptr 0 1 0 0), (3, .ptr 1 1 0 0), (5, .int .i64 ((i : Nat) : Int)), (17, .bool ((decide (((i : Nat) : Int) < (a.length : Int))) && (decide (((i : Nat) : Int) < (b.length : Int)))))] [some ⟨70, 1, [[ints a]]⟩, some ⟨70, 1, [[ints b]]⟩] rfl ?_ ?_
  · refine SC.region ?_
    refine RG.go tab 6 [] rfl ?_
    refine RG.split 11 rfl fun b1 hb1 => ?_
    cases b1
    · try have hp1 := of_decide_eq_false hb1
      refine RG.go tab 6 [] rfl ?_
      refine RG.nil ?_
      exact ⟨Drop.mask [true, true] (rfl) ⟨Sc.one rfl, Sc.one rfl, trivial⟩, rfl, rfl, rfl, rfl, rfl, rfl, (show AV.bool false = AV.bool ((decide (((i : Nat) : Int) < (a.length : Int))) && (decide (((i : Nat) : Int) < (b.length : Int)))) from by first | rfl | ((try simp only [Int.toNat_natCast] at hb1); first | (rw [hb1]; done) | (rw [hb1]; rfl)) | (simp only [hb1]; rfl) | simp_all), rfl, trivial⟩
    · try have hp1 := of_decide_eq_true hb1
      refine RG.go tab 6 [] rfl ?_
      refine RG.nil ?_
      exact ⟨Drop.mask [true, true] (rfl) ⟨Sc.one rfl, Sc.one rfl, trivial⟩, rfl, rfl, rfl, rfl, rfl, rfl, (show AV.bool (decide (((i : Nat) : Int) < (b.length : Int))) = AV.bool ((decide (((i : Nat) : Int) < (a.length : Int))) && (decide (((i : Nat) : Int) < (b.length : Int)))) from by first | rfl | ((try simp only [Int.toNat_natCast] at hb1); first | (rw [hb1]; done) | (rw [hb1]; rfl)) | (simp only [hb1]; rfl) | simp_all), rfl, trivial⟩
  · refine SC.cond rfl (fun hb2 => ?_) (fun hb2 => ?_)
    · try simp only [decide_eq_true_eq, Bool.and_eq_true] at hb2
      refine SC.skip ?_
      refine SC.seq ?_
      refine SC.block ?_
      refine SC.seq ?_
      refine SC.seq ?_
      refine SC.drawn tab [] (fun _ => .none) [] [] [0, 1, 2, 3, 4, 5, 6, 7, 8, 9, 10] 58 rfl mixed (by decide +kernel) ?_
      refine QR.ask 11 rfl (by (repeat' refine And.intro ?_ ?_) <;> first | rfl | omega | (unfold in64; omega) | (simp; done) | (simp; omega) | (simp at *; omega)) ?_
      refine QR.nil ?_
      refine SC.cond rfl (fun hb3 => ?_) (fun hb3 => ?_)
      · try simp only [decide_eq_true_eq, Int.toNat_natCast] at hb3
        refine SC.seq ?_
        refine SC.region ?_
        refine RG.go tab 1 [] rfl ?_
        refine RG.nil ?_
        refine SC.ret (End.ret tab rfl ?_)
        refine seal_eq rfl ?_
        rw [← hI]
        first | (rw [cmpL_drop (by omega) (by omega)]; (repeat' split) <;> first | rfl | omega) | (rw [cmpL_end (by omega)]; (repeat' split) <;> first | rfl | omega) | (rw [cmpL_end2 (by omega) (by omega)])
      · try simp only [decide_eq_false_iff_not, Int.toNat_natCast, Int.not_lt] at hb3
        refine SC.skip ?_
        refine SC.seq ?_
        refine SC.drawn tab [] (fun _ => .none) [] [] [0, 1, 2, 3, 4, 5, 6, 7, 8, 9, 10] 58 rfl mixed (by decide +kernel) ?_
        refine QR.ask 11 rfl (by (repeat' refine And.intro ?_ ?_) <;> first | rfl | omega | (unfold in64; omega) | (simp; done) | (simp; omega) | (simp at *; omega)) ?_
        refine QR.nil ?_
        refine SC.cond rfl (fun hb4 => ?_) (fun hb4 => ?_)
        · try simp only [decide_eq_true_eq, Int.toNat_natCast] at hb4
          refine SC.seq ?_
          refine SC.region ?_
          refine RG.go tab 1 [] rfl ?_
          refine RG.nil ?_
          refine SC.ret (End.ret tab rfl ?_)
          refine seal_eq rfl ?_
          rw [← hI]
          first | (rw [cmpL_drop (by omega) (by omega)]; (repeat' split) <;> first | rfl | omega) | (rw [cmpL_end (by omega)]; (repeat' split) <;> first | rfl | omega) | (rw [cmpL_end2 (by omega) (by omega)])
        · try simp only [decide_eq_false_iff_not, Int.toNat_natCast, Int.not_lt] at hb4
          refine SC.skip ?_
          refine SC.region ?_
          refine RG.ask tab 3 [] rfl (by (repeat' refine And.intro ?_ ?_) <;> first | rfl | omega | (unfold in64; omega) | (simp; done) | (simp; omega) | (simp at *; omega)) ?_
          refine RG.nil ?_
          refine ⟨i + 1, (by omega), ⟨by omega, by omega, by rw [← hI, cmpL_drop (a := a) (b := b) (i := i) (by omega) (by omega)]; (repeat' split) <;> first | rfl | omega⟩, Drop.mask [true, true] (rfl) ⟨Sc.one rfl, Sc.one rfl, trivial⟩, rfl, rfl, rfl, rfl, rfl, rfl, trivial⟩
    · try simp only [decide_eq_true_eq, decide_eq_false_iff_not, Bool.and_eq_false_imp, Int.not_lt] at hb2
      refine SC.exit ?_
      refine SC.seq ?_
      refine SC.block ?_
      refine SC.seq ?_
      refine SC.region ?_
      refine RG.go tab 8 [] rfl ?_
      refine RG.nil ?_
      refine SC.cond rfl (fun hb5 => ?_) (fun hb5 => ?_)
      · try simp only [decide_eq_true_eq] at hb5
        refine SC.seq ?_
        refine SC.region ?_
        refine RG.go tab 1 [] rfl ?_
        refine RG.nil ?_
        refine SC.ret (End.ret tab rfl ?_)
        refine seal_eq rfl ?_
        rw [← hI]
        first | (rw [cmpL_drop (by omega) (by omega)]; (repeat' split) <;> first | rfl | omega) | (rw [cmpL_end (by omega)]; (repeat' split) <;> first | rfl | omega) | (rw [cmpL_end2 (by omega) (by omega)])
      · try simp only [decide_eq_false_iff_not, Int.not_lt] at hb5
        refine SC.seq ?_
        refine SC.region ?_
        refine RG.go tab 8 [] rfl ?_
        refine RG.nil ?_
        refine SC.cond rfl (fun hb6 => ?_) (fun hb6 => ?_)
        · try simp only [decide_eq_true_eq] at hb6
          refine SC.seq ?_
          refine SC.region ?_
          refine RG.go tab 1 [] rfl ?_
          refine RG.nil ?_
          refine SC.ret (End.ret tab rfl ?_)
          refine seal_eq rfl ?_
          rw [← hI]
          first | (rw [cmpL_drop (by omega) (by omega)]; (repeat' split) <;> first | rfl | omega) | (rw [cmpL_end (by omega)]; (repeat' split) <;> first | rfl | omega) | (rw [cmpL_end2 (by omega) (by omega)])
        · try simp only [decide_eq_false_iff_not, Int.not_lt] at hb6
          refine SC.skip ?_
          refine SC.seq ?_
          refine SC.region ?_
          refine RG.go tab 1 [] rfl ?_
          refine RG.nil ?_
          refine SC.ret (End.ret tab rfl ?_)
          refine seal_eq rfl ?_
          rw [← hI]
          first | (rw [cmpL_drop (by omega) (by omega)]; (repeat' split) <;> first | rfl | omega) | (rw [cmpL_end (by omega)]; (repeat' split) <;> first | rfl | omega) | (rw [cmpL_end2 (by omega) (by omega)])
theorem toNat_pred (i : Nat) : ((i : Int) - 1).toNat = i - 1 := by omega
theorem rowOf_eq (r : List Int) (c : Int) : rowOf r c = (goodRow r && decide ((r.length : Int) = c)) := rfl
theorem gAt_eq (c : Int) (l : List Wt) (i : Nat) : (!rowOf (l.getD i ([], 0)).1 c || !isW (l.getD i ([], 0)).2 || (l.getD i ([], 0)).2 == 0 || (decide ((i : Int) > 0) && decide (cmpL (l.getD (i - 1) ([], 0)).1 (l.getD i ([], 0)).1 ≥ 0))) = !gAt c l i := by
  unfold gAt
  have e1 : decide ((i : Int) > 0) = !decide (i = 0) := by rw [← decide_not]; exact decide_eq_decide.2 (by omega)
  have e2 : ∀ x : Int, decide (x ≥ 0) = !decide (x < 0) := fun x => by rw [← decide_not]; exact decide_eq_decide.2 (by omega)
  rw [e1, e2]
  cases rowOf (l.getD i ([], 0)).1 c <;> cases isW (l.getD i ([], 0)).2 <;> cases ((l.getD i ([], 0)).2 == 0) <;> cases decide (i = 0) <;> simp
theorem gAt_eq2 (c : Int) (l : List Wt) (i : Nat) : (!goodRow (l.getD i ([], 0)).1 || ((l.getD i ([], 0)).1.length : Int) != c || !isW (l.getD i ([], 0)).2 || (l.getD i ([], 0)).2 == 0 || (decide ((i : Int) > 0) && decide (cmpL (l.getD (i - 1) ([], 0)).1 (l.getD i ([], 0)).1 ≥ 0))) = !gAt c l i := by
  rw [← gAt_eq]
  unfold rowOf bne
  cases goodRow (l.getD i ([], 0)).1 <;> simp
theorem iGoodTable_pf (t : Int × List (List Int × Int)) : PF Try.prog 81 [.agg [.int .i64 t.1, vWeightedS t.2]] (.bool (goodTb t)) := by
  refine PF.text Try.func81 rfl rfl rfl fun B => ?_
  refine SC.lenA 0 1 rfl (Nat.le_of_ble_eq_true rfl) rfl fun hlen0_1 => ?_
  refine SC.seq ?_
  refine SC.region ?_
  refine RG.go tab 2 [] rfl ?_
  refine RG.nil ?_
  refine SC.seq ?_
  refine SC.cut [(1, .ptr 0 1 0 0), (14, .bool ((!(inB t.1 0 6)) || (decide ((t.2.length : Int) > 60))))] [some ⟨26, 2, [[.int .i64 t.1, vWeightedS t.2]]⟩] rfl ?_ ?_
  · refine SC.region ?_
    refine RG.go tab 2 [] rfl ?_
    refine RG.pf rfl rfl (isColumns_pf t.1) rfl ?_
    refine RG.go tab 2 [] rfl ?_
    refine RG.split 9 rfl fun b1 hb1 => ?_
    cases b1
    · try have hp1 := of_decide_eq_false hb1
      refine RG.go tab 5 [] rfl ?_
      refine RG.nil ?_
      exact ⟨Drop.mask [true] (rfl) ⟨Sc.one rfl, trivial⟩, rfl, rfl, (show AV.bool (decide ((t.2.length : Int) > 60)) = AV.bool ((!(inB t.1 0 6)) || (decide ((t.2.length : Int) > 60))) from by first | rfl | ((try simp only [Int.toNat_natCast] at hb1); first | (rw [hb1]; done) | (rw [hb1]; rfl)) | (simp only [hb1]; rfl) | simp_all), rfl, trivial⟩
    · try have hp1 := of_decide_eq_true hb1
      refine RG.go tab 5 [] rfl ?_
      refine RG.nil ?_
      exact ⟨Drop.mask [true] (rfl) ⟨Sc.one rfl, trivial⟩, rfl, rfl, (show AV.bool true = AV.bool ((!(inB t.1 0 6)) || (decide ((t.2.length : Int) > 60))) from by first | rfl | ((try simp only [Int.toNat_natCast] at hb1); first | (rw [hb1]; done) | (rw [hb1]; rfl)) | (simp only [hb1]; rfl) | simp_all), rfl, trivial⟩
  · refine SC.cond rfl (fun hb2 => ?_) (fun hb2 => ?_)
    · try simp only [decide_eq_true_eq, Bool.not_eq_eq_eq_not, Bool.not_true, Bool.or_eq_true] at hb2
      refine SC.seq ?_
      refine SC.region ?_
      refine RG.go tab 1 [] rfl ?_
      refine RG.nil ?_
      refine SC.ret (End.ret tab rfl ?_)
      refine seal_eq rfl ?_
      unfold goodTb
      rcases hb2 with h | h
      · rw [h]; rfl
      · rw [decide_eq_false (by omega), Bool.and_false]; rfl
    · try simp only [decide_eq_false_iff_not, Bool.not_eq_eq_eq_not, Bool.not_false, Bool.or_eq_false_iff, Int.not_lt] at hb2
      refine SC.skip ?_
      refine SC.seq ?_
      refine SC.seq ?_
      refine SC.region ?_
      refine RG.go tab 4 [] rfl ?_
      refine RG.nil ?_
      refine SC.block ?_
      refine SC.loop1 (fun (i : Nat) => t.2.length - i) (fun (i : Nat) => i ≤ t.2.length ∧ ∀ j, j < i → gAt t.1 t.2 j = true) (fun (i : Nat) => [(1, .ptr 0 1 0 0), (16, vWeightedS t.2), (17, .int .i64 (t.2.length : Int)), (18, .int .i64 ((i : Nat) : Int))]) (fun (i : Nat) => [some ⟨26, 2, [[.int .i64 t.1, vWeightedS t.2]]⟩]) 0 ⟨Nat.zero_le _, fun j hj => absurd hj (Nat.not_lt_zero _)⟩ (Drop.mask [true] (rfl) ⟨Sc.one rfl, trivial⟩) ⟨rfl, rfl, rfl, rfl, rfl, rfl, rfl, rfl, trivial⟩ (fun _ => Nat.le_of_ble_eq_true rfl) fun i hI0 => ?_
      obtain ⟨hi, hI⟩ := hI0
      refine SC.seq ?_
      refine SC.region ?_
      refine RG.go tab 1 [] rfl ?_
      refine RG.nil ?_
      refine SC.seq ?_
      refine SC.cond rfl (fun hb3 => ?_) (fun hb3 => ?_)
      · try simp only [decide_eq_true_eq] at hb3
        refine SC.skip ?_
        refine SC.seq ?_
        refine SC.block ?_
        refine SC.seq ?_
        refine SC.region ?_
        refine RG.ask tab 6 [] rfl (by (repeat' refine And.intro ?_ ?_) <;> first | rfl | omega | (unfold in64; omega) | (simp; done) | (simp; omega) | (simp at *; omega)) ?_
        refine RG.nil ?_
        refine SC.cut [(1, .ptr 0 1 0 0), (16, vWeightedS t.2), (17, .int .i64 (t.2.length : Int)), (18, .int .i64 ((i : Nat) : Int)), (56, .bool ((((!(rowOf ((t.2.getD i ([], 0)).1) t.1)) || (!(isW ((t.2.getD i ([], 0)).2)))) || (((t.2.getD i ([], 0)).2 : Int) == 0)) || ((decide (((i : Nat) : Int) > 0)) && (decide ((cmpL ((t.2.getD ((((i : Nat) : Int) - 1).toNat) ([], 0)).1) ((t.2.getD i ([], 0)).1) : Int) ≥ 0)))))] [some ⟨26, 2, [[.int .i64 t.1, vWeightedS t.2]]⟩, none] rfl ?_ ?_
        · refine SC.drawn tab [] (fun kk => if kk = 4 then .pf (.bool (rowOf ((t.2.getD i ([], 0)).1) t.1)) else if kk = 9 then .pf (.bool (isW ((t.2.getD i ([], 0)).2))) else if kk = 30 then .pf (.int .i64 (cmpL ((t.2.getD ((((i : Nat) : Int) - 1).toNat) ([], 0)).1) ((t.2.getD i ([], 0)).1))) else .none) [] [] [0, 1, 2, 3, 4, 5, 6, 7, 8, 9, 10, 11, 12, 13, 14, 15, 16, 17, 18, 19, 20, 21, 22, 23, 24, 25, 26, 27, 28, 29, 30, 31, 32, 33] 58 rfl mixed (by decide +kernel) ?_
          refine QR.go 4 rfl ?_
          refine QR.pfc rfl rfl (isRowOf_pf ((t.2.getD i ([], 0)).1) t.1) rfl ?_
          refine QR.go 2 rfl ?_
          refine QR.split 29 rfl fun b4 hb4 => ?_
          cases b4
          · try have hp4 := of_decide_eq_false hb4
            refine QR.go 2 rfl ?_
            refine QR.pfc rfl rfl (isWeight_pf ((t.2.getD i ([], 0)).2)) rfl ?_
            refine QR.go 3 rfl ?_
            refine QR.split 35 rfl fun b5 hb5 => ?_
            cases b5
            · try have hp5 := of_decide_eq_false hb5
              refine QR.go 5 rfl ?_
              refine QR.split 40 rfl fun b6 hb6 => ?_
              cases b6
              · try have hp6 := of_decide_eq_false hb6
                refine QR.go 3 rfl ?_
                refine QR.split 43 rfl fun b7 hb7 => ?_
                cases b7
                · try have hp7 := of_decide_eq_false hb7
                  refine QR.go 13 rfl ?_
                  refine QR.nil ?_
                  exact ⟨Drop.mask [true, false] (rfl) ⟨Sc.one rfl, trivial⟩, rfl, rfl, rfl, rfl, rfl, rfl, rfl, rfl, (show AV.bool false = AV.bool ((((!(rowOf ((t.2.getD i ([], 0)).1) t.1)) || (!(isW ((t.2.getD i ([], 0)).2)))) || (((t.2.getD i ([], 0)).2 : Int) == 0)) || ((decide (((i : Nat) : Int) > 0)) && (decide ((cmpL ((t.2.getD ((((i : Nat) : Int) - 1).toNat) ([], 0)).1) ((t.2.getD i ([], 0)).1) : Int) ≥ 0)))) from by first | rfl | ((try simp only [Int.toNat_natCast] at hb4); (try simp only [Int.toNat_natCast] at hb5); (try simp only [Int.toNat_natCast] at hb6); (try simp only [Int.toNat_natCast] at hb7); first | (rw [hb4, hb5, hb6, hb7]; done) | (rw [hb4, hb5, hb6, hb7]; rfl)) | (simp only [hb4, hb5, hb6, hb7]; rfl) | simp_all), rfl, trivial⟩
                · try have hp7 := of_decide_eq_true hb7
                  refine QR.ask 9 rfl (by (repeat' refine And.intro ?_ ?_) <;> first | rfl | omega | (unfold in64; omega) | (simp; done) | (simp; omega) | (simp at *; omega)) ?_
                  refine QR.pfc rfl rfl (compareRows_pf ((t.2.getD ((((i : Nat) : Int) - 1).toNat) ([], 0)).1) ((t.2.getD i ([], 0)).1)) rfl ?_
                  refine QR.go 3 rfl ?_
                  refine QR.nil ?_
                  exact ⟨Drop.mask [true, false] (rfl) ⟨Sc.one rfl, trivial⟩, rfl, rfl, rfl, rfl, rfl, rfl, rfl, rfl, (show AV.bool (decide ((cmpL ((t.2.getD ((((i : Nat) : Int) - 1).toNat) ([], 0)).1) ((t.2.getD i ([], 0)).1) : Int) ≥ 0)) = AV.bool ((((!(rowOf ((t.2.getD i ([], 0)).1) t.1)) || (!(isW ((t.2.getD i ([], 0)).2)))) || (((t.2.getD i ([], 0)).2 : Int) == 0)) || ((decide (((i : Nat) : Int) > 0)) && (decide ((cmpL ((t.2.getD ((((i : Nat) : Int) - 1).toNat) ([], 0)).1) ((t.2.getD i ([], 0)).1) : Int) ≥ 0)))) from by first | rfl | ((try simp only [Int.toNat_natCast] at hb4); (try simp only [Int.toNat_natCast] at hb5); (try simp only [Int.toNat_natCast] at hb6); (try simp only [Int.toNat_natCast] at hb7); first | (rw [hb4, hb5, hb6, hb7]; done) | (rw [hb4, hb5, hb6, hb7]; rfl)) | (simp only [hb4, hb5, hb6, hb7]; rfl) | simp_all), rfl, trivial⟩
              · try have hp6 := of_decide_eq_true hb6
                refine QR.go 16 rfl ?_
                refine QR.nil ?_
                exact ⟨Drop.mask [true, false] (rfl) ⟨Sc.one rfl, trivial⟩, rfl, rfl, rfl, rfl, rfl, rfl, rfl, rfl, (show AV.bool true = AV.bool ((((!(rowOf ((t.2.getD i ([], 0)).1) t.1)) || (!(isW ((t.2.getD i ([], 0)).2)))) || (((t.2.getD i ([], 0)).2 : Int) == 0)) || ((decide (((i : Nat) : Int) > 0)) && (decide ((cmpL ((t.2.getD ((((i : Nat) : Int) - 1).toNat) ([], 0)).1) ((t.2.getD i ([], 0)).1) : Int) ≥ 0)))) from by first | rfl | ((try simp only [Int.toNat_natCast] at hb4); (try simp only [Int.toNat_natCast] at hb5); (try simp only [Int.toNat_natCast] at hb6); first | (rw [hb4, hb5, hb6]; done) | (rw [hb4, hb5, hb6]; rfl)) | (simp only [hb4, hb5, hb6]; rfl) | simp_all), rfl, trivial⟩
            · try have hp5 := of_decide_eq_true hb5
              refine QR.go 21 rfl ?_
              refine QR.nil ?_
              exact ⟨Drop.mask [true, false] (rfl) ⟨Sc.one rfl, trivial⟩, rfl, rfl, rfl, rfl, rfl, rfl, rfl, rfl, (show AV.bool true = AV.bool ((((!(rowOf ((t.2.getD i ([], 0)).1) t.1)) || (!(isW ((t.2.getD i ([], 0)).2)))) || (((t.2.getD i ([], 0)).2 : Int) == 0)) || ((decide (((i : Nat) : Int) > 0)) && (decide ((cmpL ((t.2.getD ((((i : Nat) : Int) - 1).toNat) ([], 0)).1) ((t.2.getD i ([], 0)).1) : Int) ≥ 0)))) from by first | rfl | ((try simp only [Int.toNat_natCast] at hb4); (try simp only [Int.toNat_natCast] at hb5); first | (rw [hb4, hb5]; done) | (rw [hb4, hb5]; rfl)) | (simp only [hb4, hb5]; rfl) | simp_all), rfl, trivial⟩
          · try have hp4 := of_decide_eq_true hb4
            refine QR.go 27 rfl ?_
            refine QR.nil ?_
            exact ⟨Drop.mask [true, false] (rfl) ⟨Sc.one rfl, trivial⟩, rfl, rfl, rfl, rfl, rfl, rfl, rfl, rfl, (show AV.bool true = AV.bool ((((!(rowOf ((t.2.getD i ([], 0)).1) t.1)) || (!(isW ((t.2.getD i ([], 0)).2)))) || (((t.2.getD i ([], 0)).2 : Int) == 0)) || ((decide (((i : Nat) : Int) > 0)) && (decide ((cmpL ((t.2.getD ((((i : Nat) : Int) - 1).toNat) ([], 0)).1) ((t.2.getD i ([], 0)).1) : Int) ≥ 0)))) from by first | rfl | ((try simp only [Int.toNat_natCast] at hb4); first | (rw [hb4]; done) | (rw [hb4]; rfl)) | (simp only [hb4]; rfl) | simp_all), rfl, trivial⟩
        · refine SC.cond rfl (fun hb8 => ?_) (fun hb8 => ?_)
          · rw [toNat_pred, gAt_eq] at hb8
            refine SC.seq ?_
            refine SC.region ?_
            refine RG.go tab 1 [] rfl ?_
            refine RG.nil ?_
            refine SC.ret (End.ret tab rfl ?_)
            refine seal_eq rfl ?_
            rw [goodTb_not (i := i) (by omega) (by simpa using hb8)]
          · rw [toNat_pred, gAt_eq] at hb8
            refine SC.skip ?_
            refine SC.region ?_
            refine RG.ask tab 2 [] rfl (by (repeat' refine And.intro ?_ ?_) <;> first | rfl | omega | (unfold in64; omega) | (simp; done) | (simp; omega) | (simp at *; omega)) ?_
            refine RG.nil ?_
            have hg : gAt t.1 t.2 i = true := by simpa using hb8
            refine ⟨i + 1, (by omega), ⟨by omega, fun j hj => (Nat.lt_succ_iff_lt_or_eq.1 hj).elim (fun h => hI j h) (fun h => by rw [h]; exact hg)⟩, Drop.mask [true] (rfl) ⟨Sc.one rfl, trivial⟩, rfl, rfl, rfl, rfl, rfl, rfl, rfl, rfl, trivial⟩
      · try simp only [decide_eq_false_iff_not, Int.not_lt] at hb3
        refine SC.exit ?_
        refine SC.seq ?_
        refine SC.region ?_
        refine RG.go tab 1 [] rfl ?_
        refine RG.nil ?_
        refine SC.ret (End.ret tab rfl ?_)
        refine seal_eq rfl ?_
        rw [goodTb_all fun j hj => hI j (by omega), hb2.1, decide_eq_true (by omega)]; rfl
theorem sGoodTable_pf (t : Int × List (List Int × Int)) : PF Try.prog 75 [.agg [.int .i64 t.1, vWeightedS t.2]] (.bool (goodTb t)) := by
  refine PF.text Try.func75 rfl rfl rfl fun B => ?_
  refine SC.lenA 0 1 rfl (Nat.le_of_ble_eq_true rfl) rfl fun hlen0_1 => ?_
  refine SC.seq ?_
  refine SC.region ?_
  refine RG.go tab 2 [] rfl ?_
  refine RG.nil ?_
  refine SC.seq ?_
  refine SC.seq ?_
  refine SC.region ?_
  refine RG.go tab 4 [] rfl ?_
  refine RG.nil ?_
  refine SC.block ?_
  refine SC.loop1 (fun (i : Nat) => t.2.length - i) (fun (i : Nat) => i ≤ t.2.length ∧ ∀ j, j < i → gAt t.1 t.2 j = true) (fun (i : Nat) => [(1, .ptr 0 1 0 0), (6, vWeightedS t.2), (7, .int .i64 (t.2.length : Int)), (8, .int .i64 ((i : Nat) : Int))]) (fun (i : Nat) => [some ⟨26, 2, [[.int .i64 t.1, vWeightedS t.2]]⟩]) 0 ⟨Nat.zero_le _, fun j hj => absurd hj (Nat.not_lt_zero _)⟩ (Drop.mask [true] (rfl) ⟨Sc.one rfl, trivial⟩) ⟨rfl, rfl, rfl, rfl, rfl, rfl, rfl, rfl, trivial⟩ (fun _ => Nat.le_of_ble_eq_true rfl) fun i hI0 => ?_
  obtain ⟨hi, hI⟩ := hI0
  refine SC.seq ?_
  refine SC.region ?_
  refine RG.go tab 1 [] rfl ?_
  refine RG.nil ?_
  refine SC.seq ?_
  refine SC.cond rfl (fun hb1 => ?_) (fun hb1 => ?_)
  · try simp only [decide_eq_true_eq] at hb1
    refine SC.skip ?_
    refine SC.seq ?_
    refine SC.block ?_
    refine SC.seq ?_
    refine SC.region ?_
    refine RG.ask tab 6 [] rfl (by (repeat' refine And.intro ?_ ?_) <;> first | rfl | omega | (unfold in64; omega) | (simp; done) | (simp; omega) | (simp at *; omega)) ?_
    refine RG.nil ?_
    refine SC.cut [(1, .ptr 0 1 0 0), (6, vWeightedS t.2), (7, .int .i64 (t.2.length : Int)), (8, .int .i64 ((i : Nat) : Int)), (53, .bool (((((!(goodRow ((t.2.getD i ([], 0)).1))) || ((((t.2.getD i ([], 0)).1).length : Int) != t.1)) || (!(isW ((t.2.getD i ([], 0)).2)))) || (((t.2.getD i ([], 0)).2 : Int) == 0)) || ((decide (((i : Nat) : Int) > 0)) && (decide ((cmpL ((t.2.getD ((((i : Nat) : Int) - 1).toNat) ([], 0)).1) ((t.2.getD i ([], 0)).1) : Int) ≥ 0)))))] [some ⟨26, 2, [[.int .i64 t.1, vWeightedS t.2]]⟩, none] rfl ?_ ?_
    · refine SC.drawn tab [] (fun kk => if kk = 2 then .pf (.bool (goodRow ((t.2.getD i ([], 0)).1))) else if kk = 16 then .pf (.bool (isW ((t.2.getD i ([], 0)).2))) else if kk = 37 then .pf (.int .i64 (cmpL ((t.2.getD ((((i : Nat) : Int) - 1).toNat) ([], 0)).1) ((t.2.getD i ([], 0)).1))) else .none) [] [] [0, 1, 2, 3, 4, 5, 6, 7, 8, 9, 10, 11, 12, 13, 14, 15, 16, 17, 18, 19, 20, 21, 22, 23, 24, 25, 26, 27, 28, 29, 30, 31, 32, 33, 34, 35, 36, 37, 38, 39, 40] 64 rfl mixed (by decide +kernel) ?_
      refine QR.go 2 rfl ?_
      refine QR.pfc rfl rfl (sGoodRow_pf ((t.2.getD i ([], 0)).1)) rfl ?_
      refine QR.go 2 rfl ?_
      refine QR.split 17 rfl fun b2 hb2 => ?_
      cases b2
      · try have hp2 := of_decide_eq_false hb2
        refine QR.go 9 rfl ?_
        refine QR.split 26 rfl fun b3 hb3 => ?_
        cases b3
        · try have hp3 := of_decide_eq_false hb3
          refine QR.go 2 rfl ?_
          refine QR.pfc rfl rfl (l2Weight_pf ((t.2.getD i ([], 0)).2)) rfl ?_
          refine QR.go 3 rfl ?_
          refine QR.split 32 rfl fun b4 hb4 => ?_
          cases b4
          · try have hp4 := of_decide_eq_false hb4
            refine QR.go 5 rfl ?_
            refine QR.split 37 rfl fun b5 hb5 => ?_
            cases b5
            · try have hp5 := of_decide_eq_false hb5
              refine QR.go 3 rfl ?_
              refine QR.split 40 rfl fun b6 hb6 => ?_
              cases b6
              · try have hp6 := of_decide_eq_false hb6
                refine QR.go 13 rfl ?_
                refine QR.nil ?_
                exact ⟨Drop.mask [true, false] (rfl) ⟨Sc.one rfl, trivial⟩, rfl, rfl, rfl, rfl, rfl, rfl, rfl, rfl, (show AV.bool false = AV.bool (((((!(goodRow ((t.2.getD i ([], 0)).1))) || ((((t.2.getD i ([], 0)).1).length : Int) != t.1)) || (!(isW ((t.2.getD i ([], 0)).2)))) || (((t.2.getD i ([], 0)).2 : Int) == 0)) || ((decide (((i : Nat) : Int) > 0)) && (decide ((cmpL ((t.2.getD ((((i : Nat) : Int) - 1).toNat) ([], 0)).1) ((t.2.getD i ([], 0)).1) : Int) ≥ 0)))) from by first | rfl | ((try simp only [Int.toNat_natCast] at hb2); (try simp only [Int.toNat_natCast] at hb3); (try simp only [Int.toNat_natCast] at hb4); (try simp only [Int.toNat_natCast] at hb5); (try simp only [Int.toNat_natCast] at hb6); first | (rw [hb2, hb3, hb4, hb5, hb6]; done) | (rw [hb2, hb3, hb4, hb5, hb6]; rfl)) | (simp only [hb2, hb3, hb4, hb5, hb6]; rfl) | simp_all), rfl, trivial⟩
              · try have hp6 := of_decide_eq_true hb6
                refine QR.ask 9 rfl (by (repeat' refine And.intro ?_ ?_) <;> first | rfl | omega | (unfold in64; omega) | (simp; done) | (simp; omega) | (simp at *; omega)) ?_
                refine QR.pfc rfl rfl (l1Compare_pf ((t.2.getD ((((i : Nat) : Int) - 1).toNat) ([], 0)).1) ((t.2.getD i ([], 0)).1)) rfl ?_
                refine QR.go 3 rfl ?_
                refine QR.nil ?_
                exact ⟨Drop.mask [true, false] (rfl) ⟨Sc.one rfl, trivial⟩, rfl, rfl, rfl, rfl, rfl, rfl, rfl, rfl, (show AV.bool (decide ((cmpL ((t.2.getD ((((i : Nat) : Int) - 1).toNat) ([], 0)).1) ((t.2.getD i ([], 0)).1) : Int) ≥ 0)) = AV.bool (((((!(goodRow ((t.2.getD i ([], 0)).1))) || ((((t.2.getD i ([], 0)).1).length : Int) != t.1)) || (!(isW ((t.2.getD i ([], 0)).2)))) || (((t.2.getD i ([], 0)).2 : Int) == 0)) || ((decide (((i : Nat) : Int) > 0)) && (decide ((cmpL ((t.2.getD ((((i : Nat) : Int) - 1).toNat) ([], 0)).1) ((t.2.getD i ([], 0)).1) : Int) ≥ 0)))) from by first | rfl | ((try simp only [Int.toNat_natCast] at hb2); (try simp only [Int.toNat_natCast] at hb3); (try simp only [Int.toNat_natCast] at hb4); (try simp only [Int.toNat_natCast] at hb5); (try simp only [Int.toNat_natCast] at hb6); first | (rw [hb2, hb3, hb4, hb5, hb6]; done) | (rw [hb2, hb3, hb4, hb5, hb6]; rfl)) | (simp only [hb2, hb3, hb4, hb5, hb6]; rfl) | simp_all), rfl, trivial⟩
            · try have hp5 := of_decide_eq_true hb5
              refine QR.go 16 rfl ?_
              refine QR.nil ?_
              exact ⟨Drop.mask [true, false] (rfl) ⟨Sc.one rfl, trivial⟩, rfl, rfl, rfl, rfl, rfl, rfl, rfl, rfl, (show AV.bool true = AV.bool (((((!(goodRow ((t.2.getD i ([], 0)).1))) || ((((t.2.getD i ([], 0)).1).length : Int) != t.1)) || (!(isW ((t.2.getD i ([], 0)).2)))) || (((t.2.getD i ([], 0)).2 : Int) == 0)) || ((decide (((i : Nat) : Int) > 0)) && (decide ((cmpL ((t.2.getD ((((i : Nat) : Int) - 1).toNat) ([], 0)).1) ((t.2.getD i ([], 0)).1) : Int) ≥ 0)))) from by first | rfl | ((try simp only [Int.toNat_natCast] at hb2); (try simp only [Int.toNat_natCast] at hb3); (try simp only [Int.toNat_natCast] at hb4); (try simp only [Int.toNat_natCast] at hb5); first | (rw [hb2, hb3, hb4, hb5]; done) | (rw [hb2, hb3, hb4, hb5]; rfl)) | (simp only [hb2, hb3, hb4, hb5]; rfl) | simp_all), rfl, trivial⟩
          · try have hp4 := of_decide_eq_true hb4
            refine QR.go 21 rfl ?_
            refine QR.nil ?_
            exact ⟨Drop.mask [true, false] (rfl) ⟨Sc.one rfl, trivial⟩, rfl, rfl, rfl, rfl, rfl, rfl, rfl, rfl, (show AV.bool true = AV.bool (((((!(goodRow ((t.2.getD i ([], 0)).1))) || ((((t.2.getD i ([], 0)).1).length : Int) != t.1)) || (!(isW ((t.2.getD i ([], 0)).2)))) || (((t.2.getD i ([], 0)).2 : Int) == 0)) || ((decide (((i : Nat) : Int) > 0)) && (decide ((cmpL ((t.2.getD ((((i : Nat) : Int) - 1).toNat) ([], 0)).1) ((t.2.getD i ([], 0)).1) : Int) ≥ 0)))) from by first | rfl | ((try simp only [Int.toNat_natCast] at hb2); (try simp only [Int.toNat_natCast] at hb3); (try simp only [Int.toNat_natCast] at hb4); first | (rw [hb2, hb3, hb4]; done) | (rw [hb2, hb3, hb4]; rfl)) | (simp only [hb2, hb3, hb4]; rfl) | simp_all), rfl, trivial⟩
        · try have hp3 := of_decide_eq_true hb3
          refine QR.go 27 rfl ?_
          refine QR.nil ?_
          exact ⟨Drop.mask [true, false] (rfl) ⟨Sc.one rfl, trivial⟩, rfl, rfl, rfl, rfl, rfl, rfl, rfl, rfl, (show AV.bool true = AV.bool (((((!(goodRow ((t.2.getD i ([], 0)).1))) || ((((t.2.getD i ([], 0)).1).length : Int) != t.1)) || (!(isW ((t.2.getD i ([], 0)).2)))) || (((t.2.getD i ([], 0)).2 : Int) == 0)) || ((decide (((i : Nat) : Int) > 0)) && (decide ((cmpL ((t.2.getD ((((i : Nat) : Int) - 1).toNat) ([], 0)).1) ((t.2.getD i ([], 0)).1) : Int) ≥ 0)))) from by first | rfl | ((try simp only [Int.toNat_natCast] at hb2); (try simp only [Int.toNat_natCast] at hb3); first | (rw [hb2, hb3]; done) | (rw [hb2, hb3]; rfl)) | (simp only [hb2, hb3]; rfl) | simp_all), rfl, trivial⟩
      · try have hp2 := of_decide_eq_true hb2
        refine QR.go 36 rfl ?_
        refine QR.nil ?_
        exact ⟨Drop.mask [true, false] (rfl) ⟨Sc.one rfl, trivial⟩, rfl, rfl, rfl, rfl, rfl, rfl, rfl, rfl, (show AV.bool true = AV.bool (((((!(goodRow ((t.2.getD i ([], 0)).1))) || ((((t.2.getD i ([], 0)).1).length : Int) != t.1)) || (!(isW ((t.2.getD i ([], 0)).2)))) || (((t.2.getD i ([], 0)).2 : Int) == 0)) || ((decide (((i : Nat) : Int) > 0)) && (decide ((cmpL ((t.2.getD ((((i : Nat) : Int) - 1).toNat) ([], 0)).1) ((t.2.getD i ([], 0)).1) : Int) ≥ 0)))) from by first | rfl | ((try simp only [Int.toNat_natCast] at hb2); first | (rw [hb2]; done) | (rw [hb2]; rfl)) | (simp only [hb2]; rfl) | simp_all), rfl, trivial⟩
    · refine SC.cond rfl (fun hb7 => ?_) (fun hb7 => ?_)
      · rw [toNat_pred, gAt_eq2] at hb7
        refine SC.seq ?_
        refine SC.region ?_
        refine RG.go tab 1 [] rfl ?_
        refine RG.nil ?_
        refine SC.ret (End.ret tab rfl ?_)
        refine seal_eq rfl ?_
        rw [goodTb_not (i := i) (by omega) (by simpa using hb7)]
      · rw [toNat_pred, gAt_eq2] at hb7
        refine SC.skip ?_
        refine SC.region ?_
        refine RG.ask tab 2 [] rfl (by (repeat' refine And.intro ?_ ?_) <;> first | rfl | omega | (unfold in64; omega) | (simp; done) | (simp; omega) | (simp at *; omega)) ?_
        refine RG.nil ?_
        have hg : gAt t.1 t.2 i = true := by simpa using hb7
        refine ⟨i + 1, (by omega), ⟨by omega, fun j hj => (Nat.lt_succ_iff_lt_or_eq.1 hj).elim (fun h => hI j h) (fun h => by rw [h]; exact hg)⟩, Drop.mask [true] (rfl) ⟨Sc.one rfl, trivial⟩, rfl, rfl, rfl, rfl, rfl, rfl, rfl, rfl, trivial⟩
  · try simp only [decide_eq_false_iff_not, Int.not_lt] at hb1
    refine SC.exit ?_
    refine SC.cut [(2, .bool ((inB t.1 0 6) && (decide ((t.2.length : Int) ≤ 60))))] [none] rfl ?_ ?_
    · refine SC.region ?_
      refine RG.go tab 2 [] rfl ?_
      refine RG.pf rfl rfl (l1In_pf t.1 0 6) rfl ?_
      refine RG.go tab 1 [] rfl ?_
      refine RG.split 58 rfl fun b8 hb8 => ?_
      cases b8
      · try have hp8 := of_decide_eq_false hb8
        refine RG.go tab 6 [] rfl ?_
        refine RG.nil ?_
        exact ⟨Drop.mask [false] (rfl) trivial, (show AV.bool false = AV.bool ((inB t.1 0 6) && (decide ((t.2.length : Int) ≤ 60))) from by first | rfl | ((try simp only [Int.toNat_natCast] at hb8); first | (rw [hb8]; done) | (rw [hb8]; rfl)) | (simp only [hb8]; rfl) | simp_all), rfl, trivial⟩
      · try have hp8 := of_decide_eq_true hb8
        refine RG.go tab 6 [] rfl ?_
        refine RG.nil ?_
        exact ⟨Drop.mask [false] (rfl) trivial, (show AV.bool (decide ((t.2.length : Int) ≤ 60)) = AV.bool ((inB t.1 0 6) && (decide ((t.2.length : Int) ≤ 60))) from by first | rfl | ((try simp only [Int.toNat_natCast] at hb8); first | (rw [hb8]; done) | (rw [hb8]; rfl)) | (simp only [hb8]; rfl) | simp_all), rfl, trivial⟩
    · refine SC.ret (End.ret tab rfl ?_)
      refine seal_eq rfl ?_
      rw [goodTb_all fun j hj => hI j (by omega)]
end Go.Proofs.Ythholadaflfpcaa
