import Derived.Test.YthholadaflfpcaaP14
namespace Go.Proofs.Ythholadaflfpcaa
open Go Go.Fw
theorem goodOrNone_fc (I : Gh) (c : Int) (l : List Wt) : FC Try.prog 42 [.agg [.int .i64 c, .own I (vWeightedS l)]] [] (fun r S' => S' = [] ∧ r = (if goodTb (c, l) = true then .tup [.agg [.int .i64 c, .own I (vWeightedS l)], .bool true] else .tup [.agg [.int .i64 0, .nsl], .bool false])) := by
  refine FC.ho ?_ (by split <;> rfl)
  refine FC.text Try.func42 rfl rfl rfl fun B => ?_
  refine SC.seq ?_
  refine SC.region ?_
  refine RG.go tab 3 [] rfl ?_
  refine RG.nil ?_
  refine SC.seq ?_
  refine SC.seq ?_
  refine SC.region ?_
  refine RG.go tab 1 [] rfl ?_
  refine RG.pfb rfl rfl (iGoodTable_pf (c, l)) ⟨.agg rfl (fun j hj => by match j, hj with | 0, _ => exact .same rfl | 1, _ => exact .own trivial), trivial⟩ rfl ?_
  refine RG.go tab 1 [] rfl ?_
  refine RG.nil ?_
  refine SC.cond rfl (fun hb1 => ?_) (fun hb1 => ?_)
  · try simp only [Bool.not_eq_eq_eq_not, Bool.not_true] at hb1
    refine SC.seq ?_
    refine SC.region ?_
    refine RG.go tab 3 [] rfl ?_
    refine RG.nil ?_
    refine SC.ret (End.ret tab rfl ?_)
    rw [if_neg (by simpa using hb1)]
  · try simp only [Bool.not_eq_eq_eq_not, Bool.not_false] at hb1
    refine SC.skip ?_
    refine SC.seq ?_
    refine SC.region ?_
    refine RG.go tab 3 [] rfl ?_
    refine RG.nil ?_
    refine SC.ret (End.ret tab rfl ?_)
    rw [if_pos (by simpa using hb1)]
theorem NewTable1_pf (w : Wt) (c : Int) : PF Try.prog 39 [.agg [ints w.1, .int .i64 w.2], .iptr [.int .i64 c]] (.bool (okW c w)) := by
  refine PF.text Try.func39 rfl rfl rfl fun B => ?_
  refine SC.lenA 0 0 rfl (Nat.le_of_ble_eq_true rfl) rfl fun hlen0_0 => ?_
  refine SC.seq ?_
  refine SC.region ?_
  refine RG.go tab 2 [] rfl ?_
  refine RG.nil ?_
  refine SC.cut [(3, .bool ((rowOf w.1 c) && (isW w.2)))] [none] rfl ?_ ?_
  · refine SC.region ?_
    refine RG.go tab 3 [] rfl ?_
    refine RG.pf rfl rfl (isRowOf_pf w.1 c) rfl ?_
    refine RG.go tab 1 [] rfl ?_
    refine RG.split 8 rfl fun b1 hb1 => ?_
    cases b1
    · try have hp1 := of_decide_eq_false hb1
      refine RG.go tab 5 [] rfl ?_
      refine RG.nil ?_
      exact ⟨Drop.mask [false] (rfl) trivial, (show AV.bool false = AV.bool ((rowOf w.1 c) && (isW w.2)) from by first | rfl | ((try simp only [Int.toNat_natCast] at hb1); first | (rw [hb1]; done) | (rw [hb1]; rfl)) | (simp only [hb1]; rfl) | simp_all), rfl, trivial⟩
    · try have hp1 := of_decide_eq_true hb1
      refine RG.go tab 2 [] rfl ?_
      refine RG.pf rfl rfl (isWeight_pf w.2) rfl ?_
      refine RG.go tab 2 [] rfl ?_
      refine RG.nil ?_
      exact ⟨Drop.mask [false] (rfl) trivial, (show AV.bool (isW w.2) = AV.bool ((rowOf w.1 c) && (isW w.2)) from by first | rfl | ((try simp only [Int.toNat_natCast] at hb1); first | (rw [hb1]; done) | (rw [hb1]; rfl)) | (simp only [hb1]; rfl) | simp_all), rfl, trivial⟩
  · refine SC.ret (End.ret tab rfl ?_)
    refine seal_eq rfl ?_
    first | rfl | simp_all
theorem newTb_bad2 {c : Int} {l : List Wt} (h : (inB c 0 6 = false ∨ (l.length : Int) > 200) ∨ l.all (okW c) = false) : newTb c l = ((0, []), false) := by
  rcases h with h | h
  · exact newTb_bad h
  · unfold newTb; rw [h, Bool.and_false]; rfl
theorem iNewTable_mf (c : Int) (l : List (List Int × Int)) : MF Try.prog 9 [.int .i64 c, vWeightedS l] (.tup [.agg [.int .i64 (((newTb c l).1).1), vWeightedS (((newTb c l).1).2)], .bool ((newTb c l).2)]) := by
  refine MF.text Try.func9 rfl rfl rfl fun B => ?_
  refine SC.len 1 rfl fun hlen1 => ?_
  refine SC.seq ?_
  refine SC.region ?_
  refine RG.go tab 3 [] rfl ?_
  refine RG.nil ?_
  refine SC.seq ?_
  refine SC.cut [(1, vWeightedS l), (2, .ptr 0 1 0 0), (4, .ptr 1 1 0 0), (19, .bool (((!(inB c 0 6)) || (decide ((l.length : Int) > 200))) || (!(l.all (fun x : List Int × Int => okW c x)))))] [some ⟨3, 1, [[.int .i64 c]]⟩, some ⟨26, 2, [[.int .i64 0, .nsl]]⟩] rfl ?_ ?_
  · refine SC.region ?_
    refine RG.go tab 1 [] rfl ?_
    refine RG.pf rfl rfl (isColumns_pf c) rfl ?_
    refine RG.go tab 2 [] rfl ?_
    refine RG.split 9 rfl fun b1 hb1 => ?_
    cases b1
    · try have hp1 := of_decide_eq_false hb1
      refine RG.go tab 5 [] rfl ?_
      refine RG.split 14 rfl fun b2 hb2 => ?_
      cases b2
      · try have hp2 := of_decide_eq_false hb2
        refine RG.go tab 2 [] rfl ?_
        refine RG.pfb rfl rfl (areAll_vWeightedS l (39) [] [.iptr [.int .i64 c]] (fun x : List Int × Int => okW c x) (fun x _ => NewTable1_pf x c) rfl rfl) ⟨.same rfl, .fn rfl (fun j hj => absurd hj (Nat.not_lt_zero _)) rfl (fun j hj => by match j, hj with | 0, _ => exact .var rfl rfl rfl), trivial⟩ rfl ?_
        refine RG.go tab 2 [] rfl ?_
        refine RG.nil ?_
        exact ⟨Drop.mask [true, true] (rfl) ⟨Sc.one rfl, Sc.one rfl, trivial⟩, rfl, rfl, rfl, rfl, rfl, rfl, (show AV.bool (!(l.all (fun x : List Int × Int => okW c x))) = AV.bool (((!(inB c 0 6)) || (decide ((l.length : Int) > 200))) || (!(l.all (fun x : List Int × Int => okW c x)))) from by first | rfl | ((try simp only [Int.toNat_natCast] at hb1); (try simp only [Int.toNat_natCast] at hb2); first | (rw [hb1, hb2]; done) | (rw [hb1, hb2]; rfl)) | (simp only [hb1, hb2]; rfl) | simp_all), rfl, trivial⟩
      · try have hp2 := of_decide_eq_true hb2
        refine RG.go tab 5 [] rfl ?_
        refine RG.nil ?_
        exact ⟨Drop.mask [true, true] (rfl) ⟨Sc.one rfl, Sc.one rfl, trivial⟩, rfl, rfl, rfl, rfl, rfl, rfl, (show AV.bool true = AV.bool (((!(inB c 0 6)) || (decide ((l.length : Int) > 200))) || (!(l.all (fun x : List Int × Int => okW c x)))) from by first | rfl | ((try simp only [Int.toNat_natCast] at hb1); (try simp only [Int.toNat_natCast] at hb2); first | (rw [hb1, hb2]; done) | (rw [hb1, hb2]; rfl)) | (simp only [hb1, hb2]; rfl) | simp_all), rfl, trivial⟩
    · try have hp1 := of_decide_eq_true hb1
      refine RG.go tab 10 [] rfl ?_
      refine RG.nil ?_
      exact ⟨Drop.mask [true, true] (rfl) ⟨Sc.one rfl, Sc.one rfl, trivial⟩, rfl, rfl, rfl, rfl, rfl, rfl, (show AV.bool true = AV.bool (((!(inB c 0 6)) || (decide ((l.length : Int) > 200))) || (!(l.all (fun x : List Int × Int => okW c x)))) from by first | rfl | ((try simp only [Int.toNat_natCast] at hb1); first | (rw [hb1]; done) | (rw [hb1]; rfl)) | (simp only [hb1]; rfl) | simp_all), rfl, trivial⟩
  · refine SC.cond rfl (fun hb3 => ?_) (fun hb3 => ?_)
    · try simp only [decide_eq_true_eq, Bool.not_eq_eq_eq_not, Bool.not_true, Bool.or_eq_true] at hb3
      have hbad := hb3
      refine SC.seq ?_
      refine SC.region ?_
      refine RG.go tab 3 [] rfl ?_
      refine RG.nil ?_
      refine SC.ret (End.ret tab rfl ?_)
      rw [newTb_bad2 hbad]
      exact ⟨_, _, .tup (.cons (.agg (.cons (.scal rfl) (.cons .nsl .nil (by intro x h1 h2; first | exact h1.elim | (simp at h1 h2; done) | (simp at h2; done)) (by intro x h1 h2; first | exact h1.elim | (simp at h1 h2; done) | (simp at h2; done))) (by intro x h1 h2; first | exact h1.elim | (simp at h1 h2; done) | (simp at h2; done)) (by intro x h1 h2; first | exact h1.elim | (simp at h1 h2; done) | (simp at h2; done)))) (.cons (.one (.scal rfl)) .nil (by intro x h1 h2; first | exact h1.elim | (simp at h1 h2; done) | (simp at h2; done)) (by intro x h1 h2; first | exact h1.elim | (simp at h1 h2; done) | (simp at h2; done))) (by intro x h1 h2; first | exact h1.elim | (simp at h1 h2; done) | (simp at h2; done)) (by intro x h1 h2; first | exact h1.elim | (simp at h1 h2; done) | (simp at h2; done)))⟩
    · try simp only [decide_eq_false_iff_not, Bool.not_eq_eq_eq_not, Bool.not_false, Bool.or_eq_false_iff, Int.not_lt] at hb3
      have hg := hb3
      have hall : ∀ j, j < l.length → okW c (l.getD j ([], 0)) = true := fun j hj => List.all_eq_true.1 hg.2 _ (getD_mem hj)
      have hlen6 : ∀ x ∈ l, x.1.length ≤ 1048576 := fun x hx => by have := (okW_len (List.all_eq_true.1 hg.2 x hx)).1; omega
      have habs : absW l ≤ 4611686018427387904 := by have := absW_ok hall (Nat.le_refl _); rw [List.take_length] at this; omega
      have hnew : newTb c l = tellTb c (sumWs l) := by unfold newTb; rw [hg.1.1, decide_eq_true (by omega), hg.2]; rfl
      refine SC.skip ?_
      refine SC.seq ?_
      refine SC.region ?_
      refine RG.go tab 2 [] rfl ?_
      refine RG.go tab 1 [] rfl ?_
      refine RG.mf rfl rfl (summed_mf c [l] (by simpa using (by omega : l.length ≤ 1099511627776)) (by simpa using hlen6) (by simpa using habs)) ⟨.same rfl, (SealB.rowsL (l := [l]) (f := (fun x : List Wt => [vWeightedS x])) [] rfl (fun _ _ => ⟨rfl, rfl⟩) (by first | rfl | assumption | omega | (simp only [List.length_set]; first | assumption | omega) | (simp; omega))), trivial⟩ fun r0 hr0 hfr0 => ?_
      obtain ⟨rs0, rfl, hl0⟩ := hr0.agg
      have hc0 := hl0.cells
      obtain ⟨cI0a, rs0t, rfl, mI0a, dI0a, hl0t⟩ := hl0.cons
      obtain rfl := Made0.scal mI0a rfl
      obtain ⟨cI0b, rs0tt, rfl, mI0b, dI0b, hl0tt⟩ := hl0t.cons
      obtain ⟨I0b, rfl⟩ := Made0.isl mI0b
      obtain rfl := MadeL.nil0 hl0tt
      have free_I0b : ∀ x, I0b.bl x → ¬ B x := fun x hx => (hfr0 x (.agg (j := 1) (Nat.le_of_ble_eq_true rfl) (.own hx))).2
      by_cases hgt : goodTb (c, sumWs [l].flatten) = true
      · refine RG.hand (r0 := .tup [.agg [.int .i64 c, .own I0b (vWeightedS (sumWs [l].flatten))], .bool true]) rfl rfl (by have h := goodOrNone_fc I0b c (sumWs [l].flatten); rw [if_pos hgt] at h; exact h) rfl (fun p hp => hp) rfl ?_
        refine RG.go tab 4 [] rfl ?_
        refine RG.nil ?_
        refine SC.ret (End.ret tab rfl ?_)
        have e1 : [l].flatten = l := by simp
        rw [e1] at hgt ⊢
        rw [hnew, show tellTb c (sumWs l) = ((c, sumWs l), true) from by unfold tellTb; rw [if_pos hgt]]
        exact ⟨_, _, .tup (.cons (.agg (.cons (.scal rfl) (.cons .own .nil (by intro x h1 h2; first | exact h1.elim | (simp at h1 h2; done) | (simp at h2; done)) (by intro x h1 h2; first | exact h1.elim | (simp at h1 h2; done) | (simp at h2; done))) (by intro x h1 h2; first | exact h1.elim | (simp at h1 h2; done) | (simp at h2; done)) (by intro x h1 h2; first | exact h1.elim | (simp at h1 h2; done) | (simp at h2; done)))) (.cons (.one (.scal rfl)) .nil (by intro x h1 h2; first | exact h1.elim | (simp at h1 h2; done) | (simp at h2; done)) (by intro x h1 h2; first | exact h1.elim | (simp at h1 h2; done) | (simp at h2; done))) (by intro x h1 h2; first | exact h1.elim | (simp at h1 h2; done) | (simp at h2; done)) (by intro x h1 h2; first | exact h1.elim | (simp at h1 h2; done) | (simp at h2; done)))⟩
      · refine RG.hand (r0 := .tup [.agg [.int .i64 0, .nsl], .bool false]) rfl rfl (by have h := goodOrNone_fc I0b c (sumWs [l].flatten); rw [if_neg hgt] at h; exact h) rfl (fun p hp => by cases hp) rfl ?_
        refine RG.go tab 4 [] rfl ?_
        refine RG.nil ?_
        refine SC.ret (End.ret tab rfl ?_)
        have e1 : [l].flatten = l := by simp
        rw [e1] at hgt
        rw [hnew, show tellTb c (sumWs l) = ((0, []), false) from by unfold tellTb; rw [if_neg hgt]]
        exact ⟨_, _, .tup (.cons (.agg (.cons (.scal rfl) (.cons .nsl .nil (by intro x h1 h2; first | exact h1.elim | (simp at h1 h2; done) | (simp at h2; done)) (by intro x h1 h2; first | exact h1.elim | (simp at h1 h2; done) | (simp at h2; done))) (by intro x h1 h2; first | exact h1.elim | (simp at h1 h2; done) | (simp at h2; done)) (by intro x h1 h2; first | exact h1.elim | (simp at h1 h2; done) | (simp at h2; done)))) (.cons (.one (.scal rfl)) .nil (by intro x h1 h2; first | exact h1.elim | (simp at h1 h2; done) | (simp at h2; done)) (by intro x h1 h2; first | exact h1.elim | (simp at h1 h2; done) | (simp at h2; done))) (by intro x h1 h2; first | exact h1.elim | (simp at h1 h2; done) | (simp at h2; done)) (by intro x h1 h2; first | exact h1.elim | (simp at h1 h2; done) | (simp at h2; done)))⟩
end Go.Proofs.Ythholadaflfpcaa
