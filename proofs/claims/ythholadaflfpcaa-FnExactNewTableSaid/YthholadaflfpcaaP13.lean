import Derived.Test.YthholadaflfpcaaP12
namespace Go.Proofs.Ythholadaflfpcaa
open Go Go.Fw
theorem take_succ_getD {α : Type} {l : List α} {i : Nat} (d : α) (h : i < l.length) : l.take (i + 1) = l.take i ++ [l.getD i d] := by
  rw [List.take_succ_eq_append_getElem h]; simp [List.getD_eq_getElem?_getD, h]
def tellTb (c : Int) (l : List Wt) : Tb × Bool := if goodTb (c, l) then ((c, l), true) else ((0, []), false)
def okW (c : Int) (w : Wt) : Bool := rowOf w.1 c && isW w.2
def newTb (c : Int) (l : List Wt) : Tb × Bool := if inB c 0 6 && decide ((l.length : Int) ≤ 200) && l.all (okW c) then tellTb c (sumWs l) else ((0, []), false)
theorem l2Tell_pf (c : Int) (l : List (List Int × Int)) (h1 : l.length ≤ 1099511627776) (h2 : ∀ x ∈ l, x.1.length ≤ 1048576) : PF Try.prog 35 [.int .i64 c, vWeightedS l] (.tup [.agg [.int .i64 (((tellTb c l).1).1), vWeightedS (((tellTb c l).1).2)], .bool ((tellTb c l).2)]) := by
  refine PF.text Try.func35 rfl rfl rfl fun B => ?_
  refine SC.len 1 rfl fun hlen1 => ?_
  refine SC.seq ?_
  refine SC.region ?_
  refine RG.go tab 2 [] rfl ?_
  refine RG.nil ?_
  refine SC.seq ?_
  refine SC.region ?_
  refine RG.go tab 3 [] rfl ?_
  refine RG.go tab 1 [] rfl ?_
  refine RG.liftCell 1 1 72 2 rfl rfl rfl ?_
  refine RG.nil ?_
  refine SC.seq ?_
  refine SC.seq ?_
  refine SC.region ?_
  refine RG.go tab 3 [] rfl ?_
  refine RG.nil ?_
  refine SC.block ?_
  refine SC.loop2 (fun (i : Nat) (xs : List Wt) => l.length - i) (fun (i : Nat) (xs : List Wt) => i ≤ l.length ∧ xs.length = i ∧ xs = l.take i) (fun (i : Nat) (xs : List Wt) => [(4, .ptr 0 1 0 0), (6, .ptr 1 1 0 0), (11, vWeightedS l), (12, .int .i64 (l.length : Int)), (13, .int .i64 ((i : Nat) : Int))]) (fun (i : Nat) (xs : List Wt) => [some ⟨26, 2, [[.int .i64 0, .nsl]]⟩, some ⟨26, 2, [[.int .i64 c, .sl 2 i]]⟩, some ⟨72, 2, (xs).map rW⟩]) 0 [] ⟨Nat.zero_le _, rfl, rfl⟩ (Drop.mask [true, true, true] (rfl) ⟨Sc.one rfl, Sc.one rfl, Sc.rows fun _ => ⟨rfl, rfl⟩, trivial⟩) ⟨rfl, rfl, rfl, rfl, rfl, rfl, rfl, rfl, rfl, rfl, trivial⟩ (fun _ _ => Nat.le_of_ble_eq_true rfl) fun i xs hI0 => ?_
  obtain ⟨hi, hxl, hxs⟩ := hI0
  refine SC.seq ?_
  refine SC.region ?_
  refine RG.go tab 1 [] rfl ?_
  refine RG.nil ?_
  refine SC.seq ?_
  refine SC.cond rfl (fun hb1 => ?_) (fun hb1 => ?_)
  · try simp only [decide_eq_true_eq] at hb1
    refine SC.skip ?_
    refine SC.seq ?_
    refine SC.block ?_
    refine SC.seq ?_
    refine SC.region ?_
    refine RG.ask tab 4 [] rfl (by (repeat' refine And.intro ?_ ?_) <;> first | rfl | omega | (unfold in64; omega) | (simp; done) | (simp; omega) | (simp at *; omega)) ?_
    refine RG.nil ?_
    refine SC.drawn tab [] (fun kk => if kk = 4 then .pf (.agg [ints ((l.getD i ([], 0)).1)]) else .none) [] [2, 1] [0, 1, 2, 3, 4, 5, 6, 7, 8, 9, 10, 11] 34 rfl mixed (by decide +kernel) ?_
    refine QR.go 4 rfl ?_
    refine QR.mvc rfl rfl (l2OwnRow_mf ((l.getD i ([], 0)).1) (h2 _ (getD_mem (by omega)))) rfl ?_
    refine QR.go 4 rfl ?_
    refine QR.appL rW xs [(l.getD i ([], 0))] rfl rfl rfl rfl ⟨(by first | rfl | (simp; done) | (simp; omega) | (simp only [List.length_map]; omega)), (by show (_ + _) * 32 ≤ _; (try simp only [List.length_append, List.length_cons, List.length_nil, List.length_take, List.length_drop]); omega)⟩ rfl rfl rfl ?_
    refine QR.go 2 rfl ?_
    refine QR.nil ?_
    refine SC.region ?_
    refine RG.ask tab 2 [] rfl (by (repeat' refine And.intro ?_ ?_) <;> first | rfl | omega | (unfold in64; omega) | (simp; done) | (simp; omega) | (simp at *; omega)) ?_
    refine RG.nil ?_
    refine ⟨i + 1, xs ++ [(l.getD i ([], 0))], (by omega), ⟨by omega, by simp [hxl], by rw [hxs, take_succ_getD ([], 0) (by omega)]⟩, Drop.mask [true, true, true] (rfl) ⟨Sc.one rfl, Sc.one rfl, Sc.rows fun _ => ⟨rfl, rfl⟩, trivial⟩, rfl, rfl, rfl, rfl, rfl, rfl, rfl, rfl, rfl, rfl, trivial⟩
  · try simp only [decide_eq_false_iff_not, Int.not_lt] at hb1
    have hxl2 : xs = l := by rw [hxs, List.take_of_length_le (by omega)]
    refine SC.exit ?_
    refine SC.seq ?_
    refine SC.seq ?_
    refine SC.region ?_
    refine RG.go tab 1 [] rfl ?_
    refine RG.pfb rfl rfl (sGoodTable_pf (c, xs)) ⟨.agg rfl (fun j hj => by match j, hj with | 0, _ => exact .same rfl | 1, _ => exact (SealB.rowsL (l := xs) (f := rW) ([], 0) rfl (fun _ _ => ⟨rfl, rfl⟩) (by first | rfl | assumption | omega | (simp only [List.length_set]; first | assumption | omega) | (simp; omega)))), trivial⟩ rfl ?_
    refine RG.go tab 1 [] rfl ?_
    refine RG.nil ?_
    refine SC.cond rfl (fun hb2 => ?_) (fun hb2 => ?_)
    · try simp only [Bool.not_eq_eq_eq_not, Bool.not_true] at hb2
      refine SC.seq ?_
      refine SC.region ?_
      refine RG.go tab 1 [] rfl ?_
      refine RG.go tab 1 [] rfl ?_
      refine RG.liftCell 0 1 72 2 rfl rfl rfl ?_
      refine RG.go tab 1 [] rfl ?_
      refine RG.nil ?_
      refine SC.ret (End.ret tab rfl ?_)
      rw [hxl2] at hb2
      rw [show tellTb c l = ((0, []), false) from by unfold tellTb; rw [if_neg (by simpa using hb2)]]
      exact .tup rfl (fun j hj => by match j, hj with | 0, _ => exact .agg rfl (fun j hj => by match j, hj with | 0, _ => exact .same rfl | 1, _ => exact (SealB.rowsL (l := []) (f := rW) ([], 0) rfl (fun _ _ => ⟨rfl, rfl⟩) (by first | rfl | assumption | omega | (simp only [List.length_set]; first | assumption | omega) | (simp; omega)))) | 1, _ => exact .same rfl)
    · try simp only [Bool.not_eq_eq_eq_not, Bool.not_false] at hb2
      refine SC.skip ?_
      refine SC.seq ?_
      refine SC.region ?_
      refine RG.go tab 3 [] rfl ?_
      refine RG.nil ?_
      refine SC.ret (End.ret tab rfl ?_)
      rw [hxl2] at hb2
      rw [show tellTb c l = ((c, xs), true) from by unfold tellTb; rw [if_pos (by simpa using hb2), hxl2]]
      exact .tup rfl (fun j hj => by match j, hj with | 0, _ => exact .agg rfl (fun j hj => by match j, hj with | 0, _ => exact .same rfl | 1, _ => exact (SealB.rowsL (l := xs) (f := rW) ([], 0) rfl (fun _ _ => ⟨rfl, rfl⟩) (by first | rfl | assumption | omega | (simp only [List.length_set]; first | assumption | omega) | (simp; omega)))) | 1, _ => exact .same rfl)
theorem goodRow_len {r : List Int} (h : goodRow r = true) : r.length ≤ 6 := by
  unfold goodRow at h; simp only [Bool.and_eq_true, decide_eq_true_eq] at h; omega
theorem newTb_bad {c : Int} {l : List Wt} (h : inB c 0 6 = false ∨ (l.length : Int) > 200) : newTb c l = ((0, []), false) := by
  unfold newTb
  rcases h with h | h
  · rw [h]; rfl
  · rw [decide_eq_false (by omega), Bool.and_false]; rfl
theorem okW_eq (c : Int) (w : Wt) : (!goodRow w.1 || ((w.1.length : Int) != c) || !isW w.2) = !okW c w := by
  unfold okW rowOf bne
  cases goodRow w.1 <;> cases ((w.1.length : Int) == c) <;> cases isW w.2 <;> rfl
theorem okW_len {c : Int} {w : Wt} (h : okW c w = true) : w.1.length ≤ 6 ∧ w.2.natAbs ≤ 1000000 := by
  unfold okW rowOf isW at h
  simp only [Bool.and_eq_true, inB_iff] at h
  exact ⟨goodRow_len h.1.1, by omega⟩
theorem absW_ok {c : Int} {l : List Wt} {i : Nat} (h : ∀ j, j < i → okW c (l.getD j ([], 0)) = true) (hi : i ≤ l.length) : absW (l.take i) ≤ i * 1000000 := by
  induction i with
  | zero => exact Nat.zero_le _
  | succ i ih =>
    have h1 := ih (fun j hj => h j (by omega)) (by omega)
    have h2 := (okW_len (h i (by omega))).2
    rw [take_succ_getD ([], 0) (by omega)]
    have : ∀ (a : List Wt) (x : Wt), absW (a ++ [x]) = absW a + x.2.natAbs := by
      intro a x; unfold absW; induction a with
      | nil => simp [sumL]
      | cons y a ih => simp only [List.cons_append, sumL, ih]; omega
    rw [this]; omega
theorem rows_ok {c : Int} {l : List Wt} (h : ∀ j, j < l.length → okW c (l.getD j ([], 0)) = true) : ∀ x ∈ sumWs l, x.1.length ≤ 1048576 := by
  intro x hx
  obtain ⟨y, hy, e⟩ := sumWs_mem hx
  obtain ⟨j, hj, rfl⟩ := List.getElem_of_mem hy
  have := (okW_len (h j hj)).1
  rw [← e]
  simp only [List.getD_eq_getElem?_getD, List.getElem?_eq_getElem hj, Option.getD_some] at this
  omega
theorem all_ok {c : Int} {l : List Wt} (h : ∀ j, j < l.length → okW c (l.getD j ([], 0)) = true) : l.all (okW c) = true := by
  rw [List.all_eq_true]
  intro x hx
  obtain ⟨j, hj, rfl⟩ := List.getElem_of_mem hx
  simpa [List.getD_eq_getElem?_getD, hj] using h j hj
theorem sNewTable_pf (c : Int) (l : List (List Int × Int)) : PF Try.prog 7 [.int .i64 c, vWeightedS l] (.tup [.agg [.int .i64 (((newTb c l).1).1), vWeightedS (((newTb c l).1).2)], .bool ((newTb c l).2)]) := by
  refine PF.text Try.func7 rfl rfl rfl fun B => ?_
  refine SC.len 1 rfl fun hlen1 => ?_
  refine SC.seq ?_
  refine SC.region ?_
  refine RG.go tab 2 [] rfl ?_
  refine RG.nil ?_
  refine SC.seq ?_
  refine SC.cut [(0, .int .i64 c), (1, vWeightedS l), (4, .ptr 0 1 0 0), (16, .bool ((!(inB c 0 6)) || (decide ((l.length : Int) > 200))))] [some ⟨26, 2, [[.int .i64 0, .nsl]]⟩] rfl ?_ ?_
  · refine SC.region ?_
    refine RG.go tab 1 [] rfl ?_
    refine RG.pf rfl rfl (l1In_pf c 0 6) rfl ?_
    refine RG.go tab 2 [] rfl ?_
    refine RG.split 12 rfl fun b1 hb1 => ?_
    cases b1
    · try have hp1 := of_decide_eq_false hb1
      refine RG.go tab 4 [] rfl ?_
      refine RG.nil ?_
      exact ⟨Drop.mask [true] (rfl) ⟨Sc.one rfl, trivial⟩, rfl, rfl, rfl, rfl, rfl, rfl, (show AV.bool (decide ((l.length : Int) > 200)) = AV.bool ((!(inB c 0 6)) || (decide ((l.length : Int) > 200))) from by first | rfl | ((try simp only [Int.toNat_natCast] at hb1); first | (rw [hb1]; done) | (rw [hb1]; rfl)) | (simp only [hb1]; rfl) | simp_all), rfl, trivial⟩
    · try have hp1 := of_decide_eq_true hb1
      refine RG.go tab 4 [] rfl ?_
      refine RG.nil ?_
      exact ⟨Drop.mask [true] (rfl) ⟨Sc.one rfl, trivial⟩, rfl, rfl, rfl, rfl, rfl, rfl, (show AV.bool true = AV.bool ((!(inB c 0 6)) || (decide ((l.length : Int) > 200))) from by first | rfl | ((try simp only [Int.toNat_natCast] at hb1); first | (rw [hb1]; done) | (rw [hb1]; rfl)) | (simp only [hb1]; rfl) | simp_all), rfl, trivial⟩
  · refine SC.cond rfl (fun hb2 => ?_) (fun hb2 => ?_)
    · try simp only [decide_eq_true_eq, Bool.not_eq_eq_eq_not, Bool.not_true, Bool.or_eq_true] at hb2
      have hbad := hb2
      refine SC.seq ?_
      refine SC.region ?_
      refine RG.go tab 1 [] rfl ?_
      refine RG.go tab 1 [] rfl ?_
      refine RG.liftCell 0 1 72 2 rfl rfl rfl ?_
      refine RG.go tab 1 [] rfl ?_
      refine RG.nil ?_
      refine SC.ret (End.ret tab rfl ?_)
      rw [show newTb c l = ((0, []), false) from by exact newTb_bad hbad]
      exact .tup rfl (fun j hj => by match j, hj with | 0, _ => exact .agg rfl (fun j hj => by match j, hj with | 0, _ => exact .same rfl | 1, _ => exact (SealB.rowsL (l := []) (f := rW) ([], 0) rfl (fun _ _ => ⟨rfl, rfl⟩) (by first | rfl | assumption | omega | (simp only [List.length_set]; first | assumption | omega) | (simp; omega)))) | 1, _ => exact .same rfl)
    · try simp only [decide_eq_false_iff_not, Bool.not_eq_eq_eq_not, Bool.not_false, Bool.or_eq_false_iff, Int.not_lt] at hb2
      have hgood := hb2
      have hgood2 : (inB c 0 6 && decide ((l.length : Int) ≤ 200)) = true := by rw [hgood.1, decide_eq_true (by omega)]; rfl
      refine SC.skip ?_
      refine SC.seq ?_
      refine SC.region ?_
      refine RG.go tab 1 [] rfl ?_
      refine RG.nilI 6 (vWeightedS []) rfl rfl ?_
      refine RG.nil ?_
      refine SC.seq ?_
      refine SC.seq ?_
      refine SC.region ?_
      refine RG.go tab 3 [] rfl ?_
      refine RG.nil ?_
      refine SC.block ?_
      refine SC.loop2 (fun (i : Nat) (acc : List Wt) => l.length - i) (fun (i : Nat) (acc : List Wt) => i ≤ l.length ∧ acc = sumWs (l.take i) ∧ ∀ j, j < i → okW c (l.getD j ([], 0)) = true) (fun (i : Nat) (acc : List Wt) => [(0, .int .i64 c), (4, .ptr 0 1 0 0), (6, vWeightedS acc), (18, vWeightedS l), (19, .int .i64 (l.length : Int)), (20, .int .i64 ((i : Nat) : Int))]) (fun (i : Nat) (acc : List Wt) => [some ⟨26, 2, [[.int .i64 0, .nsl]]⟩]) 0 [] ⟨Nat.zero_le _, rfl, fun j hj => absurd hj (Nat.not_lt_zero _)⟩ (Drop.mask [true] (rfl) ⟨Sc.one rfl, trivial⟩) ⟨rfl, rfl, rfl, rfl, rfl, rfl, rfl, rfl, rfl, rfl, rfl, rfl, trivial⟩ (fun _ _ => Nat.le_of_ble_eq_true rfl) fun i acc hI0 => ?_
      obtain ⟨hi, hacc, hI⟩ := hI0
      have hab := absW_take l i
      have hab2 := absW_ok hI hi
      rw [← hacc] at hab
      refine SC.seq ?_
      refine SC.region ?_
      refine RG.go tab 1 [] rfl ?_
      refine RG.nil ?_
      refine SC.seq ?_
      refine SC.cond rfl (fun hb3 => ?_) (fun hb3 => ?_)
      · try simp only [decide_eq_true_eq] at hb3
        refine SC.skip ?_
        refine SC.seq ?_
        refine SC.block ?_
        refine SC.seq ?_
        refine SC.region ?_
        refine RG.ask tab 4 [] rfl (by (repeat' refine And.intro ?_ ?_) <;> first | rfl | omega | (unfold in64; omega) | (simp; done) | (simp; omega) | (simp at *; omega)) ?_
        refine RG.nil ?_
        refine SC.seq ?_
        refine SC.cut [(0, .int .i64 c), (4, .ptr 0 1 0 0), (6, vWeightedS acc), (8, .ptr 1 1 0 0), (18, vWeightedS l), (19, .int .i64 (l.length : Int)), (20, .int .i64 ((i : Nat) : Int)), (41, .bool (((!(goodRow ((l.getD i ([], 0)).1))) || ((((l.getD i ([], 0)).1).length : Int) != c)) || (!(isW ((l.getD i ([], 0)).2)))))] [some ⟨26, 2, [[.int .i64 0, .nsl]]⟩, some ⟨72, 2, [[ints ((l.getD i ([], 0)).1), .int .i64 ((l.getD i ([], 0)).2)]]⟩] rfl ?_ ?_
        · refine SC.region ?_
          refine RG.go tab 2 [] rfl ?_
          refine RG.pf rfl rfl (sGoodRow_pf ((l.getD i ([], 0)).1)) rfl ?_
          refine RG.go tab 2 [] rfl ?_
          refine RG.split 28 rfl fun b4 hb4 => ?_
          cases b4
          · try have hp4 := of_decide_eq_false hb4
            refine RG.go tab 8 [] rfl ?_
            refine RG.split 36 rfl fun b5 hb5 => ?_
            cases b5
            · try have hp5 := of_decide_eq_false hb5
              refine RG.go tab 2 [] rfl ?_
              refine RG.pf rfl rfl (l2Weight_pf ((l.getD i ([], 0)).2)) rfl ?_
              refine RG.go tab 2 [] rfl ?_
              refine RG.nil ?_
              exact ⟨Drop.mask [true, true] (rfl) ⟨Sc.one rfl, Sc.one rfl, trivial⟩, rfl, rfl, rfl, rfl, rfl, rfl, rfl, rfl, rfl, rfl, rfl, rfl, rfl, rfl, (show AV.bool (!(isW ((l.getD i ([], 0)).2))) = AV.bool (((!(goodRow ((l.getD i ([], 0)).1))) || ((((l.getD i ([], 0)).1).length : Int) != c)) || (!(isW ((l.getD i ([], 0)).2)))) from by first | rfl | ((try simp only [Int.toNat_natCast] at hb4); (try simp only [Int.toNat_natCast] at hb5); first | (rw [hb4, hb5]; done) | (rw [hb4, hb5]; rfl)) | (simp only [hb4, hb5]; rfl) | simp_all), rfl, trivial⟩
            · try have hp5 := of_decide_eq_true hb5
              refine RG.go tab 5 [] rfl ?_
              refine RG.nil ?_
              exact ⟨Drop.mask [true, true] (rfl) ⟨Sc.one rfl, Sc.one rfl, trivial⟩, rfl, rfl, rfl, rfl, rfl, rfl, rfl, rfl, rfl, rfl, rfl, rfl, rfl, rfl, (show AV.bool true = AV.bool (((!(goodRow ((l.getD i ([], 0)).1))) || ((((l.getD i ([], 0)).1).length : Int) != c)) || (!(isW ((l.getD i ([], 0)).2)))) from by first | rfl | ((try simp only [Int.toNat_natCast] at hb4); (try simp only [Int.toNat_natCast] at hb5); first | (rw [hb4, hb5]; done) | (rw [hb4, hb5]; rfl)) | (simp only [hb4, hb5]; rfl) | simp_all), rfl, trivial⟩
          · try have hp4 := of_decide_eq_true hb4
            refine RG.go tab 13 [] rfl ?_
            refine RG.nil ?_
            exact ⟨Drop.mask [true, true] (rfl) ⟨Sc.one rfl, Sc.one rfl, trivial⟩, rfl, rfl, rfl, rfl, rfl, rfl, rfl, rfl, rfl, rfl, rfl, rfl, rfl, rfl, (show AV.bool true = AV.bool (((!(goodRow ((l.getD i ([], 0)).1))) || ((((l.getD i ([], 0)).1).length : Int) != c)) || (!(isW ((l.getD i ([], 0)).2)))) from by first | rfl | ((try simp only [Int.toNat_natCast] at hb4); first | (rw [hb4]; done) | (rw [hb4]; rfl)) | (simp only [hb4]; rfl) | simp_all), rfl, trivial⟩
        · refine SC.cond rfl (fun hb6 => ?_) (fun hb6 => ?_)
          · rw [okW_eq] at hb6
            have hok : okW c (l.getD i ([], 0)) = false := by simpa using hb6
            refine SC.seq ?_
            refine SC.region ?_
            refine RG.go tab 1 [] rfl ?_
            refine RG.go tab 1 [] rfl ?_
            refine RG.liftCell 0 1 72 2 rfl rfl rfl ?_
            refine RG.go tab 1 [] rfl ?_
            refine RG.nil ?_
            refine SC.ret (End.ret tab rfl ?_)
            rw [show newTb c l = ((0, []), false) from by unfold newTb; rw [all_not (p := okW c) (i := i) (d := ([], 0)) (by omega) hok, Bool.and_false]; rfl]
            exact .tup rfl (fun j hj => by match j, hj with | 0, _ => exact .agg rfl (fun j hj => by match j, hj with | 0, _ => exact .same rfl | 1, _ => exact (SealB.rowsL (l := []) (f := rW) ([], 0) rfl (fun _ _ => ⟨rfl, rfl⟩) (by first | rfl | assumption | omega | (simp only [List.length_set]; first | assumption | omega) | (simp; omega)))) | 1, _ => exact .same rfl)
          · rw [okW_eq] at hb6
            have hok : okW c (l.getD i ([], 0)) = true := by simpa using hb6
            have hokl := okW_len hok
            refine SC.skip ?_
            refine SC.region ?_
            refine RG.go tab 5 [] rfl ?_
            refine RG.pf rfl rfl (l2Put_pf acc ((l.getD i ([], 0)).1) ((l.getD i ([], 0)).2) (by omega) (by omega) (by omega)) rfl ?_
            refine RG.go tab 1 [] rfl ?_
            refine RG.nil ?_
            refine SC.region ?_
            refine RG.ask tab 2 [] rfl (by (repeat' refine And.intro ?_ ?_) <;> first | rfl | omega | (unfold in64; omega) | (simp; done) | (simp; omega) | (simp at *; omega)) ?_
            refine RG.nil ?_
            refine ⟨i + 1, putW acc ((l.getD i ([], 0)).1) ((l.getD i ([], 0)).2), (by omega), ⟨by omega, by rw [hacc, sumWs_succ (by omega)], fun j hj => (Nat.lt_succ_iff_lt_or_eq.1 hj).elim (fun h => hI j h) (fun h => by rw [h]; exact hok)⟩, Drop.mask [true] (rfl) ⟨Sc.one rfl, trivial⟩, rfl, rfl, rfl, rfl, rfl, rfl, rfl, rfl, rfl, rfl, rfl, rfl, trivial⟩
      · try simp only [decide_eq_false_iff_not, Int.not_lt] at hb3
        refine SC.exit ?_
        refine SC.seq ?_
        refine SC.region ?_
        refine RG.go tab 2 [] rfl ?_
        refine RG.pf rfl rfl (l2Tell_pf c acc (by omega) (by rw [hacc, List.take_of_length_le (by omega)]; exact rows_ok fun j hj => hI j (by omega))) rfl ?_
        refine RG.go tab 4 [] rfl ?_
        refine RG.nil ?_
        refine SC.ret (End.ret tab rfl ?_)
        rw [show newTb c l = tellTb c acc from by unfold newTb; rw [hgood2, all_ok (fun j hj => hI j (by omega)), hacc, List.take_of_length_le (by omega)]; rfl]
        exact .same rfl
end Go.Proofs.Ythholadaflfpcaa
