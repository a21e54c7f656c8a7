import Derived.Test.YthholadaflfpcaaP9
namespace Go.Proofs.Ythholadaflfpcaa
open Go Go.Fw
/-- A weight is added to a row. -/
def putW : List Wt → List Int → Int → List Wt
  | [], r, w => if w = 0 then [] else [(r, w)]
  | x :: l, r, w => if cmpL x.1 r < 0 then x :: putW l r w else if cmpL x.1 r = 0 then (if w + x.2 = 0 then l else (r, w + x.2) :: l) else (if w = 0 then x :: l else (r, w) :: x :: l)
def absW (l : List Wt) : Nat := sumL (fun w : Wt => w.2.natAbs) l
theorem absW_le {l : List Wt} {i : Nat} (h : i < l.length) : (l.getD i ([], 0)).2.natAbs ≤ absW l := sumL_mem (fun w : Wt => w.2.natAbs) (getD_mem h)
theorem putW_at {l : List Wt} {r : List Int} {w : Int} : ∀ {k : Nat}, k ≤ l.length → (∀ j, j < k → cmpL (l.getD j ([], 0)).1 r < 0) → (k < l.length → ¬ cmpL (l.getD k ([], 0)).1 r < 0) →
    putW l r w = l.take k ++ (if k < l.length ∧ cmpL (l.getD k ([], 0)).1 r = 0 then (if w + (l.getD k ([], 0)).2 = 0 then [] else [(r, w + (l.getD k ([], 0)).2)]) ++ l.drop (k + 1) else (if w = 0 then [] else [(r, w)]) ++ l.drop k) := by
  induction l with
  | nil => intro k hk _ _; have : k = 0 := by simpa using hk
           subst this; simp [putW]
  | cons x l ih =>
    intro k hk hlt hge
    cases k with
    | zero =>
      have h0 := hge (by simp)
      simp only [List.getD_cons_zero] at h0
      simp only [putW, if_neg h0, List.take_zero, List.nil_append, List.getD_cons_zero, List.drop_zero, List.drop_succ_cons]
      by_cases h1 : cmpL x.1 r = 0
      · rw [if_pos h1, if_pos (show 0 < (x :: l).length ∧ cmpL x.1 r = 0 from ⟨by simp, h1⟩)]; split <;> simp
      · rw [if_neg h1, if_neg (show ¬ (0 < (x :: l).length ∧ cmpL x.1 r = 0) from fun h => h1 h.2)]; split <;> simp
    | succ k =>
      have h0 := hlt 0 (by omega)
      simp only [List.getD_cons_zero] at h0
      simp only [putW, if_pos h0]
      rw [ih (k := k) (by simpa using hk) (fun j hj => by simpa using hlt (j + 1) (by omega)) (fun h => by simpa using hge (by simpa using h))]
      simp
theorem l2Put_pf (l : List (List Int × Int)) (r : List Int) (w : Int) (h1 : l.length ≤ 1099511627776) (h2 : r.length ≤ 1048576) (h3 : absW l + w.natAbs ≤ 4611686018427387904) : PF Try.prog 34 [vWeightedS l, .agg [ints r], .int .i64 w] (vWeightedS (putW l r w)) := by
  refine PF.text Try.func34 rfl rfl rfl fun B => ?_
  refine SC.len 0 rfl fun hlen0 => ?_
  refine SC.lenA 1 0 rfl (Nat.le_of_ble_eq_true rfl) rfl fun hlen1_0 => ?_
  refine SC.seq ?_
  refine SC.region ?_
  refine RG.go tab 2 [] rfl ?_
  refine RG.nil ?_
  refine SC.seq ?_
  refine SC.region ?_
  refine RG.go tab 1 [] rfl ?_
  refine RG.nil ?_
  refine SC.seq ?_
  refine SC.block ?_
  refine SC.loop1 (fun (k : Nat) => l.length - k) (fun (k : Nat) => k ≤ l.length ∧ ∀ j, j < k → cmpL (l.getD j ([], 0)).1 r < 0) (fun (k : Nat) => [(0, vWeightedS l), (2, .int .i64 w), (4, .ptr 0 1 0 0), (7, .int .i64 ((k : Nat) : Int))]) (fun (k : Nat) => [some ⟨70, 1, [[ints r]]⟩]) 0 ⟨Nat.zero_le _, fun j hj => absurd hj (Nat.not_lt_zero _)⟩ (Drop.mask [true] (rfl) ⟨Sc.one rfl, trivial⟩) ⟨rfl, rfl, rfl, rfl, rfl, rfl, rfl, rfl, trivial⟩ (fun _ => Nat.le_of_ble_eq_true rfl) fun k hI0 => ?_
  obtain ⟨hk, hI⟩ := hI0
  refine SC.seq ?_
  refine SC.cut [(0, vWeightedS l), (2, .int .i64 w), (4, .ptr 0 1 0 0), (7, .int .i64 ((k : Nat) : Int)), (23, .bool ((decide (((k : Nat) : Int) < (l.length : Int))) && (decide ((cmpL ((l.getD k ([], 0)).1) r : Int) < 0))))] [some ⟨70, 1, [[ints r]]⟩] rfl ?_ ?_
  · refine SC.drawn tab [] (fun kk => if kk = 11 then .pf (.int .i64 (cmpL ((l.getD k ([], 0)).1) r)) else .none) [] [] [0, 1, 2, 3, 4, 5, 6, 7, 8, 9, 10, 11, 12, 13] 72 rfl mixed (by decide +kernel) ?_
    refine QR.go 5 rfl ?_
    refine QR.split 14 rfl fun b1 hb1 => ?_
    cases b1
    · try have hp1 := of_decide_eq_false hb1
      refine QR.go 9 rfl ?_
      refine QR.nil ?_
      exact ⟨Drop.mask [true] (rfl) ⟨Sc.one rfl, trivial⟩, rfl, rfl, rfl, rfl, rfl, rfl, rfl, rfl, (show AV.bool false = AV.bool ((decide (((k : Nat) : Int) < (l.length : Int))) && (decide ((cmpL ((l.getD k ([], 0)).1) r : Int) < 0))) from by first | rfl | ((try simp only [Int.toNat_natCast] at hb1); first | (rw [hb1]; done) | (rw [hb1]; rfl)) | (simp only [hb1]; rfl) | simp_all), rfl, trivial⟩
    · try have hp1 := of_decide_eq_true hb1
      refine QR.ask 6 rfl (by (repeat' refine And.intro ?_ ?_) <;> first | rfl | omega | (unfold in64; omega) | (simp; done) | (simp; omega) | (simp at *; omega)) ?_
      refine QR.pfc rfl rfl (l1Compare_pf ((l.getD k ([], 0)).1) r) rfl ?_
      refine QR.go 2 rfl ?_
      refine QR.nil ?_
      exact ⟨Drop.mask [true] (rfl) ⟨Sc.one rfl, trivial⟩, rfl, rfl, rfl, rfl, rfl, rfl, rfl, rfl, (show AV.bool (decide ((cmpL ((l.getD k ([], 0)).1) r : Int) < 0)) = AV.bool ((decide (((k : Nat) : Int) < (l.length : Int))) && (decide ((cmpL ((l.getD k ([], 0)).1) r : Int) < 0))) from by first | rfl | ((try simp only [Int.toNat_natCast] at hb1); first | (rw [hb1]; done) | (rw [hb1]; rfl)) | (simp only [hb1]; rfl) | simp_all), rfl, trivial⟩
  · refine SC.cond rfl (fun hb2 => ?_) (fun hb2 => ?_)
    · try simp only [decide_eq_true_eq, Bool.and_eq_true] at hb2
      have hcnd := hb2
      refine SC.skip ?_
      refine SC.block ?_
      refine SC.region ?_
      refine RG.ask tab 3 [] rfl (by (repeat' refine And.intro ?_ ?_) <;> first | rfl | omega | (unfold in64; omega) | (simp; done) | (simp; omega) | (simp at *; omega)) ?_
      refine RG.nil ?_
      refine ⟨k + 1, (by omega), ⟨by omega, fun j hj => (Nat.lt_succ_iff_lt_or_eq.1 hj).elim (fun h => hI j h) (fun h => by rw [h]; exact hcnd.2)⟩, Drop.mask [true] (rfl) ⟨Sc.one rfl, trivial⟩, rfl, rfl, rfl, rfl, rfl, rfl, rfl, rfl, trivial⟩
    · try simp only [decide_eq_true_eq, decide_eq_false_iff_not, Bool.and_eq_false_imp, Int.not_lt] at hb2
      have hge : k < l.length → ¬ cmpL (l.getD k ([], 0)).1 r < 0 := fun h => by have := hb2 (by omega); omega
      refine SC.exit ?_
      refine SC.seq ?_
      refine SC.region ?_
      refine RG.go tab 1 [] rfl ?_
      refine RG.liftSlot 8 72 2 rfl ?_
      refine RG.nil ?_
      refine SC.seq ?_
      refine SC.region ?_
      refine RG.go tab 3 [] rfl ?_
      refine RG.ask tab 1 [] rfl (by (repeat' refine And.intro ?_ ?_) <;> first | rfl | omega | (unfold in64; omega) | (simp; done) | (simp; omega) | (simp at *; omega)) ?_
      refine RG.reI 29 (vWeightedS (l.take k)) _ _ rfl rfl (by simp <;> omega) (fun i hi => by have e := getD_tk (l := l) (d := ([], 0)) (show i < k by simp only [List.length_take] at hi; omega); show [ints ((l.getD (0 + i) ([], 0)).1), .int .i64 ((l.getD (0 + i) ([], 0)).2)] = _; simp only [Nat.zero_add, e]) ?_
      refine RG.appL tab [] rW [] (l.take k) rfl rfl rfl (els_isl (l.take k) ([], 0) rfl (fun _ _ => rfl)) ⟨fun _ _ => ⟨rfl, rfl⟩, (by first | rfl | (simp; done) | (simp; omega) | (simp only [List.length_map]; omega)), (by show (_ + _) * 32 ≤ _; (try simp only [List.length_take]); omega)⟩ rfl ?_
      refine RG.go tab 1 [] rfl ?_
      refine RG.nil ?_
      refine SC.seq ?_
      refine SC.region ?_
      refine RG.go tab 1 [] rfl ?_
      refine RG.mv rfl rfl (l2OwnRow_mf r (by first | assumption | omega | (simp only [sumL_fillWs, sumL_fillGs]; omega) | (simp; omega) | simp_all)) ⟨.same rfl, trivial⟩ ?_
      refine RG.go tab 4 [] rfl ?_
      refine RG.nil ?_
      refine SC.seq ?_
      refine SC.cut [(0, vWeightedS l), (7, .int .i64 ((k : Nat) : Int)), (8, .sl 1 (0 + (l.take k).length)), (9, .ptr 2 1 0 0), (48, .bool ((decide (((k : Nat) : Int) < (l.length : Int))) && ((cmpL ((l.getD k ([], 0)).1) r : Int) == 0)))] [none, some ⟨72, 2, ([] ++ (l.take k)).map rW⟩, some ⟨72, 2, [[ints r, .int .i64 w]]⟩] rfl ?_ ?_
      · refine SC.drawn tab [] (fun kk => if kk = 11 then .pf (.int .i64 (cmpL ((l.getD k ([], 0)).1) r)) else .none) [] [] [0, 1, 2, 3, 4, 5, 6, 7, 8, 9, 10, 11, 12, 13] 72 rfl mixed (by decide +kernel) ?_
        refine QR.go 5 rfl ?_
        refine QR.split 39 rfl fun b3 hb3 => ?_
        cases b3
        · try have hp3 := of_decide_eq_false hb3
          refine QR.go 9 rfl ?_
          refine QR.nil ?_
          exact ⟨Drop.mask [false, true, true] (rfl) ⟨Sc.rows fun _ => ⟨rfl, rfl⟩, Sc.one rfl, trivial⟩, rfl, rfl, rfl, rfl, rfl, rfl, rfl, rfl, (show AV.bool false = AV.bool ((decide (((k : Nat) : Int) < (l.length : Int))) && ((cmpL ((l.getD k ([], 0)).1) r : Int) == 0)) from by first | rfl | ((try simp only [Int.toNat_natCast] at hb3); first | (rw [hb3]; done) | (rw [hb3]; rfl)) | (simp only [hb3]; rfl) | simp_all), rfl, trivial⟩
        · try have hp3 := of_decide_eq_true hb3
          refine QR.ask 6 rfl (by (repeat' refine And.intro ?_ ?_) <;> first | rfl | omega | (unfold in64; omega) | (simp; done) | (simp; omega) | (simp at *; omega)) ?_
          refine QR.pfc rfl rfl (l1Compare_pf ((l.getD k ([], 0)).1) r) rfl ?_
          refine QR.go 2 rfl ?_
          refine QR.nil ?_
          exact ⟨Drop.mask [false, true, true] (rfl) ⟨Sc.rows fun _ => ⟨rfl, rfl⟩, Sc.one rfl, trivial⟩, rfl, rfl, rfl, rfl, rfl, rfl, rfl, rfl, (show AV.bool ((cmpL ((l.getD k ([], 0)).1) r : Int) == 0) = AV.bool ((decide (((k : Nat) : Int) < (l.length : Int))) && ((cmpL ((l.getD k ([], 0)).1) r : Int) == 0)) from by first | rfl | ((try simp only [Int.toNat_natCast] at hb3); first | (rw [hb3]; done) | (rw [hb3]; rfl)) | (simp only [hb3]; rfl) | simp_all), rfl, trivial⟩
      · refine SC.cond rfl (fun hb4 => ?_) (fun hb4 => ?_)
        · try simp only [decide_eq_true_eq, beq_iff_eq, Bool.and_eq_true] at hb4
          have heq := hb4
          have hab := absW_le (l := l) (i := k) (by omega)
          refine SC.seq ?_
          refine SC.drawn tab [] (fun _ => .none) [] [2] [0, 1, 2, 3, 4, 5, 6, 7, 8, 9] 72 rfl mixed (by decide +kernel) ?_
          refine QR.ask 10 rfl (by (repeat' refine And.intro ?_ ?_) <;> first | rfl | omega | (unfold in64; omega) | (simp; done) | (simp; omega) | (simp at *; omega)) ?_
          refine QR.nil ?_
          refine SC.region ?_
          refine RG.ask tab 3 [] rfl (by (repeat' refine And.intro ?_ ?_) <;> first | rfl | omega | (unfold in64; omega) | (simp; done) | (simp; omega) | (simp at *; omega)) ?_
          refine RG.nil ?_
          refine SC.seq ?_
          refine SC.seq ?_
          refine SC.region ?_
          refine RG.go tab 3 [] rfl ?_
          refine RG.nil ?_
          refine SC.cond rfl (fun hb5 => ?_) (fun hb5 => ?_)
          · try simp only [bne_iff_ne, ne_eq, Int.toNat_natCast] at hb5
            have hnz := hb5
            refine SC.region ?_
            refine RG.go tab 3 [] rfl ?_
            refine RG.appL tab [] rW ([] ++ (l.take k)) [(r, w + ((l.getD k ([], 0)).2))] rfl rfl rfl rfl ⟨(by first | rfl | (simp; done) | (simp; omega) | (simp only [List.length_map]; omega)), (by show (_ + _) * 32 ≤ _; (try simp only [List.length_take]); omega)⟩ rfl ?_
            refine RG.go tab 1 [] rfl ?_
            refine RG.nil ?_
            refine SC.seq ?_
            refine SC.region ?_
            refine RG.go tab 3 [] rfl ?_
            refine RG.ask tab 1 [] rfl (by (repeat' refine And.intro ?_ ?_) <;> first | rfl | omega | (unfold in64; omega) | (simp; done) | (simp; omega) | (simp at *; omega)) ?_
            refine RG.reI 70 (vWeightedS (l.drop (k + 1))) _ _ rfl rfl (by simp <;> omega) (fun i hi => by show [ints ((l.getD ((k + 1) + i) ([], 0)).1), .int .i64 ((l.getD ((k + 1) + i) ([], 0)).2)] = _; simp only [getD_dr]) ?_
            refine RG.appL tab [] rW (([] ++ (l.take k)) ++ [(r, w + ((l.getD k ([], 0)).2))]) (l.drop (k + 1)) rfl rfl rfl (els_isl (l.drop (k + 1)) ([], 0) rfl (fun _ _ => rfl)) ⟨fun _ _ => ⟨rfl, rfl⟩, (by first | rfl | (simp; done) | (simp; omega) | (simp only [List.length_map]; omega)), (by show (_ + _) * 32 ≤ _; (try simp only [List.length_take, List.length_drop]); omega)⟩ rfl ?_
            refine RG.go tab 1 [] rfl ?_
            refine RG.nil ?_
            refine SC.ret (End.ret tab rfl ?_)
            have hput := putW_at (w := w) hk hI hge
            have hfin : putW l r w = (([] ++ (l.take k)) ++ [(r, w + ((l.getD k ([], 0)).2))]) ++ (l.drop (k + 1)) := by rw [hput, if_pos ⟨by omega, heq.2⟩, if_neg hnz]; simp
            rw [hfin]
            rw [show 0 + (l.take k).length + 1 + (l.drop (k + 1)).length = ((([] ++ (l.take k)) ++ [(r, w + ((l.getD k ([], 0)).2))]) ++ (l.drop (k + 1))).length from by simp <;> omega]
            exact SealB.rows (l := (([] ++ (l.take k)) ++ [(r, w + ((l.getD k ([], 0)).2))]) ++ (l.drop (k + 1))) (f := rW) ([], 0) rfl (fun _ _ => ⟨rfl, rfl⟩) rfl
          · try simp only [Int.toNat_natCast, bne_eq_false_iff_eq] at hb5
            have hz := hb5
            refine SC.skip ?_
            refine SC.seq ?_
            refine SC.region ?_
            refine RG.go tab 3 [] rfl ?_
            refine RG.ask tab 1 [] rfl (by (repeat' refine And.intro ?_ ?_) <;> first | rfl | omega | (unfold in64; omega) | (simp; done) | (simp; omega) | (simp at *; omega)) ?_
            refine RG.reI 70 (vWeightedS (l.drop (k + 1))) _ _ rfl rfl (by simp <;> omega) (fun i hi => by show [ints ((l.getD ((k + 1) + i) ([], 0)).1), .int .i64 ((l.getD ((k + 1) + i) ([], 0)).2)] = _; simp only [getD_dr]) ?_
            refine RG.appL tab [] rW ([] ++ (l.take k)) (l.drop (k + 1)) rfl rfl rfl (els_isl (l.drop (k + 1)) ([], 0) rfl (fun _ _ => rfl)) ⟨fun _ _ => ⟨rfl, rfl⟩, (by first | rfl | (simp; done) | (simp; omega) | (simp only [List.length_map]; omega)), (by show (_ + _) * 32 ≤ _; (try simp only [List.length_take, List.length_drop]); omega)⟩ rfl ?_
            refine RG.go tab 1 [] rfl ?_
            refine RG.nil ?_
            refine SC.ret (End.ret tab rfl ?_)
            have hput := putW_at (w := w) hk hI hge
            have hfin : putW l r w = ([] ++ (l.take k)) ++ (l.drop (k + 1)) := by rw [hput, if_pos ⟨by omega, heq.2⟩, if_pos hz]; simp
            rw [hfin]
            rw [show 0 + (l.take k).length + (l.drop (k + 1)).length = (([] ++ (l.take k)) ++ (l.drop (k + 1))).length from by simp <;> omega]
            exact SealB.rows (l := ([] ++ (l.take k)) ++ (l.drop (k + 1))) (f := rW) ([], 0) rfl (fun _ _ => ⟨rfl, rfl⟩) rfl
        · try simp only [decide_eq_true_eq, ne_eq, Bool.and_eq_false_imp, beq_eq_false_iff_ne] at hb4
          have hneq := hb4
          refine SC.skip ?_
          refine SC.seq ?_
          refine SC.seq ?_
          refine SC.region ?_
          refine RG.go tab 3 [] rfl ?_
          refine RG.nil ?_
          refine SC.cond rfl (fun hb6 => ?_) (fun hb6 => ?_)
          · try simp only [bne_iff_ne, ne_eq] at hb6
            have hnz := hb6
            refine SC.region ?_
            refine RG.go tab 3 [] rfl ?_
            refine RG.appL tab [] rW ([] ++ (l.take k)) [(r, w)] rfl rfl rfl rfl ⟨(by first | rfl | (simp; done) | (simp; omega) | (simp only [List.length_map]; omega)), (by show (_ + _) * 32 ≤ _; (try simp only [List.length_take]); omega)⟩ rfl ?_
            refine RG.go tab 1 [] rfl ?_
            refine RG.nil ?_
            refine SC.seq ?_
            refine SC.region ?_
            refine RG.go tab 3 [] rfl ?_
            refine RG.ask tab 1 [] rfl (by (repeat' refine And.intro ?_ ?_) <;> first | rfl | omega | (unfold in64; omega) | (simp; done) | (simp; omega) | (simp at *; omega)) ?_
            refine RG.reI 70 (vWeightedS (l.drop k)) _ _ rfl rfl (by simp <;> omega) (fun i hi => by show [ints ((l.getD (k + i) ([], 0)).1), .int .i64 ((l.getD (k + i) ([], 0)).2)] = _; simp only [getD_dr]) ?_
            refine RG.appL tab [] rW (([] ++ (l.take k)) ++ [(r, w)]) (l.drop k) rfl rfl rfl (els_isl (l.drop k) ([], 0) rfl (fun _ _ => rfl)) ⟨fun _ _ => ⟨rfl, rfl⟩, (by first | rfl | (simp; done) | (simp; omega) | (simp only [List.length_map]; omega)), (by show (_ + _) * 32 ≤ _; (try simp only [List.length_take, List.length_drop]); omega)⟩ rfl ?_
            refine RG.go tab 1 [] rfl ?_
            refine RG.nil ?_
            refine SC.ret (End.ret tab rfl ?_)
            have hput := putW_at (w := w) hk hI hge
            have hfin : putW l r w = (([] ++ (l.take k)) ++ [(r, w)]) ++ (l.drop k) := by rw [hput, if_neg (fun h => hneq (by omega) h.2), if_neg hnz]; simp
            rw [hfin]
            rw [show 0 + (l.take k).length + 1 + (l.drop k).length = ((([] ++ (l.take k)) ++ [(r, w)]) ++ (l.drop k)).length from by simp <;> omega]
            exact SealB.rows (l := (([] ++ (l.take k)) ++ [(r, w)]) ++ (l.drop k)) (f := rW) ([], 0) rfl (fun _ _ => ⟨rfl, rfl⟩) rfl
          · try simp only [bne_eq_false_iff_eq] at hb6
            have hz := hb6
            refine SC.skip ?_
            refine SC.seq ?_
            refine SC.region ?_
            refine RG.go tab 3 [] rfl ?_
            refine RG.ask tab 1 [] rfl (by (repeat' refine And.intro ?_ ?_) <;> first | rfl | omega | (unfold in64; omega) | (simp; done) | (simp; omega) | (simp at *; omega)) ?_
            refine RG.reI 70 (vWeightedS (l.drop k)) _ _ rfl rfl (by simp <;> omega) (fun i hi => by show [ints ((l.getD (k + i) ([], 0)).1), .int .i64 ((l.getD (k + i) ([], 0)).2)] = _; simp only [getD_dr]) ?_
            refine RG.appL tab [] rW ([] ++ (l.take k)) (l.drop k) rfl rfl rfl (els_isl (l.drop k) ([], 0) rfl (fun _ _ => rfl)) ⟨fun _ _ => ⟨rfl, rfl⟩, (by first | rfl | (simp; done) | (simp; omega) | (simp only [List.length_map]; omega)), (by show (_ + _) * 32 ≤ _; (try simp only [List.length_take, List.length_drop]); omega)⟩ rfl ?_
            refine RG.go tab 1 [] rfl ?_
            refine RG.nil ?_
            refine SC.ret (End.ret tab rfl ?_)
            have hput := putW_at (w := w) hk hI hge
            have hfin : putW l r w = ([] ++ (l.take k)) ++ (l.drop k) := by rw [hput, if_neg (fun h => hneq (by omega) h.2), if_pos hz]; simp
            rw [hfin]
            rw [show 0 + (l.take k).length + (l.drop k).length = (([] ++ (l.take k)) ++ (l.drop k)).length from by simp <;> omega]
            exact SealB.rows (l := ([] ++ (l.take k)) ++ (l.drop k)) (f := rW) ([], 0) rfl (fun _ _ => ⟨rfl, rfl⟩) rfl
end Go.Proofs.Ythholadaflfpcaa
