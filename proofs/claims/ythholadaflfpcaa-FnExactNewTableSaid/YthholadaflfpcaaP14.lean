import Derived.Test.YthholadaflfpcaaP13
namespace Go.Proofs.Ythholadaflfpcaa
open Go Go.Fw
theorem absW_dr (l : List Wt) (i : Nat) : absW (l.drop i) ≤ absW l := by
  unfold absW
  induction l generalizing i with
  | nil => simp
  | cons x l ih => cases i with
    | zero => simp
    | succ i => have := ih i; simp only [List.drop_succ_cons, sumL]; omega
theorem absW_step {ys : List Wt} {q : Nat} (h : q < ys.length) : absW (ys.drop q) = (ys.getD q ([], 0)).2.natAbs + absW (ys.drop (q + 1)) := sumL_drop _ ([], 0) h
theorem os_row {I : Gh} {b : AV} {s : Int} {x : Nat} (h : OS (.agg [.own I b, .int .i64 s]) x) : OS (.agg [.own I b]) x := by
  rcases os_cons h with h | h
  · exact .agg (j := 0) (Nat.zero_lt_one) h
  · rcases os_cons h with h | h
    · cases h
    · cases h with | agg hj _ => exact absurd hj (Nat.not_lt_zero _)
theorem sortW (xs : List Wt) (L : Nat) (hL : xs.length = L) (hx : L ≤ 1099511627776) : FC Try.prog 83 [.sl 0 L, .fn 84 [] []] [some ⟨72, 2, xs.map rW⟩] (fun r S' => ∃ ob', S' = [some ob'] ∧ (r = .tup [] ∧ ∃ ys : List Wt, ob' = ⟨72, 2, ys.map rW⟩ ∧ ys.Perm xs ∧ Srt cW ([], 0) ys 0 L)) :=
  (sortStableW xs L hL hx).mono fun r S' ⟨h1, ys, h2, h3, h4⟩ => ⟨_, h2, h1, ys, rfl, h3, h4⟩
theorem absW_perm {l m : List Wt} (h : l.Perm m) : absW l = absW m := by
  unfold absW
  induction h with
  | nil => rfl
  | cons x _ ih => simp only [sumL, ih]
  | swap x y l => simp only [sumL]; omega
  | trans _ _ ih1 ih2 => rw [ih1, ih2]
theorem fil_app {els : List (List AV)} {res : List Wt} {k : Nat} {r : List Int} {s : Int} {I : Gh} (hF : Fil 2 k k (fun j => rW (res.getD j ([], 0))) els) (hk : res.length = k) (hf : ∀ q j j' x, q < k → j < 2 → j' < 2 → OS ([AV.own I (ints r), .int .i64 s].getD j .undef) x → ¬ OS ((els.getD q []).getD j' .undef) x) :
    Fil 2 (k + 1) (k + 1) (fun j => rW ((res ++ [(r, s)]).getD j ([], 0))) (els ++ [[.own I (ints r), .int .i64 s]]) := by
  refine (hF.congr (get' := fun j => rW ((res ++ [(r, s)]).getD j ([], 0))) fun j hj => by rw [getD_append_left _ _ _ _ (by omega)]).app ?_ (fun _ => rfl) hf
  rw [getD_append_right _ _ _ _ (by omega), show k - res.length = 0 by omega]
  exact cells_ownS ⟨_, rfl⟩ rfl rfl
theorem summed_mf (c : Int) (ls : List (List (List Int × Int))) (h1 : ls.flatten.length ≤ 1099511627776) (h2 : ∀ x ∈ ls.flatten, x.1.length ≤ 1048576) (h3 : absW ls.flatten ≤ 4611686018427387904) : MF Try.prog 43 [.int .i64 c, vWeightedSS ls] (.agg [.int .i64 c, vWeightedS (sumWs ls.flatten)]) := by
  refine MF.text Try.func43 rfl rfl rfl fun B => ?_
  refine SC.len 1 rfl fun hlen1 => ?_
  refine SC.seq ?_
  refine SC.region ?_
  refine RG.go tab 1 [3] rfl ?_
  refine RG.nil ?_
  refine SC.seq ?_
  refine SC.region ?_
  refine RG.go tab 3 [3] rfl ?_
  refine RG.go tab 1 [] rfl ?_
  refine RG.liftCell 1 1 72 2 rfl rfl rfl ?_
  refine RG.nil ?_
  refine SC.seq ?_
  refine SC.region ?_
  refine RG.go tab 1 [3] rfl ?_
  refine RG.fr0 rfl rfl (concatW ls h1) (fun r ob' h => by obtain ⟨rfl, rfl⟩ := h; exact ⟨rfl, rfl, PvO.rows fun _ _ => ⟨rfl, rfl⟩⟩) rfl (fun r0 ob' hq => ?_)
  obtain ⟨rfl, rfl⟩ := hq
  refine RG.go tab 1 [3] rfl ?_
  refine RG.nil ?_
  refine SC.seq ?_
  refine SC.region ?_
  refine RG.go tab 1 [3] rfl ?_
  refine RG.fr1 3 rfl rfl rfl (sortW ls.flatten ls.flatten.length rfl h1) (fun r ob' h => by obtain ⟨rfl, ys, rfl, _, _⟩ := h; exact ⟨rfl, rfl, PvO.rows fun _ _ => ⟨rfl, rfl⟩⟩) (PvO.rows fun _ _ => ⟨rfl, rfl⟩) rfl rfl (fun r0 ob' hq => ?_)
  obtain ⟨rfl, ys, rfl, hpm, hst⟩ := hq
  have hyl : ys.length = ls.flatten.length := hpm.length_eq
  have hyr : ∀ x ∈ ys, x.1.length ≤ 1048576 := fun x hx => h2 x (hpm.mem_iff.1 hx)
  have hya : absW ys ≤ 4611686018427387904 := by rw [absW_perm hpm]; exact h3
  refine RG.nil ?_
  refine SC.seq ?_
  refine SC.seq ?_
  refine SC.region ?_
  refine RG.go tab 1 [3] rfl ?_
  refine RG.nil ?_
  refine SC.block ?_
  refine SC.loop4 (fun (i : Nat) (k : Nat) (res : List Wt) (els : List (List AV)) => ls.flatten.length - i) (fun (i : Nat) (k : Nat) (res : List Wt) (els : List (List AV)) => i ≤ ls.flatten.length ∧ res.length = k ∧ res = sumWs (ys.take i) ∧ Fil 2 k k (fun j => rW (res.getD j ([], 0))) els ∧ (i < ls.flatten.length → ∀ x ∈ res, cmpL x.1 (ys.getD i ([], 0)).1 < 0)) (fun (i : Nat) (k : Nat) (res : List Wt) (els : List (List AV)) => [(4, .ptr 0 1 0 0), (5, .ptr 1 1 0 0), (6, .sl 3 ls.flatten.length), (7, .int .i64 ((i : Nat) : Int))]) (fun (i : Nat) (k : Nat) (res : List Wt) (els : List (List AV)) => [some ⟨26, 2, [[.int .i64 0, .nsl]]⟩, some ⟨26, 2, [[.int .i64 c, .sl 2 k]]⟩, some ⟨72, 2, els⟩, some ⟨72, 2, (ys).map rW⟩]) 0 0 [] [] ⟨Nat.zero_le _, rfl, rfl, Fil.empty, fun _ x hx => by cases hx⟩ (Drop.mask [true, true, true, true] rfl ⟨Sc.one rfl, Sc.one rfl, (Fil.empty (sz := 2) (get := fun _ => [])).sc, Sc.rows fun _ => ⟨rfl, rfl⟩, trivial⟩) ⟨rfl, rfl, rfl, rfl, rfl, rfl, rfl, rfl, trivial⟩ (fun _ _ _ _ => Nat.le_of_ble_eq_true rfl) fun i k res els hI0 => ?_
  obtain ⟨hi, hkl, hres, hF, hlt⟩ := hI0
  have hkb := (absW_take ys i).2
  rw [← hres, hkl] at hkb
  refine SC.seq ?_
  refine SC.seq ?_
  refine SC.region ?_
  refine RG.ask tab 4 [3] rfl (by (repeat' refine And.intro ?_ ?_) <;> first | rfl | omega | (unfold in64; omega) | (simp; done) | (simp; omega) | (simp at *; omega)) ?_
  refine RG.nil ?_
  refine SC.cond rfl (fun hb1 => ?_) (fun hb1 => ?_)
  · try simp only [decide_eq_true_eq] at hb1
    refine SC.skip ?_
    refine SC.block ?_
    refine SC.seq ?_
    refine SC.region ?_
    refine RG.go tab 3 [3] rfl ?_
    refine RG.nil ?_
    refine SC.seq ?_
    refine SC.block ?_
    refine SC.loop2 (fun (q : Nat) (s : Int) => ls.flatten.length - q) (fun (q : Nat) (s : Int) => i ≤ q ∧ q ≤ ls.flatten.length ∧ sumWs (ys.take q) = res ++ (if s = 0 then [] else [((ys.getD i ([], 0)).1, s)]) ∧ s.natAbs + absW (ys.drop q) ≤ absW ys) (fun (q : Nat) (s : Int) => [(4, .ptr 0 1 0 0), (5, .ptr 1 1 0 0), (6, .sl 3 ls.flatten.length), (7, .int .i64 ((i : Nat) : Int)), (8, .int .i64 s), (9, .int .i64 ((q : Nat) : Int))]) (fun (q : Nat) (s : Int) => [some ⟨26, 2, [[.int .i64 0, .nsl]]⟩, some ⟨26, 2, [[.int .i64 c, .sl 2 k]]⟩, some ⟨72, 2, els⟩, some ⟨72, 2, (ys).map rW⟩]) i 0 ⟨Nat.le_refl _, hi, by rw [← hres]; simp, by have := absW_dr ys i; simp; omega⟩ (Drop.mask [true, true, true, true] (rfl) ⟨Sc.one rfl, Sc.one rfl, hF.sc, Sc.rows fun _ => ⟨rfl, rfl⟩, trivial⟩) ⟨rfl, rfl, rfl, rfl, rfl, rfl, rfl, rfl, rfl, rfl, rfl, rfl, trivial⟩ (fun _ _ => Nat.le_of_ble_eq_true rfl) fun q s hI1 => ?_
    obtain ⟨hq1, hq2, hsum, hsb⟩ := hI1
    have hiL : i < ls.flatten.length := by omega
    refine SC.seq ?_
    refine SC.cut [(4, .ptr 0 1 0 0), (5, .ptr 1 1 0 0), (6, .sl 3 ls.flatten.length), (7, .int .i64 ((i : Nat) : Int)), (8, .int .i64 s), (9, .int .i64 ((q : Nat) : Int)), (38, .bool ((decide (((q : Nat) : Int) < ((ls.flatten.length : Nat) : Int))) && ((cmpL ((ys.getD q ([], 0)).1) ((ys.getD i ([], 0)).1) : Int) == 0)))] [some ⟨26, 2, [[.int .i64 0, .nsl]]⟩, some ⟨26, 2, [[.int .i64 c, .sl 2 k]]⟩, some ⟨72, 2, els⟩, some ⟨72, 2, (ys).map rW⟩] rfl ?_ ?_
    · refine SC.drawn tab [3] (fun kk => if kk = 15 then .pf (.int .i64 (cmpL ((ys.getD q ([], 0)).1) ((ys.getD i ([], 0)).1))) else .none) [] [] [0, 1, 2, 3, 4, 5, 6, 7, 8, 9, 10, 11, 12, 13, 14, 15, 16, 17] 65 rfl mixed (by decide +kernel) ?_
      refine QR.ask 5 rfl (by (repeat' refine And.intro ?_ ?_) <;> first | rfl | omega | (unfold in64; omega) | (simp; done) | (simp; omega) | (simp at *; omega)) ?_
      refine QR.split 25 rfl fun b2 hb2 => ?_
      cases b2
      · try have hp2 := of_decide_eq_false hb2
        refine QR.go 13 rfl ?_
        refine QR.nil ?_
        exact ⟨Drop.mask [true, true, true, true] (rfl) ⟨Sc.one rfl, Sc.one rfl, hF.sc, Sc.rows fun _ => ⟨rfl, rfl⟩, trivial⟩, rfl, rfl, rfl, rfl, rfl, rfl, rfl, rfl, rfl, rfl, rfl, rfl, (show AV.bool false = AV.bool ((decide (((q : Nat) : Int) < ((ls.flatten.length : Nat) : Int))) && ((cmpL ((ys.getD q ([], 0)).1) ((ys.getD i ([], 0)).1) : Int) == 0)) from by first | rfl | ((try simp only [Int.toNat_natCast] at hb2); first | (rw [hb2]; done) | (rw [hb2]; rfl)) | (simp only [hb2]; rfl) | simp_all), rfl, trivial⟩
      · try have hp2 := of_decide_eq_true hb2
        refine QR.ask 4 rfl (by (repeat' refine And.intro ?_ ?_) <;> first | rfl | omega | (unfold in64; omega) | (simp; done) | (simp; omega) | (simp at *; omega)) ?_
        refine QR.ldr ([], 0) rfl rfl rfl rfl (by first | rfl | assumption | omega | (simp only [List.length_set]; first | assumption | omega) | (simp; omega)) (by first | omega | (simp only [List.length_set]; omega) | (simp; omega)) rfl rfl ?_
        refine QR.ask 4 rfl (by (repeat' refine And.intro ?_ ?_) <;> first | rfl | omega | (unfold in64; omega) | (simp; done) | (simp; omega) | (simp at *; omega)) ?_
        refine QR.ldr ([], 0) rfl rfl rfl rfl (by first | rfl | assumption | omega | (simp only [List.length_set]; first | assumption | omega) | (simp; omega)) (by first | omega | (simp only [List.length_set]; omega) | (simp; omega)) rfl rfl ?_
        refine QR.pfc rfl rfl (compareRows_pf ((ys.getD q ([], 0)).1) ((ys.getD i ([], 0)).1)) rfl ?_
        refine QR.go 2 rfl ?_
        refine QR.nil ?_
        exact ⟨Drop.mask [true, true, true, true] (rfl) ⟨Sc.one rfl, Sc.one rfl, hF.sc, Sc.rows fun _ => ⟨rfl, rfl⟩, trivial⟩, rfl, rfl, rfl, rfl, rfl, rfl, rfl, rfl, rfl, rfl, rfl, rfl, (show AV.bool ((cmpL ((ys.getD q ([], 0)).1) ((ys.getD i ([], 0)).1) : Int) == 0) = AV.bool ((decide (((q : Nat) : Int) < ((ls.flatten.length : Nat) : Int))) && ((cmpL ((ys.getD q ([], 0)).1) ((ys.getD i ([], 0)).1) : Int) == 0)) from by first | rfl | ((try simp only [Int.toNat_natCast] at hb2); first | (rw [hb2]; done) | (rw [hb2]; rfl)) | (simp only [hb2]; rfl) | simp_all), rfl, trivial⟩
    · refine SC.cond rfl (fun hb3 => ?_) (fun hb3 => ?_)
      · try simp only [decide_eq_true_eq, beq_iff_eq, Bool.and_eq_true] at hb3
        have hcnd := hb3
        have hsd := absW_step (ys := ys) (q := q) (by omega)
        refine SC.skip ?_
        refine SC.seq ?_
        refine SC.block ?_
        refine SC.region ?_
        refine RG.ask tab 5 [3] rfl (by (repeat' refine And.intro ?_ ?_) <;> first | rfl | omega | (unfold in64; omega) | (simp; done) | (simp; omega) | (simp at *; omega)) ?_
        refine RG.ldr tab ([], 0) rfl rfl rfl rfl (by first | rfl | assumption | omega | (simp only [List.length_set]; first | assumption | omega) | (simp; omega)) (by first | omega | (simp only [List.length_set]; omega) | (simp; omega)) rfl ?_
        refine RG.ask tab 2 [3] rfl (by (repeat' refine And.intro ?_ ?_) <;> first | rfl | omega | (unfold in64; omega) | (simp; done) | (simp; omega) | (simp at *; omega)) ?_
        refine RG.nil ?_
        refine SC.region ?_
        refine RG.ask tab 3 [3] rfl (by (repeat' refine And.intro ?_ ?_) <;> first | rfl | omega | (unfold in64; omega) | (simp; done) | (simp; omega) | (simp at *; omega)) ?_
        refine RG.nil ?_
        refine ⟨q + 1, s + ((ys.getD q ([], 0)).2), (by omega), ⟨by omega, by omega, by rw [sumWs_succ (by omega), hsum, cmpL_eq.1 hcnd.2, putW_end (hlt hiL), Int.add_comm], by have := absW_step (ys := ys) (q := q) (by omega); omega⟩, Drop.mask [true, true, true, true] (rfl) ⟨Sc.one rfl, Sc.one rfl, hF.sc, Sc.rows fun _ => ⟨rfl, rfl⟩, trivial⟩, rfl, rfl, rfl, rfl, rfl, rfl, rfl, rfl, rfl, rfl, rfl, rfl, trivial⟩
      · try simp only [decide_eq_true_eq, ne_eq, Bool.and_eq_false_imp, beq_eq_false_iff_ne] at hb3
        have hqi : i < q := (Nat.lt_or_ge i q).elim id fun h => absurd (cmpL_eq.2 rfl) (by have h3 := hb3; rw [show q = i by omega] at h3; exact h3 (by omega))
        have hgt : q < ls.flatten.length → cmpL (ys.getD i ([], 0)).1 (ys.getD q ([], 0)).1 < 0 := fun h => by have e1 := hb3 (by omega); have e2 : ¬ cmpL (ys.getD q ([], 0)).1 (ys.getD i ([], 0)).1 < 0 := hst i q (Nat.zero_le _) (by omega) h; rw [cmpL_neg]; omega
        refine SC.exit ?_
        refine SC.seq ?_
        refine SC.seq ?_
        refine SC.region ?_
        refine RG.go tab 2 [3] rfl ?_
        refine RG.nil ?_
        refine SC.cond rfl (fun hb4 => ?_) (fun hb4 => ?_)
        · try simp only [bne_iff_ne, ne_eq] at hb4
          have hs0 := hb4
          refine SC.drawn tab [3] (fun kk => if kk = 7 then .mk [.agg [ints ((ys.getD i ([], 0)).1)]] (fun r => Made r (.agg [ints ((ys.getD i ([], 0)).1)])) else .none) [2, 3] [2, 1] [0, 1, 2, 3, 4, 5, 6, 7, 8, 9, 10, 11, 12, 13] 65 rfl mixed (by decide +kernel) ?_
          refine QR.ask 6 rfl (by (repeat' refine And.intro ?_ ?_) <;> first | rfl | omega | (unfold in64; omega) | (simp; done) | (simp; omega) | (simp at *; omega)) ?_
          refine QR.ldr ([], 0) rfl rfl rfl rfl (by first | rfl | assumption | omega | (simp only [List.length_set]; first | assumption | omega) | (simp; omega)) (by first | omega | (simp only [List.length_set]; omega) | (simp; omega)) rfl rfl ?_
          refine QR.mfc rfl rfl (rowOwn_mf ((ys.getD i ([], 0)).1) (hyr _ (getD_mem (by omega)))) ⟨.same rfl, trivial⟩ rfl fun r0 hr0 hfr0 => ?_
          obtain ⟨rs0, rfl, hl0⟩ := hr0.agg
          have hc0 := hl0.cells
          obtain ⟨cI0a, rs0t, rfl, mI0a, dI0a, hl0t⟩ := hl0.cons
          obtain ⟨I0a, rfl⟩ := Made0.isl mI0a
          obtain rfl := MadeL.nil0 hl0t
          have free_I0a : ∀ x, I0a.bl x → ¬ B x := fun x hx hb => hfr0 x (.agg (j := 0) (Nat.le_of_ble_eq_true rfl) (.own hx)) (.inr hb)
          refine QR.ask 6 rfl ⟨hF.len, by show (k + 1) * 32 ≤ _; omega⟩ ?_
          refine QR.nil ?_
          refine SC.region ?_
          refine RG.go tab 2 [3] rfl ?_
          refine RG.nil ?_
          have hF2 := fil_app (r := (ys.getD i ([], 0)).1) (s := s) hF hkl (fresh_rows (id := 2) (cs := [AV.own I0a (ints (ys.getD i ([], 0)).1), .int .i64 s]) (fun x hx => not_or.1 (hfr0 x (os_row hx))) rfl (by rw [hF.len]; exact Nat.le_refl _) rfl)
          refine ⟨q, k + 1, res ++ [((ys.getD i ([], 0)).1, s)], els ++ [[.own I0a (ints ((ys.getD i ([], 0)).1)), .int .i64 s]], (by omega), ⟨hq2, by simp [hkl], by rw [hsum, if_neg hs0], hF2, fun hq x hx => (List.mem_append.1 hx).elim (fun hx => cmpL_tr (hlt hiL x hx) (hgt hq)) (fun hx => by rw [List.mem_singleton.1 hx]; exact hgt hq)⟩, Drop.mask [true, true, true, true] rfl ⟨Sc.one rfl, Sc.one rfl, hF2.sc, Sc.rows fun _ => ⟨rfl, rfl⟩, trivial⟩, rfl, rfl, rfl, rfl, rfl, rfl, rfl, rfl, trivial⟩
        · try simp only [bne_eq_false_iff_eq] at hb4
          have hs0 := hb4
          refine SC.skip ?_
          refine SC.region ?_
          refine RG.go tab 2 [3] rfl ?_
          refine RG.nil ?_
          have hF2 := hF
          refine ⟨q, k, res, els, (by omega), ⟨hq2, hkl, by rw [hsum, hs0]; simp, hF2, fun hq x hx => cmpL_tr (hlt hiL x hx) (hgt hq)⟩, Drop.mask [true, true, true, true] rfl ⟨Sc.one rfl, Sc.one rfl, hF2.sc, Sc.rows fun _ => ⟨rfl, rfl⟩, trivial⟩, rfl, rfl, rfl, rfl, rfl, rfl, rfl, rfl, trivial⟩
  · try simp only [decide_eq_false_iff_not, Int.not_lt] at hb1
    refine SC.exit ?_
    refine SC.seq ?_
    refine SC.region ?_
    refine RG.go tab 2 [3] rfl ?_
    refine RG.nil ?_
    refine SC.ret (End.ret tab rfl ?_)
    have hfin : sumWs ls.flatten = res := by rw [← sumWs_perm hpm, hres, List.take_of_length_le (by omega)]
    rw [hfin]
    subst hkl
    have key : ∀ S : St, S.at 2 = some ⟨72, 2, els⟩ → ∃ D I, SO2 S D I (.agg [.int .i64 c, .sl 2 res.length]) (.agg [.int .i64 c, vWeightedS res]) := fun S hS => by
      obtain ⟨D, J, hso⟩ := hF.so hS (fun _ => rfl)
      exact ⟨_, _, .one (.agg (.cons (.scal rfl) (.cons hso .nil (by intro x h1 h2; first | exact h1.elim | (simp at h1 h2; done) | (simp at h2; done)) (by intro x h1 h2; first | exact h1.elim | (simp at h1 h2; done) | (simp at h2; done))) (by intro x h1 h2; first | exact h1.elim | (simp at h1 h2; done) | (simp at h2; done)) (by intro x h1 h2; first | exact h1.elim | (simp at h1 h2; done) | (simp at h2; done))))⟩
    exact key _ rfl
end Go.Proofs.Ythholadaflfpcaa
