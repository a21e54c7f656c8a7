/- The program's NewTable returns what the reference's returns: for all arguments. -/
import Derived.Test.YthholadaflfpcaaP15
import Derived.Test.YthholadaflfpcaaRows
import Derived.WalkKit
import Derived.ProofKit
import Derived.KernelRfl
namespace Go.Proofs.Ythholadaflfpcaa
open Go Go.Fw Go.ChangeShapes Go.WideShapes Go.ChangeAt Go.RowKit
theorem sumL_le7 {α : Type} {f : α → Nat} {m : Nat} {l : List α} (h : ∀ x ∈ l, f x ≤ m) : sumL f l ≤ m * l.length := by
  induction l with
  | nil => exact Nat.zero_le _
  | cons x l ih =>
    have h1 := h x (by simp)
    have h2 := ih fun y hy => h y (by simp [hy])
    simp only [sumL, List.length_cons, Nat.mul_succ]; omega
theorem goodTb_small {t : Tb} (h : goodTb t = true) : sumL nW t.2 ≤ 1000 := by
  unfold goodTb at h
  simp only [Bool.and_eq_true, decide_eq_true_eq, List.all_eq_true, List.mem_range] at h
  have h1 : ∀ x ∈ t.2, nW x ≤ 7 := fun x hx => by
    obtain ⟨j, hj, rfl⟩ := List.getElem_of_mem hx
    have h2 := h.2 j hj
    unfold gAt rowOf at h2
    simp only [Bool.and_eq_true] at h2
    have h3 := goodRow_len h2.1.1.1.1
    simp only [List.getD_eq_getElem?_getD, List.getElem?_eq_getElem hj, Option.getD_some] at h3
    unfold nW; omega
  have := sumL_le7 h1
  omega
theorem tellTb_small (c : Int) (l : List Wt) : sumL nW (tellTb c l).1.2 ≤ 1000 := by
  unfold tellTb
  split
  · exact goodTb_small (by assumption)
  · exact Nat.zero_le _
theorem newTb_small (c : Int) (l : List Wt) : sumL nW (newTb c l).1.2 ≤ 1000 := by
  unfold newTb
  split
  · exact tellTb_small _ _
  · exact Nat.zero_le _
theorem sumL_nW (l : List Wt) : sumL nW l = totWtS l := by
  unfold totWtS totL; induction l with
  | nil => rfl
  | cons x xs ih => simp only [sumL, ih, nW, List.length_cons]; omega
theorem law_NewTable (aColumns : Int) (aL : List (List Int × Int)) : FC Try.prog 3 [.int .i64 aColumns, vWeightedS aL] [] (fun r _ => r = .bool true) := by
  have hsm := newTb_small aColumns aL
  have hs0 := sumL_nW aL
  refine FC.text Try.func3 rfl rfl rfl fun B => ?_
  refine SC.len 1 rfl fun hlen1 => ?_
  refine SC.seq ?_
  refine SC.region ?_
  refine RG.go tab 1 [] rfl ?_
  refine RG.nil ?_
  refine SC.seq ?_
  refine SC.region ?_
  refine RG.go tab 1 [] rfl ?_
  refine RG.nil ?_
  refine SC.seq ?_
  refine SC.region ?_
  refine RG.go tab 2 [] rfl ?_
  refine RG.pf rfl rfl (szWeightedS_pf aL 1048576 (by first | assumption | omega | (simp only [sumL_fillWs, sumL_fillGs]; omega) | (simp; omega) | simp_all) (by first | assumption | omega | (simp only [sumL_fillWs, sumL_fillGs]; omega) | (simp; omega) | simp_all)) rfl ?_
  refine RG.go tab 1 [] rfl ?_
  refine RG.nil ?_
  refine SC.seq ?_
  refine SC.seq ?_
  refine SC.region ?_
  refine RG.go tab 2 [] rfl ?_
  refine RG.nil ?_
  refine SC.cond rfl (fun hb1 => ?_) (fun hb1 => ?_)
  · try simp only [decide_eq_true_eq] at hb1
    refine SC.seq ?_
    refine SC.region ?_
    refine RG.go tab 1 [] rfl ?_
    refine RG.nil ?_
    refine SC.ret (End.ret tab rfl ?_)
    rfl
  · try simp only [decide_eq_false_iff_not, Int.not_lt] at hb1
    have hsz0 := szF_ge (n := totWtS aL) (left := 1048576) (by omega)
    have hle0 : (szF (totWtS aL) 1048576) ≤ 1048576 := by unfold szF; split <;> omega
    refine SC.skip ?_
    refine SC.seq ?_
    refine SC.region ?_
    refine RG.go tab 2 [] rfl ?_
    refine RG.mv rfl rfl (toWeightedS_mf aL (by first | assumption | omega | (simp only [sumL_fillWs, sumL_fillGs]; omega) | (simp; omega) | simp_all)) ⟨.same rfl, trivial⟩ ?_
    refine RG.pf rfl rfl (sNewTable_pf aColumns aL) rfl ?_
    refine RG.go tab 6 [] rfl ?_
    refine RG.nil ?_
    refine SC.seq ?_
    refine SC.region ?_
    refine RG.go tab 1 [] rfl ?_
    refine RG.mf rfl rfl (toWeightedS_mf aL (by first | assumption | omega | (simp only [sumL_fillWs, sumL_fillGs]; omega) | (simp; omega) | simp_all)) ⟨.same rfl, trivial⟩ fun r0 hr0 hfr0 => ?_
    have hc0 := hr0.cells1
    obtain ⟨I0, rfl⟩ := hr0.isl
    have free_I0 : ∀ x, I0.bl x → ¬ B x := fun x hx => (hfr0 x (.own hx)).2
    refine RG.go tab 1 [] rfl ?_
    refine RG.nil ?_
    refine SC.seq ?_
    refine SC.region ?_
    refine RG.go tab 2 [] rfl ?_
    refine RG.mf rfl rfl (iNewTable_mf aColumns aL) ⟨.same rfl, .own trivial, trivial⟩ fun r1 hr1 hfr1 => ?_
    obtain ⟨rs1, rfl, hl1⟩ := hr1.tup
    obtain ⟨cI1a, rs1t, rfl, mI1a, dI1a, hl1t⟩ := hl1.cons
    obtain ⟨qI1a, rfl, nI1a⟩ := mI1a.agg
    obtain ⟨cI1aa, qI1at, rfl, mI1aa, dI1aa, nI1at⟩ := nI1a.cons
    obtain rfl := Made0.scal mI1aa rfl
    obtain ⟨cI1ab, qI1att, rfl, mI1ab, dI1ab, nI1att⟩ := nI1at.cons
    obtain ⟨I1ab, rfl⟩ := Made0.isl mI1ab
    obtain rfl := MadeL.nil0 nI1att
    obtain ⟨cI1b, rs1tt, rfl, mI1b, dI1b, hl1tt⟩ := hl1t.cons
    obtain rfl := Made1.scal mI1b rfl
    obtain rfl := MadeL.nil0 hl1tt
    have free_I1ab : ∀ x, I1ab.bl x → ¬ B x := fun x hx => (hfr1 x (.tup (j := 0) (Nat.le_of_ble_eq_true rfl) (.agg (j := 1) (Nat.le_of_ble_eq_true rfl) (.own hx)))).2
    have dis_I1ab_I0 : ∀ x, I1ab.bl x → ¬ I0.bl x := fun x hx hy => (hfr1 x (.tup (j := 0) (Nat.le_of_ble_eq_true rfl) (.agg (j := 1) (Nat.le_of_ble_eq_true rfl) (.own hx)))).1 (.inl ⟨8, .own hy⟩)
    refine RG.go tab 6 [] rfl ?_
    refine RG.nil ?_
    refine SC.seq ?_
    refine SC.seq ?_
    refine SC.region ?_
    refine RG.go tab 2 [] rfl ?_
    refine RG.pfb rfl rfl (eqTable_pf ((newTb aColumns aL).1) ((newTb aColumns aL).1)) ⟨.agg rfl (fun j hj => by match j, hj with | 0, _ => exact .same rfl | 1, _ => exact .own trivial), .same rfl, trivial⟩ rfl ?_
    refine RG.re (v' := .bool (decide (((newTb aColumns aL).1) = ((newTb aColumns aL).1)))) 38 (.bool true) rfl (by simp) ?_
    refine RG.go tab 5 [] rfl ?_
    refine RG.re (v' := .bool (!(((newTb aColumns aL).2) == ((newTb aColumns aL).2)))) 43 (.bool false) rfl (by simp) ?_
    refine RG.go tab 1 [] rfl ?_
    refine RG.nil ?_
    refine SC.cond rfl (fun h => nomatch h) (fun _ => ?_)
    refine SC.skip ?_
    refine SC.seq ?_
    refine SC.seq ?_
    refine SC.region ?_
    refine RG.go tab 2 [] rfl ?_
    refine RG.mv rfl rfl (toWeightedS_mf aL (by first | assumption | omega | (simp only [sumL_fillWs, sumL_fillGs]; omega) | (simp; omega) | simp_all)) ⟨.same rfl, trivial⟩ ?_
    refine RG.pfb rfl rfl (eqWeightedS_pf aL aL) ⟨.own trivial, .same rfl, trivial⟩ rfl ?_
    refine RG.re (v' := .bool (decide (aL = aL))) 48 (.bool true) rfl (by simp) ?_
    refine RG.go tab 1 [] rfl ?_
    refine RG.nil ?_
    refine SC.cond rfl (fun h => nomatch h) (fun _ => ?_)
    refine SC.skip ?_
    refine SC.seq ?_
    refine SC.region ?_
    refine RG.go tab 1 [] rfl ?_
    refine RG.nil ?_
    refine SC.seq ?_
    refine SC.region ?_
    refine RG.go tab 2 [] rfl ?_
    refine RG.mut (S' := [some ⟨26, 2, [[.int .i64 (((newTb aColumns aL).1).1), vWeightedS (((newTb aColumns aL).1).2)]]⟩, some ⟨26, 2, [[.int .i64 (((newTb aColumns aL).1).1), .own I1ab (vWeightedS (((newTb aColumns aL).1).2))]]⟩]) [(0, .int .i64 aColumns), (1, vWeightedS aL), (6, .ptr 0 1 0 0), (7, .bool ((newTb aColumns aL).2)), (9, .ptr 1 1 0 0), (10, .bool ((newTb aColumns aL).2))] rfl rfl (markWeightedS_mo aL 1 (by first | assumption | omega) (by first | assumption | omega)) rfl rfl rfl (fun x hx => free_I0 x hx.one) (OwnDis.one _ _) ⟨.one (.one (.atom rfl)), .one (.one (.atom rfl)), .one (.one (.atom rfl)), .one (.one (.atom rfl)), .one (.one (.atom rfl)), .one (.one (.atom rfl)), trivial⟩ ⟨UpO.one ⟨.atom rfl, .atom rfl, trivial⟩, UpO.one ⟨.atom rfl, .dis (fun x hx hM => (dis_I1ab_I0) x hx hM.one), trivial⟩, trivial⟩ ?_
    refine RG.go tab 1 [] rfl ?_
    refine RG.nil ?_
    refine SC.seq ?_
    refine SC.seq ?_
    refine SC.region ?_
    refine RG.go tab 2 [] rfl ?_
    refine RG.re (v' := .bool (decide ((1 + sumL nW aL : Int) < 0))) 54 (.bool false) rfl (by first | (simp; done) | (simp; omega)) ?_
    refine RG.go tab 3 [] rfl ?_
    refine RG.pfb rfl rfl (eqTable_pf ((newTb aColumns aL).1) ((newTb aColumns aL).1)) ⟨.agg rfl (fun j hj => by match j, hj with | 0, _ => exact .same rfl | 1, _ => exact .own trivial), .same rfl, trivial⟩ rfl ?_
    refine RG.re (v' := .bool (decide (((newTb aColumns aL).1) = ((newTb aColumns aL).1)))) 58 (.bool true) rfl (by simp) ?_
    refine RG.go tab 6 [] rfl ?_
    refine RG.re (v' := .bool (!(((newTb aColumns aL).2) == ((newTb aColumns aL).2)))) 64 (.bool false) rfl (by simp) ?_
    refine RG.go tab 1 [] rfl ?_
    refine RG.nil ?_
    refine SC.cond rfl (fun h => nomatch h) (fun _ => ?_)
    refine SC.skip ?_
    refine SC.seq ?_
    refine SC.region ?_
    refine RG.go tab 1 [] rfl ?_
    refine RG.nil ?_
    refine SC.seq ?_
    refine SC.region ?_
    refine RG.go tab 2 [] rfl ?_
    refine RG.mut (S' := [some ⟨26, 2, [[.int .i64 (((newTb aColumns aL).1).1), vWeightedS (((newTb aColumns aL).1).2)]]⟩, some ⟨26, 2, [[.int .i64 (((newTb aColumns aL).1).1), .own I1ab (vWeightedS (fillWs (((newTb aColumns aL).1).2) 1))]]⟩]) [(0, .int .i64 aColumns), (1, vWeightedS aL), (6, .ptr 0 1 0 0), (7, .bool ((newTb aColumns aL).2)), (9, .ptr 1 1 0 0)] rfl rfl (markTable_mo ((newTb aColumns aL).1) 1 (by first | assumption | omega) (by first | assumption | omega)) rfl rfl rfl (fun x hx => free_I1ab x hx.one) (OwnDis.one _ _) ⟨.one (.one (.atom rfl)), .one (.one (.atom rfl)), .one (.one (.atom rfl)), .one (.one (.atom rfl)), .one (.one (.atom rfl)), trivial⟩ ⟨UpO.one ⟨.atom rfl, .atom rfl, trivial⟩, UpO.one ⟨.atom rfl, .swap 0 rfl, trivial⟩, trivial⟩ ?_
    refine RG.go tab 1 [] rfl ?_
    refine RG.nil ?_
    refine SC.seq ?_
    refine SC.region ?_
    refine RG.go tab 1 [] rfl ?_
    refine RG.nil ?_
    refine SC.seq ?_
    refine SC.region ?_
    refine RG.go tab 2 [] rfl ?_
    refine RG.pfb rfl rfl (heldTable_pf (((newTb aColumns aL).1).1, fillWs (((newTb aColumns aL).1).2) 1) 1 (by first | assumption | omega | (simp only [sumL_fillWs, sumL_fillGs]; omega) | (simp; omega) | simp_all) (by first | assumption | omega | (simp only [sumL_fillWs]; omega) | (simp; omega) | simp_all)) ⟨.agg rfl (fun j hj => by match j, hj with | 0, _ => exact .same rfl | 1, _ => exact .own trivial), .same rfl, trivial⟩ rfl ?_
    refine RG.re (v' := .int .i64 (if heldWs (fillWs (((newTb aColumns aL).1).2) 1) 1 < 0 then -1 else heldWs (fillWs (((newTb aColumns aL).1).2) 1) 1)) 71 (.int .i64 (1 + sumL nW (((newTb aColumns aL).1).2))) rfl (by rw [heldWs_fill _ _ (by omega), if_neg (by omega)]) ?_
    refine RG.go tab 1 [] rfl ?_
    refine RG.nil ?_
    refine SC.seq ?_
    refine SC.seq ?_
    refine SC.region ?_
    refine RG.go tab 2 [] rfl ?_
    refine RG.re (v' := .bool (decide ((1 + sumL nW (((newTb aColumns aL).1).2) : Int) < 0))) 73 (.bool false) rfl (by first | (simp; done) | (simp; omega)) ?_
    refine RG.nil ?_
    refine SC.cond rfl (fun h => nomatch h) (fun _ => ?_)
    refine SC.skip ?_
    refine SC.seq ?_
    refine SC.seq ?_
    refine SC.region ?_
    refine RG.go tab 3 [] rfl ?_
    refine RG.re (v' := .bool ((1 + sumL nW (((newTb aColumns aL).1).2) : Int) != (1 + sumL nW (((newTb aColumns aL).1).2)))) 76 (.bool false) rfl (by simp) ?_
    refine RG.nil ?_
    refine SC.cond rfl (fun h => nomatch h) (fun _ => ?_)
    refine SC.skip ?_
    refine SC.seq ?_
    refine SC.region ?_
    refine RG.go tab 2 [] rfl ?_
    refine RG.mv rfl rfl (toWeightedS_mf aL (by first | assumption | omega | (simp only [sumL_fillWs, sumL_fillGs]; omega) | (simp; omega) | simp_all)) ⟨.same rfl, trivial⟩ ?_
    refine RG.mf rfl rfl (iNewTable_mf aColumns aL) ⟨.same rfl, .same rfl, trivial⟩ fun r2 hr2 hfr2 => ?_
    obtain ⟨rs2, rfl, hl2⟩ := hr2.tup
    obtain ⟨cI2a, rs2t, rfl, mI2a, dI2a, hl2t⟩ := hl2.cons
    obtain ⟨qI2a, rfl, nI2a⟩ := mI2a.agg
    obtain ⟨cI2aa, qI2at, rfl, mI2aa, dI2aa, nI2at⟩ := nI2a.cons
    obtain rfl := Made0.scal mI2aa rfl
    obtain ⟨cI2ab, qI2att, rfl, mI2ab, dI2ab, nI2att⟩ := nI2at.cons
    obtain ⟨I2ab, rfl⟩ := Made0.isl mI2ab
    obtain rfl := MadeL.nil0 nI2att
    obtain ⟨cI2b, rs2tt, rfl, mI2b, dI2b, hl2tt⟩ := hl2t.cons
    obtain rfl := Made1.scal mI2b rfl
    obtain rfl := MadeL.nil0 hl2tt
    have free_I2ab : ∀ x, I2ab.bl x → ¬ B x := fun x hx => (hfr2 x (.tup (j := 0) (Nat.le_of_ble_eq_true rfl) (.agg (j := 1) (Nat.le_of_ble_eq_true rfl) (.own hx)))).2
    have dis_I2ab_I1ab : ∀ x, I2ab.bl x → ¬ I1ab.bl x := fun x hx hy => (hfr2 x (.tup (j := 0) (Nat.le_of_ble_eq_true rfl) (.agg (j := 1) (Nat.le_of_ble_eq_true rfl) (.own hx)))).1 (.inl ⟨69, .agg (j := 1) (Nat.le_of_ble_eq_true rfl) (.own hy)⟩)
    refine RG.go tab 6 [] rfl ?_
    refine RG.nil ?_
    refine SC.seq ?_
    refine SC.seq ?_
    refine SC.region ?_
    refine RG.go tab 2 [] rfl ?_
    refine RG.pfb rfl rfl (eqTable_pf ((newTb aColumns aL).1) ((newTb aColumns aL).1)) ⟨.agg rfl (fun j hj => by match j, hj with | 0, _ => exact .same rfl | 1, _ => exact .own trivial), .same rfl, trivial⟩ rfl ?_
    refine RG.re (v' := .bool (decide (((newTb aColumns aL).1) = ((newTb aColumns aL).1)))) 86 (.bool true) rfl (by simp) ?_
    refine RG.go tab 5 [] rfl ?_
    refine RG.re (v' := .bool (!(((newTb aColumns aL).2) == ((newTb aColumns aL).2)))) 91 (.bool false) rfl (by simp) ?_
    refine RG.go tab 1 [] rfl ?_
    refine RG.nil ?_
    refine SC.cond rfl (fun h => nomatch h) (fun _ => ?_)
    refine SC.skip ?_
    refine SC.seq ?_
    refine SC.region ?_
    refine RG.go tab 1 [] rfl ?_
    refine RG.nil ?_
    refine SC.seq ?_
    refine SC.region ?_
    refine RG.go tab 2 [] rfl ?_
    refine RG.pfb rfl rfl (heldTable_pf (((newTb aColumns aL).1).1, fillWs (((newTb aColumns aL).1).2) 1) 1 (by first | assumption | omega | (simp only [sumL_fillWs, sumL_fillGs]; omega) | (simp; omega) | simp_all) (by first | assumption | omega | (simp only [sumL_fillWs]; omega) | (simp; omega) | simp_all)) ⟨.agg rfl (fun j hj => by match j, hj with | 0, _ => exact .same rfl | 1, _ => exact .own trivial), .same rfl, trivial⟩ rfl ?_
    refine RG.re (v' := .int .i64 (if heldWs (fillWs (((newTb aColumns aL).1).2) 1) 1 < 0 then -1 else heldWs (fillWs (((newTb aColumns aL).1).2) 1) 1)) 95 (.int .i64 (1 + sumL nW (((newTb aColumns aL).1).2))) rfl (by rw [heldWs_fill _ _ (by omega), if_neg (by omega)]) ?_
    refine RG.go tab 1 [] rfl ?_
    refine RG.nil ?_
    refine SC.seq ?_
    refine SC.seq ?_
    refine SC.region ?_
    refine RG.go tab 2 [] rfl ?_
    refine RG.re (v' := .bool (decide ((1 + sumL nW (((newTb aColumns aL).1).2) : Int) < 0))) 97 (.bool false) rfl (by first | (simp; done) | (simp; omega)) ?_
    refine RG.nil ?_
    refine SC.cond rfl (fun h => nomatch h) (fun _ => ?_)
    refine SC.skip ?_
    refine SC.seq ?_
    refine SC.seq ?_
    refine SC.region ?_
    refine RG.go tab 3 [] rfl ?_
    refine RG.re (v' := .bool ((1 + sumL nW (((newTb aColumns aL).1).2) : Int) != (1 + sumL nW (((newTb aColumns aL).1).2)))) 100 (.bool false) rfl (by simp) ?_
    refine RG.nil ?_
    refine SC.cond rfl (fun h => nomatch h) (fun _ => ?_)
    refine SC.skip ?_
    refine SC.seq ?_
    refine SC.region ?_
    refine RG.go tab 1 [] rfl ?_
    refine RG.nil ?_
    refine SC.ret (End.ret tab rfl ?_)
    rfl
/-! The law's row: what its arguments are, opened. -/
def cWt (w : Wt) : List AV := [ints w.1, .int .i64 w.2]
def wfI (l : List Int) : Prop := l.length ≤ maxLen ∧ ∀ n ∈ l, in64 n
def wfWt (w : Wt) : Prop := wfI w.1 ∧ in64 w.2
def wfWts (l : List Wt) : Prop := l.length ≤ maxLen ∧ ∀ r ∈ l, wfWt r
section
variable {H : Type} {enc : TypeId × Value → H} {w : World} {spare : Nat → Bool} {held : Bool}
theorem opInt : Opens enc Try.prog w spare held 3 (fun n : Int => [.int .i64 n]) in64 := Opens.int Try.underlying3
theorem opInts : Opens enc Try.prog w spare held 64 (fun l : List Int => [ints l]) wfI := Opens.slice (f := fun n : Int => [.int .i64 n]) (wf := in64) (sz := 1) (0 : Int) Try.underlying64 (by kernel_rfl) (Nat.le_of_ble_eq_true rfl) (fun _ => rfl) opInt
theorem opRow : Opens enc Try.prog w spare held 66 (fun l : List Int => [ints l]) wfI :=
  (Opens.struct (sz := 1) Try.underlying66 (by kernel_rfl) (fun _ => rfl) (OpensL.cons (sz := 1) rfl (by kernel_rfl) (fun _ => rfl) opInts OpensL.nil)).conv (fun x : List Int × Unit => x.1) (fun _ => rfl) fun _ h => h.1
theorem opWt : Opens enc Try.prog w spare held 68 cWt wfWt :=
  (Opens.struct (sz := 2) Try.underlying68 (by kernel_rfl) (fun _ => rfl) (OpensL.cons (sz := 1) rfl (by kernel_rfl) (fun _ => rfl) opRow (OpensL.cons (sz := 1) rfl (by kernel_rfl) (fun _ => rfl) opInt OpensL.nil))).conv (fun x : List Int × Int × Unit => (x.1, x.2.1)) (fun _ => rfl) fun _ h => ⟨h.1, h.2.1⟩
theorem opWts : Opens enc Try.prog w spare held 22 (fun l => [vWeightedS l]) wfWts := Opens.slice (f := cWt) (wf := wfWt) (sz := 2) ([], 0) Try.underlying22 (by kernel_rfl) (Nat.le_of_ble_eq_true rfl) (fun _ => rfl) opWt
end
theorem own : ownKnob Try.prog.godebug = none := by kernel_rfl
theorem laidOut : laidOutB Try.prog = true := by kernel_rfl
set_option maxRecDepth 100000 in
theorem liftedNT (os : Os) (started : os.Started) (H : Type) (enc : TypeId × Value → H) :
    ReturnsInHanded {} Try.checked os 3 .any (Rows.fnExactNewTableSpec.pre6 enc Try.prog Try.f3 Rows.fnExactNewTableRow.domain false) (Rows.fnExactNewTableSpec.post enc Try.prog Try.f3 false true false false) := by
  refine returnsInHanded_of_change_sized (C := Try.checked) own started (by kernel_rfl) Try.func3
    (ChangeSpec.witness6 (enc := enc) (C := Try.checked) false ⟨#[], #[.int .i64 0, .slice none 0 0], []⟩ 8 (by kernel_rfl) (by kernel_rfl) (by kernel_rfl) (by kernel_rfl)) ?_
  intro W base args ds gs before hval0 hW hcnd hsz0 _
  have hval : ∀ (j : Nat) t v, Try.f3.params[j]? = some t → args[j]? = some v → Value.okWide Try.prog W .any base t v := hval0
  have hW' := hW
  obtain ⟨p, q, hA0, hV, rfl, hfz, hnd⟩ := hW
  have hA : DataW.TrodAll enc Try.prog W 0 (fun _ => true) true Try.f3.params.toList args.toList ds p := hA0
  rw [Try.params3] at hA hval
  obtain ⟨v0, vs0, d0, ds0, p0, q0, hargs, rfl, rfl, h0, r0⟩ := trodAll_cons hA
  obtain ⟨v1, vs1, d1, ds1, p1, q1, rfl, rfl, rfl, h1, r1⟩ := trodAll_cons r0
  obtain ⟨rfl, rfl, rfl⟩ := trodAll_nil r1
  obtain rfl : args = #[v0, v1] := by cases args; simp_all
  obtain ⟨rfl, rfl⟩ := trodVars_none hV
  have lt0 : ∀ x ∈ p0, x.block < W.heap.size := by obtain ⟨m, hm⟩ := h0; exact DataW.trod_lt m _ _ _ hm
  have lt1 : ∀ x ∈ p1, x.block < W.heap.size := by obtain ⟨m, hm⟩ := h1; exact DataW.trod_lt m _ _ _ hm
  obtain ⟨x0, w0, y0⟩ : ∃ x, in64 x ∧ VI (fun _ => False) W (.int .i64 x) v0 := by
    obtain ⟨x, rfl⟩ := okWide_int Try.underlying3 (hval 0 3 v0 rfl rfl)
    exact opInt.arg1 rfl h0
  obtain ⟨x1, w1, y1⟩ : ∃ x, wfWts x ∧ VI (fun _ => False) W (vWeightedS x) v1 := by
    obtain ⟨a, len, cap, rfl⟩ := okWide_slice Try.underlying22 (hval 1 22 v1 rfl rfl)
    exact opWts.arg1 rfl h1
  refine ((law_NewTable x0 x1).law W [v0, v1] rfl (fun j hj => ?_)).mono fun e W' ⟨he, bel⟩ => ?_
  · match j, hj with
    | 0, _ => exact y0
    | 1, _ => exact y1
  subst he
  exact ⟨_, rfl, _, _, _, [], _, [], hW', trodAll_mk1 (shut_bool Try.underlying4 _), (trodAll_cons_mk (Below.trod laidOut (by kernel_rfl) (of_decide_eq_true (by kernel_rfl)) h0 bel lt0) (trodAll_cons_mk (Below.trod laidOut (by kernel_rfl) (of_decide_eq_true (by kernel_rfl)) h1 bel lt1) trodAll_mk0)), rfl, bel.frame _, fun h => by cases h⟩
theorem overNT : Rows.fnExactNewTableRow.holds Try.pinned (OpenSpec.ofChange Rows.fnExactNewTableSpec) :=
  OpenClaim.holds_of_wide 3 Try.f3 rfl rfl rfl rfl rfl rfl rfl ⟨rfl, rfl, rfl, rfl, rfl⟩ rfl rfl rfl rfl rfl (by kernel_rfl) Try.func3 (by kernel_rfl)
    (of_decide_eq_true (by kernel_rfl)) (by unfold Func.isWrapper; first | (rw [if_pos (by decide +kernel)]; kernel_rfl) | (rw [if_neg (by decide +kernel)]; exact ⟨rfl, rfl⟩))
    (fun os started H enc _ => liftedNT os started H enc)
theorem fnExactNewTable_holds : Rows.FnExactNewTableSaid := overNT
#print axioms fnExactNewTable_holds
end Go.Proofs.Ythholadaflfpcaa
