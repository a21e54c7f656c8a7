import Derived.Test.YthholadaflfpcaaP7
namespace Go.Proofs.Ythholadaflfpcaa
open Go Go.Fw
theorem cloneInt_mf (a : List Int) (h1 : a.length ≤ 1048576) : MF Try.prog 115 [ints a] (ints a) := by
  refine MF.text Try.func115 rfl rfl rfl fun B => ?_
  refine SC.len 0 rfl fun hlen0 => ?_
  refine SC.seq ?_
  refine SC.region ?_
  refine RG.go tab 1 [] rfl ?_
  refine RG.nil ?_
  refine SC.seq ?_
  refine SC.seq ?_
  refine SC.region ?_
  refine RG.go tab 1 [] rfl ?_
  refine RG.isnil _ tab rfl rfl rfl rfl rfl fun b hb => ?_
  refine RG.nil ?_
  refine SC.cond rfl (fun hb1 => ?_) (fun hb1 => ?_)
  · try simp only [decide_eq_true_eq, decide_eq_false_iff_not, Bool.not_eq_true, Bool.not_eq_false, Bool.not_eq_eq_eq_not, Bool.not_true, Bool.not_false, beq_iff_eq, bne_iff_ne, ne_eq, Bool.and_eq_true, Bool.or_eq_true, Bool.and_eq_false_imp, Bool.or_eq_false_iff, Int.toNat_natCast, beq_eq_false_iff_ne, Decidable.not_not, bne_eq_false_iff_eq, Int.not_lt, Int.not_le] at hb1
    refine SC.seq ?_
    refine SC.region ?_
    refine RG.go tab 1 [] rfl ?_
    refine RG.nil ?_
    refine SC.ret (End.ret tab rfl ?_)
    have : a = [] := List.length_eq_zero_iff.1 (hb hb1)
    subst this
    exact ⟨_, _, .one (.one .nsl)⟩
  · try simp only [decide_eq_true_eq, decide_eq_false_iff_not, Bool.not_eq_true, Bool.not_eq_false, Bool.not_eq_eq_eq_not, Bool.not_true, Bool.not_false, beq_iff_eq, bne_iff_ne, ne_eq, Bool.and_eq_true, Bool.or_eq_true, Bool.and_eq_false_imp, Bool.or_eq_false_iff, Int.toNat_natCast, beq_eq_false_iff_ne, Decidable.not_not, bne_eq_false_iff_eq, Int.not_lt, Int.not_le] at hb1
    refine SC.skip ?_
    refine SC.seq ?_
    refine SC.region ?_
    refine RG.go tab 2 [] rfl ?_
    refine RG.ask tab 1 [] rfl ⟨fun i hi => ⟨rfl, rfl⟩, rfl, by simp [ti3]; omega⟩ ?_
    refine RG.go tab 1 [] rfl ?_
    refine RG.nil ?_
    refine SC.ret (End.ret tab rfl ?_)
    obtain ⟨D, h⟩ := SO.appI (S := [some ⟨3, 1, [] ++ (List.range a.length).map fun i => [AV.int .i64 (a.getD i 0)]⟩]) (id := 0) (l := a) rfl
    rw [Nat.zero_add] at h
    rw [Nat.zero_add]
    exact ⟨_, _, .one (.one h)⟩
theorem rowOwn_mf (a : List Int) (h1 : a.length ≤ 1048576) : MF Try.prog 86 [.agg [ints a]] (.agg [ints a]) := by
  refine MF.text Try.func86 rfl rfl rfl fun B => ?_
  refine SC.lenA 0 0 rfl (Nat.le_of_ble_eq_true rfl) rfl fun hlen0_0 => ?_
  refine SC.seq ?_
  refine SC.region ?_
  refine RG.go tab 2 [] rfl ?_
  refine RG.nil ?_
  refine SC.seq ?_
  refine SC.region ?_
  refine RG.go tab 2 [] rfl ?_
  refine RG.mf rfl rfl (cloneInt_mf a (by first | assumption | omega | (simp only [sumL_fillWs, sumL_fillGs]; omega) | (simp; omega) | simp_all)) ⟨.same rfl, trivial⟩ fun r0 hr0 hfr0 => ?_
  have hc0 := hr0.cells1
  obtain ⟨I0, rfl⟩ := hr0.isl
  have free_I0 : ∀ x, I0.bl x → ¬ B x := fun x hx => (hfr0 x (.own hx)).2
  refine RG.go tab 2 [] rfl ?_
  refine RG.nil ?_
  refine SC.ret (End.ret tab rfl ?_)
  exact ⟨_, _, .one (.agg (.cons .own .nil (by intro x h1 h2; first | exact h1.elim | (simp at h1 h2; done) | (simp at h2; done)) (by intro x h1 h2; first | exact h1.elim | (simp at h1 h2; done) | (simp at h2; done))))⟩
theorem l2OwnRow_mf (a : List Int) (h1 : a.length ≤ 1048576) : MF Try.prog 74 [.agg [ints a]] (.agg [ints a]) := by
  refine MF.text Try.func74 rfl rfl rfl fun B => ?_
  refine SC.lenA 0 0 rfl (Nat.le_of_ble_eq_true rfl) rfl fun hlen0_0 => ?_
  refine SC.seq ?_
  refine SC.region ?_
  refine RG.go tab 2 [] rfl ?_
  refine RG.nil ?_
  refine SC.seq ?_
  refine SC.region ?_
  refine RG.go tab 3 [] rfl ?_
  refine RG.ask tab 1 [] rfl ⟨fun i hi => ⟨rfl, rfl⟩, rfl, by simp [ti3]; omega⟩ ?_
  refine RG.go tab 2 [] rfl ?_
  refine RG.nil ?_
  refine SC.ret (End.ret tab rfl ?_)
  obtain ⟨D, h⟩ := SO.appI (S := [some ⟨70, 1, [[ints a]]⟩, some ⟨70, 1, [[.sl 2 (0 + a.length)]]⟩, some ⟨3, 1, [] ++ (List.range a.length).map fun i => [AV.int .i64 (a.getD i 0)]⟩]) (id := 2) (l := a) rfl
  rw [Nat.zero_add] at h
  rw [Nat.zero_add]
  exact ⟨_, _, .one (.agg (.cons h .nil (fun _ _ h => h) (fun _ _ h => h)))⟩
end Go.Proofs.Ythholadaflfpcaa
