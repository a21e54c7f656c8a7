import Derived.Test.YthholadaflfpcaaP5
namespace Go.Proofs.Ythholadaflfpcaa
open Go Go.Fw
/-- The first place of which p holds. -/
def place {α : Type} (p : α → Bool) (l : List α) : Int := match l.findIdx? p with
  | some i => (i : Int)
  | none => -1
theorem place_some {α : Type} {p : α → Bool} {l : List α} {d : α} {i : Nat} (hi : i < l.length) (h : ∀ j, j < i → p (l.getD j d) = false) (hp : p (l.getD i d) = true) : place p l = i := by
  have : l.findIdx? p = some i := by
    rw [List.findIdx?_eq_some_iff_getElem]
    refine ⟨hi, by simpa [List.getD_eq_getElem?_getD, hi] using hp, fun j hj => ?_⟩
    have := h j hj
    have hjl : j < l.length := by omega
    simpa [List.getD_eq_getElem?_getD, hjl] using this
  simp [place, this]
theorem place_none {α : Type} {p : α → Bool} {l : List α} {d : α} (h : ∀ j, j < l.length → p (l.getD j d) = false) : place p l = -1 := by
  have : l.findIdx? p = none := by
    rw [List.findIdx?_eq_none_iff]
    intro x hx
    obtain ⟨j, hj, rfl⟩ := List.getElem_of_mem hx
    have := h j hj
    simpa [List.getD_eq_getElem?_getD, hj] using this
  simp [place, this]
theorem place_any {α : Type} (p : α → Bool) (l : List α) : decide (place p l ≥ 0) = l.any p := by
  unfold place
  cases h : l.findIdx? p with
  | none => rw [List.findIdx?_eq_none_iff] at h; simp; exact fun x hx => by simpa using h x hx
  | some i => rw [List.findIdx?_eq_some_iff_getElem] at h; obtain ⟨h1, h2, -⟩ := h; simp; exact ⟨_, List.getElem_mem h1, h2⟩
theorem IndexFunc_int (l : List (Int)) (g : FuncId) (first caps : List AV) (p : Int → Bool) (hp : ∀ x ∈ l, PF Try.prog g (first ++ [.int .i64 x] ++ caps) (.bool (p x))) (hf : first.all pv1 = true) (hc : caps.all pv1 = true) : PF Try.prog 134 [ints l, .fn g first caps] (.int .i64 (place p l)) := by
  refine PF.text Try.func134 rfl rfl rfl fun B => ?_
  refine SC.len 0 rfl fun hlen0 => ?_
  refine SC.seq ?_
  refine SC.region ?_
  refine RG.go tab 1 [] rfl ?_
  refine RG.nil ?_
  refine SC.seq ?_
  refine SC.seq ?_
  refine SC.region ?_
  refine RG.go tab 3 [] rfl ?_
  refine RG.nil ?_
  refine SC.block ?_
  refine SC.loop1 (fun (i : Nat) => l.length - i) (fun (i : Nat) => i ≤ l.length ∧ ∀ j, j < i → p (l.getD j 0) = false) (fun (i : Nat) => [(0, ints l), (1, .fn g first caps), (7, .int .i64 (l.length : Int)), (8, .int .i64 ((i : Nat) : Int))]) (fun (i : Nat) => []) 0 ⟨Nat.zero_le _, fun j hj => absurd hj (Nat.not_lt_zero _)⟩ (Drop.none0) ⟨rfl, rfl, rfl, (by simp [sc, (pvsc hf).1, (pvsc hc).1]), rfl, rfl, rfl, rfl, trivial⟩ (fun _ => Nat.le_of_ble_eq_true rfl) fun i hI0 => ?_
  obtain ⟨hi, hI⟩ := hI0
  refine SC.seq ?_
  refine SC.region ?_
  refine RG.go tab 1 [] rfl ?_
  refine RG.nil ?_
  refine SC.seq ?_
  refine SC.cond rfl (fun hb1 => ?_) (fun hb1 => ?_)
  · try simp only [decide_eq_true_eq] at hb1
    refine SC.skip ?_
    refine SC.seq ?_
    refine SC.block ?_
    refine SC.seq ?_
    refine SC.region ?_
    refine RG.go tab 2 [] rfl ?_
    refine RG.nil ?_
    refine SC.seq ?_
    refine SC.region ?_
    refine RG.ask tab 5 [] rfl (by (repeat' refine And.intro ?_ ?_) <;> first | rfl | omega | (unfold in64; omega) | (simp; done) | (simp; omega) | (simp at *; omega)) ?_
    refine RG.pf rfl rfl (hp (l.getD i 0) (getD_mem (by omega))) (by simp [(pvsc hf).2, (pvsc hc).2, pv, pv1, pv0]) ?_
    refine RG.nil ?_
    refine SC.cond rfl (fun hb2 => ?_) (fun hb2 => ?_)
    · try simp only [decide_eq_true_eq, decide_eq_false_iff_not, Bool.not_eq_true, Bool.not_eq_false, Bool.not_eq_eq_eq_not, Bool.not_true, Bool.not_false, beq_iff_eq, bne_iff_ne, ne_eq, Bool.and_eq_true, Bool.or_eq_true, Bool.and_eq_false_imp, Bool.or_eq_false_iff, Int.toNat_natCast, beq_eq_false_iff_ne, Decidable.not_not, bne_eq_false_iff_eq, Int.not_lt, Int.not_le] at hb2
      refine SC.seq ?_
      refine SC.region ?_
      refine RG.go tab 2 [] rfl ?_
      refine RG.nil ?_
      refine SC.ret (End.ret tab rfl ?_)
      refine seal_eq rfl ?_
      rw [place_some (i := i) (d := 0) (by omega) hI (by simpa using hb2)]
    · try simp only [decide_eq_true_eq, decide_eq_false_iff_not, Bool.not_eq_true, Bool.not_eq_false, Bool.not_eq_eq_eq_not, Bool.not_true, Bool.not_false, beq_iff_eq, bne_iff_ne, ne_eq, Bool.and_eq_true, Bool.or_eq_true, Bool.and_eq_false_imp, Bool.or_eq_false_iff, Int.toNat_natCast, beq_eq_false_iff_ne, Decidable.not_not, bne_eq_false_iff_eq, Int.not_lt, Int.not_le] at hb2
      refine SC.skip ?_
      refine SC.region ?_
      refine RG.ask tab 2 [] rfl (by (repeat' refine And.intro ?_ ?_) <;> first | rfl | omega | (unfold in64; omega) | (simp; done) | (simp; omega) | (simp at *; omega)) ?_
      refine RG.nil ?_
      refine ⟨i + 1, (by omega), ⟨by omega, fun j hj => (Nat.lt_succ_iff_lt_or_eq.1 hj).elim (fun h => hI j h) (fun h => by rw [h]; simpa using hb2)⟩, Drop.none0, rfl, rfl, rfl, (by simp [sc, (pvsc hf).1, (pvsc hc).1]), rfl, rfl, rfl, rfl, trivial⟩
  · try simp only [decide_eq_false_iff_not, Int.not_lt] at hb1
    refine SC.exit ?_
    refine SC.seq ?_
    refine SC.region ?_
    refine RG.go tab 1 [] rfl ?_
    refine RG.nil ?_
    refine SC.ret (End.ret tab rfl ?_)
    refine seal_eq rfl ?_
    rw [place_none (d := 0) fun j hj => hI j (by omega)]
theorem ContainsFunc_int (l : List (Int)) (g : FuncId) (first caps : List AV) (p : Int → Bool) (hp : ∀ x ∈ l, PF Try.prog g (first ++ [.int .i64 x] ++ caps) (.bool (p x))) (hf : first.all pv1 = true) (hc : caps.all pv1 = true) : PF Try.prog 126 [ints l, .fn g first caps] (.bool (l.any p)) := by
  refine PF.text Try.func126 rfl rfl rfl fun B => ?_
  refine SC.len 0 rfl fun hlen0 => ?_
  refine SC.seq ?_
  refine SC.region ?_
  refine RG.go tab 1 [] rfl ?_
  refine RG.nil ?_
  refine SC.seq ?_
  refine SC.region ?_
  refine RG.go tab 2 [] rfl ?_
  refine RG.pf rfl rfl (IndexFunc_int l g first caps p hp hf hc) (by simp [pv, pv1, pv0, hf, hc]) ?_
  refine RG.go tab 2 [] rfl ?_
  refine RG.nil ?_
  refine SC.ret (End.ret tab rfl ?_)
  refine seal_eq rfl ?_
  rw [← place_any]
theorem areAll1_int (x : Int) (g : FuncId) (first caps : List AV) (p : Int → Bool) (hp : PF Try.prog g (first ++ [.int .i64 x] ++ caps) (.bool (p x))) (hf : first.all pv1 = true) (hc : caps.all pv1 = true) : PF Try.prog 127 [.int .i64 x, .iptr [.fn g first caps]] (.bool (!p x)) := by
  refine PF.text Try.func127 rfl rfl rfl fun B => ?_
  refine SC.seq ?_
  refine SC.region ?_
  refine RG.go tab 1 [] rfl ?_
  refine RG.nil ?_
  refine SC.seq ?_
  refine SC.region ?_
  refine RG.go tab 2 [] rfl ?_
  refine RG.pf rfl rfl hp (by simp [(pvsc hf).2, (pvsc hc).2, pv, pv1, pv0]) ?_
  refine RG.go tab 2 [] rfl ?_
  refine RG.nil ?_
  refine SC.ret (End.ret tab rfl ?_)
  refine seal_eq rfl ?_
  first | rfl | simp_all
theorem areAll_int (l : List (Int)) (g : FuncId) (first caps : List AV) (p : Int → Bool) (hp : ∀ x ∈ l, PF Try.prog g (first ++ [.int .i64 x] ++ caps) (.bool (p x))) (hf : first.all pv1 = true) (hc : caps.all pv1 = true) : PF Try.prog 110 [ints l, .fn g first caps] (.bool (l.all p)) := by
  refine PF.text Try.func110 rfl rfl rfl fun B => ?_
  refine SC.len 0 rfl fun hlen0 => ?_
  refine SC.seq ?_
  refine SC.region ?_
  refine RG.go tab 2 [] rfl ?_
  refine RG.nil ?_
  refine SC.seq ?_
  refine SC.region ?_
  refine RG.go tab 2 [] rfl ?_
  refine RG.pfb rfl rfl (ContainsFunc_int l (127) [] [.iptr [.fn g first caps]] (fun x : Int => !p x) (fun x hx => areAll1_int x g first caps p (hp x hx) hf hc) rfl rfl) ⟨.same rfl, .fn rfl (fun j hj => absurd hj (Nat.not_lt_zero _)) rfl (fun j hj => by match j, hj with | 0, _ => exact .ptr rfl rfl (Nat.le_of_ble_eq_true rfl) rfl (fun j hj => by match j, hj with | 0, _ => exact .same (by simp [pv, hf, hc]))), trivial⟩ rfl ?_
  refine RG.go tab 2 [] rfl ?_
  refine RG.nil ?_
  refine SC.ret (End.ret tab rfl ?_)
  refine seal_eq rfl ?_
  rw [List.all_eq_not_any_not]
theorem IndexFunc_vWeightedS (l : List (List Int × Int)) (g : FuncId) (first caps : List AV) (p : (List Int × Int) → Bool) (hp : ∀ x ∈ l, PF Try.prog g (first ++ [.agg [ints x.1, .int .i64 x.2]] ++ caps) (.bool (p x))) (hf : first.all pv1 = true) (hc : caps.all pv1 = true) : PF Try.prog 109 [vWeightedS l, .fn g first caps] (.int .i64 (place p l)) := by
  refine PF.text Try.func109 rfl rfl rfl fun B => ?_
  refine SC.len 0 rfl fun hlen0 => ?_
  refine SC.seq ?_
  refine SC.region ?_
  refine RG.go tab 1 [] rfl ?_
  refine RG.nil ?_
  refine SC.seq ?_
  refine SC.seq ?_
  refine SC.region ?_
  refine RG.go tab 3 [] rfl ?_
  refine RG.nil ?_
  refine SC.block ?_
  refine SC.loop1 (fun (i : Nat) => l.length - i) (fun (i : Nat) => i ≤ l.length ∧ ∀ j, j < i → p (l.getD j ([], 0)) = false) (fun (i : Nat) => [(0, vWeightedS l), (1, .fn g first caps), (7, .int .i64 (l.length : Int)), (8, .int .i64 ((i : Nat) : Int))]) (fun (i : Nat) => []) 0 ⟨Nat.zero_le _, fun j hj => absurd hj (Nat.not_lt_zero _)⟩ (Drop.none0) ⟨rfl, rfl, rfl, (by simp [sc, (pvsc hf).1, (pvsc hc).1]), rfl, rfl, rfl, rfl, trivial⟩ (fun _ => Nat.le_of_ble_eq_true rfl) fun i hI0 => ?_
  obtain ⟨hi, hI⟩ := hI0
  refine SC.seq ?_
  refine SC.region ?_
  refine RG.go tab 1 [] rfl ?_
  refine RG.nil ?_
  refine SC.seq ?_
  refine SC.cond rfl (fun hb1 => ?_) (fun hb1 => ?_)
  · try simp only [decide_eq_true_eq] at hb1
    refine SC.skip ?_
    refine SC.seq ?_
    refine SC.block ?_
    refine SC.seq ?_
    refine SC.region ?_
    refine RG.go tab 2 [] rfl ?_
    refine RG.nil ?_
    refine SC.seq ?_
    refine SC.region ?_
    refine RG.ask tab 5 [] rfl (by (repeat' refine And.intro ?_ ?_) <;> first | rfl | omega | (unfold in64; omega) | (simp; done) | (simp; omega) | (simp at *; omega)) ?_
    refine RG.pf rfl rfl (hp (l.getD i ([], 0)) (getD_mem (by omega))) (by simp [(pvsc hf).2, (pvsc hc).2, pv, pv1, pv0]) ?_
    refine RG.nil ?_
    refine SC.cond rfl (fun hb2 => ?_) (fun hb2 => ?_)
    · try simp only [decide_eq_true_eq, decide_eq_false_iff_not, Bool.not_eq_true, Bool.not_eq_false, Bool.not_eq_eq_eq_not, Bool.not_true, Bool.not_false, beq_iff_eq, bne_iff_ne, ne_eq, Bool.and_eq_true, Bool.or_eq_true, Bool.and_eq_false_imp, Bool.or_eq_false_iff, Int.toNat_natCast, beq_eq_false_iff_ne, Decidable.not_not, bne_eq_false_iff_eq, Int.not_lt, Int.not_le] at hb2
      refine SC.seq ?_
      refine SC.region ?_
      refine RG.go tab 2 [] rfl ?_
      refine RG.nil ?_
      refine SC.ret (End.ret tab rfl ?_)
      refine seal_eq rfl ?_
      rw [place_some (i := i) (d := ([], 0)) (by omega) hI (by simpa using hb2)]
    · try simp only [decide_eq_true_eq, decide_eq_false_iff_not, Bool.not_eq_true, Bool.not_eq_false, Bool.not_eq_eq_eq_not, Bool.not_true, Bool.not_false, beq_iff_eq, bne_iff_ne, ne_eq, Bool.and_eq_true, Bool.or_eq_true, Bool.and_eq_false_imp, Bool.or_eq_false_iff, Int.toNat_natCast, beq_eq_false_iff_ne, Decidable.not_not, bne_eq_false_iff_eq, Int.not_lt, Int.not_le] at hb2
      refine SC.skip ?_
      refine SC.region ?_
      refine RG.ask tab 2 [] rfl (by (repeat' refine And.intro ?_ ?_) <;> first | rfl | omega | (unfold in64; omega) | (simp; done) | (simp; omega) | (simp at *; omega)) ?_
      refine RG.nil ?_
      refine ⟨i + 1, (by omega), ⟨by omega, fun j hj => (Nat.lt_succ_iff_lt_or_eq.1 hj).elim (fun h => hI j h) (fun h => by rw [h]; simpa using hb2)⟩, Drop.none0, rfl, rfl, rfl, (by simp [sc, (pvsc hf).1, (pvsc hc).1]), rfl, rfl, rfl, rfl, trivial⟩
  · try simp only [decide_eq_false_iff_not, Int.not_lt] at hb1
    refine SC.exit ?_
    refine SC.seq ?_
    refine SC.region ?_
    refine RG.go tab 1 [] rfl ?_
    refine RG.nil ?_
    refine SC.ret (End.ret tab rfl ?_)
    refine seal_eq rfl ?_
    rw [place_none (d := ([], 0)) fun j hj => hI j (by omega)]
theorem ContainsFunc_vWeightedS (l : List (List Int × Int)) (g : FuncId) (first caps : List AV) (p : (List Int × Int) → Bool) (hp : ∀ x ∈ l, PF Try.prog g (first ++ [.agg [ints x.1, .int .i64 x.2]] ++ caps) (.bool (p x))) (hf : first.all pv1 = true) (hc : caps.all pv1 = true) : PF Try.prog 78 [vWeightedS l, .fn g first caps] (.bool (l.any p)) := by
  refine PF.text Try.func78 rfl rfl rfl fun B => ?_
  refine SC.len 0 rfl fun hlen0 => ?_
  refine SC.seq ?_
  refine SC.region ?_
  refine RG.go tab 1 [] rfl ?_
  refine RG.nil ?_
  refine SC.seq ?_
  refine SC.region ?_
  refine RG.go tab 2 [] rfl ?_
  refine RG.pf rfl rfl (IndexFunc_vWeightedS l g first caps p hp hf hc) (by simp [pv, pv1, pv0, hf, hc]) ?_
  refine RG.go tab 2 [] rfl ?_
  refine RG.nil ?_
  refine SC.ret (End.ret tab rfl ?_)
  refine seal_eq rfl ?_
  rw [← place_any]
theorem areAll1_vWeightedS (x : List Int × Int) (g : FuncId) (first caps : List AV) (p : (List Int × Int) → Bool) (hp : PF Try.prog g (first ++ [.agg [ints x.1, .int .i64 x.2]] ++ caps) (.bool (p x))) (hf : first.all pv1 = true) (hc : caps.all pv1 = true) : PF Try.prog 79 [.agg [ints x.1, .int .i64 x.2], .iptr [.fn g first caps]] (.bool (!p x)) := by
  refine PF.text Try.func79 rfl rfl rfl fun B => ?_
  refine SC.lenA 0 0 rfl (Nat.le_of_ble_eq_true rfl) rfl fun hlen0_0 => ?_
  refine SC.seq ?_
  refine SC.region ?_
  refine RG.go tab 2 [] rfl ?_
  refine RG.nil ?_
  refine SC.seq ?_
  refine SC.region ?_
  refine RG.go tab 2 [] rfl ?_
  refine RG.pf rfl rfl hp (by simp [(pvsc hf).2, (pvsc hc).2, pv, pv1, pv0]) ?_
  refine RG.go tab 2 [] rfl ?_
  refine RG.nil ?_
  refine SC.ret (End.ret tab rfl ?_)
  refine seal_eq rfl ?_
  first | rfl | simp_all
theorem areAll_vWeightedS (l : List (List Int × Int)) (g : FuncId) (first caps : List AV) (p : (List Int × Int) → Bool) (hp : ∀ x ∈ l, PF Try.prog g (first ++ [.agg [ints x.1, .int .i64 x.2]] ++ caps) (.bool (p x))) (hf : first.all pv1 = true) (hc : caps.all pv1 = true) : PF Try.prog 38 [vWeightedS l, .fn g first caps] (.bool (l.all p)) := by
  refine PF.text Try.func38 rfl rfl rfl fun B => ?_
  refine SC.len 0 rfl fun hlen0 => ?_
  refine SC.seq ?_
  refine SC.region ?_
  refine RG.go tab 2 [] rfl ?_
  refine RG.nil ?_
  refine SC.seq ?_
  refine SC.region ?_
  refine RG.go tab 2 [] rfl ?_
  refine RG.pfb rfl rfl (ContainsFunc_vWeightedS l (79) [] [.iptr [.fn g first caps]] (fun x : List Int × Int => !p x) (fun x hx => areAll1_vWeightedS x g first caps p (hp x hx) hf hc) rfl rfl) ⟨.same rfl, .fn rfl (fun j hj => absurd hj (Nat.not_lt_zero _)) rfl (fun j hj => by match j, hj with | 0, _ => exact .ptr rfl rfl (Nat.le_of_ble_eq_true rfl) rfl (fun j hj => by match j, hj with | 0, _ => exact .same (by simp [pv, hf, hc]))), trivial⟩ rfl ?_
  refine RG.go tab 2 [] rfl ?_
  refine RG.nil ?_
  refine SC.ret (End.ret tab rfl ?_)
  refine seal_eq rfl ?_
  rw [List.all_eq_not_any_not]
theorem IndexFunc_vGroupS (l : List (List Int × Int × Int)) (g : FuncId) (first caps : List AV) (p : (List Int × Int × Int) → Bool) (hp : ∀ x ∈ l, PF Try.prog g (first ++ [.agg [ints x.1, .int .i64 x.2.1, .int .i64 x.2.2]] ++ caps) (.bool (p x))) (hf : first.all pv1 = true) (hc : caps.all pv1 = true) : PF Try.prog 119 [vGroupS l, .fn g first caps] (.int .i64 (place p l)) := by
  refine PF.text Try.func119 rfl rfl rfl fun B => ?_
  refine SC.len 0 rfl fun hlen0 => ?_
  refine SC.seq ?_
  refine SC.region ?_
  refine RG.go tab 1 [] rfl ?_
  refine RG.nil ?_
  refine SC.seq ?_
  refine SC.seq ?_
  refine SC.region ?_
  refine RG.go tab 3 [] rfl ?_
  refine RG.nil ?_
  refine SC.block ?_
  refine SC.loop1 (fun (i : Nat) => l.length - i) (fun (i : Nat) => i ≤ l.length ∧ ∀ j, j < i → p (l.getD j ([], 0, 0)) = false) (fun (i : Nat) => [(0, vGroupS l), (1, .fn g first caps), (7, .int .i64 (l.length : Int)), (8, .int .i64 ((i : Nat) : Int))]) (fun (i : Nat) => []) 0 ⟨Nat.zero_le _, fun j hj => absurd hj (Nat.not_lt_zero _)⟩ (Drop.none0) ⟨rfl, rfl, rfl, (by simp [sc, (pvsc hf).1, (pvsc hc).1]), rfl, rfl, rfl, rfl, trivial⟩ (fun _ => Nat.le_of_ble_eq_true rfl) fun i hI0 => ?_
  obtain ⟨hi, hI⟩ := hI0
  refine SC.seq ?_
  refine SC.region ?_
  refine RG.go tab 1 [] rfl ?_
  refine RG.nil ?_
  refine SC.seq ?_
  refine SC.cond rfl (fun hb1 => ?_) (fun hb1 => ?_)
  · try simp only [decide_eq_true_eq] at hb1
    refine SC.skip ?_
    refine SC.seq ?_
    refine SC.block ?_
    refine SC.seq ?_
    refine SC.region ?_
    refine RG.go tab 2 [] rfl ?_
    refine RG.nil ?_
    refine SC.seq ?_
    refine SC.region ?_
    refine RG.ask tab 5 [] rfl (by (repeat' refine And.intro ?_ ?_) <;> first | rfl | omega | (unfold in64; omega) | (simp; done) | (simp; omega) | (simp at *; omega)) ?_
    refine RG.pf rfl rfl (hp (l.getD i ([], 0, 0)) (getD_mem (by omega))) (by simp [(pvsc hf).2, (pvsc hc).2, pv, pv1, pv0]) ?_
    refine RG.nil ?_
    refine SC.cond rfl (fun hb2 => ?_) (fun hb2 => ?_)
    · try simp only [decide_eq_true_eq, decide_eq_false_iff_not, Bool.not_eq_true, Bool.not_eq_false, Bool.not_eq_eq_eq_not, Bool.not_true, Bool.not_false, beq_iff_eq, bne_iff_ne, ne_eq, Bool.and_eq_true, Bool.or_eq_true, Bool.and_eq_false_imp, Bool.or_eq_false_iff, Int.toNat_natCast, beq_eq_false_iff_ne, Decidable.not_not, bne_eq_false_iff_eq, Int.not_lt, Int.not_le] at hb2
      refine SC.seq ?_
      refine SC.region ?_
      refine RG.go tab 2 [] rfl ?_
      refine RG.nil ?_
      refine SC.ret (End.ret tab rfl ?_)
      refine seal_eq rfl ?_
      rw [place_some (i := i) (d := ([], 0, 0)) (by omega) hI (by simpa using hb2)]
    · try simp only [decide_eq_true_eq, decide_eq_false_iff_not, Bool.not_eq_true, Bool.not_eq_false, Bool.not_eq_eq_eq_not, Bool.not_true, Bool.not_false, beq_iff_eq, bne_iff_ne, ne_eq, Bool.and_eq_true, Bool.or_eq_true, Bool.and_eq_false_imp, Bool.or_eq_false_iff, Int.toNat_natCast, beq_eq_false_iff_ne, Decidable.not_not, bne_eq_false_iff_eq, Int.not_lt, Int.not_le] at hb2
      refine SC.skip ?_
      refine SC.region ?_
      refine RG.ask tab 2 [] rfl (by (repeat' refine And.intro ?_ ?_) <;> first | rfl | omega | (unfold in64; omega) | (simp; done) | (simp; omega) | (simp at *; omega)) ?_
      refine RG.nil ?_
      refine ⟨i + 1, (by omega), ⟨by omega, fun j hj => (Nat.lt_succ_iff_lt_or_eq.1 hj).elim (fun h => hI j h) (fun h => by rw [h]; simpa using hb2)⟩, Drop.none0, rfl, rfl, rfl, (by simp [sc, (pvsc hf).1, (pvsc hc).1]), rfl, rfl, rfl, rfl, trivial⟩
  · try simp only [decide_eq_false_iff_not, Int.not_lt] at hb1
    refine SC.exit ?_
    refine SC.seq ?_
    refine SC.region ?_
    refine RG.go tab 1 [] rfl ?_
    refine RG.nil ?_
    refine SC.ret (End.ret tab rfl ?_)
    refine seal_eq rfl ?_
    rw [place_none (d := ([], 0, 0)) fun j hj => hI j (by omega)]
end Go.Proofs.Ythholadaflfpcaa
