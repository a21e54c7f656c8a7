import Derived.Test.YthholadaflfpcaaP10
namespace Go.Proofs.Ythholadaflfpcaa
open Go Go.Fw
theorem flat_succ {α : Type} {l : List (List α)} {i : Nat} (h : i < l.length) : (l.take (i + 1)).flatten = (l.take i).flatten ++ l.getD i [] := by
  rw [List.take_succ_eq_append_getElem h, List.flatten_append]
  simp [List.getD_eq_getElem?_getD, h]
theorem flat_le {α : Type} (l : List (List α)) (i : Nat) : (l.take i).flatten.length ≤ l.flatten.length := by
  have h := congrArg List.length (congrArg List.flatten (List.take_append_drop i l))
  rw [List.flatten_append, List.length_append] at h
  omega
def vWeightedSS (ls : List (List (List Int × Int))) : AV := .isl 1 ls.length fun i => [vWeightedS (ls.getD i [])]
def zW : Option (List Int × Int) → List AV
  | none => [.nsl, .int .i64 0]
  | some w => rW w
theorem zW_ok (x : Option (List Int × Int)) : (zW x).length = 2 ∧ (zW x).all leaf = true := by cases x <;> exact ⟨rfl, rfl⟩
theorem growW (n : Nat) (hn : n ≤ 1099511627776) : FC Try.prog 112 [.nsl, .int .i64 ((n : Nat) : Int)] [] (fun r S' => (n = 0 ∧ r = .nsl ∧ S' = []) ∨ (0 < n ∧ r = .win 0 n 0 0 ∧ S' = [some ⟨72, 2, ((List.replicate n (none : Option (List Int × Int)))).map zW⟩])) := by
  refine FC.text Try.func112 rfl rfl rfl fun B => ?_
  refine SC.seq ?_
  refine SC.region ?_
  refine RG.go tab 1 [] rfl ?_
  refine RG.nil ?_
  refine SC.seq ?_
  refine SC.seq ?_
  refine SC.region ?_
  refine RG.go tab 2 [] rfl ?_
  refine RG.nil ?_
  refine SC.cond rfl (fun hb1 => ?_) (fun hb1 => ?_)
  · try simp only [decide_eq_true_eq] at hb1
    omega
  · try simp only [decide_eq_false_iff_not, Int.not_lt] at hb1
    refine SC.skip ?_
    refine SC.seq ?_
    refine SC.seq ?_
    refine SC.region ?_
    refine RG.go tab 2 [] rfl ?_
    refine RG.capNil tab rfl rfl rfl rfl ?_
    refine RG.ask tab 5 [] rfl (by (repeat' refine And.intro ?_ ?_) <;> first | rfl | omega | (unfold in64; omega) | (simp; done) | (simp; omega) | (simp at *; omega)) ?_
    refine RG.nil ?_
    refine SC.seq ?_
    refine SC.region ?_
    refine RG.go tab 2 [] rfl ?_
    refine RG.nil ?_
    refine SC.cond rfl (fun hb2 => ?_) (fun hb2 => ?_)
    · try simp only [decide_eq_true_eq] at hb2
      refine SC.region ?_
      refine RG.go tab 2 [] rfl ?_
      refine RG.capNil tab rfl rfl rfl rfl ?_
      refine RG.slNil tab rfl rfl rfl rfl rfl ?_
      refine RG.go tab 1 [] rfl ?_
      refine RG.appZ tab zW none (n := n) rfl rfl rfl rfl rfl rfl (show AV.int .i64 _ = AV.int .i64 _ from by first | (congr 1; done) | (congr 1; omega)) rfl rfl rfl (by omega) (by show n * 32 ≤ _; omega) ?_
      refine RG.go tab 2 [] rfl ?_
      refine RG.slWin0 tab (q := 0) rfl rfl rfl rfl rfl rfl rfl (by simp) (by omega) (Nat.zero_le _) ?_
      refine RG.go tab 1 [] rfl ?_
      refine RG.nil ?_
      refine SC.seq ?_
      refine SC.region ?_
      refine RG.go tab 2 [] rfl ?_
      refine RG.nil ?_
      refine SC.ret (End.ret tab rfl ?_)
      exact .inr ⟨by omega, rfl, rfl⟩
    · try simp only [decide_eq_false_iff_not, Int.not_lt] at hb2
      refine SC.skip ?_
      refine SC.seq ?_
      refine SC.region ?_
      refine RG.go tab 2 [] rfl ?_
      refine RG.nil ?_
      refine SC.ret (End.ret tab rfl ?_)
      exact .inl ⟨by omega, rfl, rfl⟩
theorem concatW (ls : List (List (List Int × Int))) (ht : ls.flatten.length ≤ 1099511627776) : FC Try.prog 82 [vWeightedSS ls] [] (fun r S' => ∃ ob', S' = [some ob'] ∧ (r = .sl 0 ls.flatten.length ∧ ob' = ⟨72, 2, ls.flatten.map rW⟩)) := by
  refine FC.text Try.func82 rfl rfl rfl fun B => ?_
  refine SC.len 0 rfl fun hlen0 => ?_
  refine SC.seq ?_
  refine SC.region ?_
  refine RG.go tab 1 [0] rfl ?_
  refine RG.nil ?_
  refine SC.seq ?_
  refine SC.region ?_
  refine RG.go tab 1 [0] rfl ?_
  refine RG.nil ?_
  refine SC.seq ?_
  refine SC.seq ?_
  refine SC.region ?_
  refine RG.go tab 3 [0] rfl ?_
  refine RG.nil ?_
  refine SC.block ?_
  refine SC.loop2 (fun (i : Nat) (q : Nat) => ls.length - i) (fun (i : Nat) (q : Nat) => i ≤ ls.length ∧ q = (ls.take i).flatten.length) (fun (i : Nat) (q : Nat) => [(0, vWeightedSS ls), (3, .int .i64 ((q : Nat) : Int)), (9, vWeightedSS ls), (10, .int .i64 (ls.length : Int)), (11, .int .i64 ((i : Nat) : Int))]) (fun (i : Nat) (q : Nat) => []) 0 0 ⟨Nat.zero_le _, rfl⟩ (Drop.none0) ⟨rfl, rfl, rfl, rfl, rfl, rfl, rfl, rfl, rfl, rfl, trivial⟩ (fun _ _ => Nat.le_of_ble_eq_true rfl) fun i q hI0 => ?_
  obtain ⟨hi, hq⟩ := hI0
  have hqle := flat_le ls i
  refine SC.seq ?_
  refine SC.region ?_
  refine RG.go tab 1 [0] rfl ?_
  refine RG.nil ?_
  refine SC.seq ?_
  refine SC.cond rfl (fun hb1 => ?_) (fun hb1 => ?_)
  · try simp only [decide_eq_true_eq] at hb1
    refine SC.skip ?_
    refine SC.seq ?_
    refine SC.block ?_
    refine SC.seq ?_
    refine SC.region ?_
    refine RG.ask tab 3 [0] rfl (by (repeat' refine And.intro ?_ ?_) <;> first | rfl | omega | (unfold in64; omega) | (simp; done) | (simp; omega) | (simp at *; omega)) ?_
    refine RG.nil ?_
    refine SC.seq ?_
    refine SC.region ?_
    refine RG.ask tab 5 [0] rfl (by have hf1 := flat_succ (l := ls) (i := i) (by omega); have hf2 := flat_le ls (i + 1); rw [hf1, List.length_append] at hf2; show in64 ((q : Int) + ((ls.getD i []).length : Int)); unfold in64; omega) ?_
    refine RG.nil ?_
    refine SC.seq ?_
    refine SC.region ?_
    refine RG.go tab 2 [0] rfl ?_
    refine RG.nil ?_
    refine SC.cond rfl (fun hb2 => ?_) (fun hb2 => ?_)
    · try simp only [decide_eq_true_eq, Int.toNat_natCast] at hb2
      omega
    · try simp only [decide_eq_false_iff_not, Int.toNat_natCast, Int.not_lt] at hb2
      refine SC.skip ?_
      refine SC.region ?_
      refine RG.ask tab 2 [0] rfl (by (repeat' refine And.intro ?_ ?_) <;> first | rfl | omega | (unfold in64; omega) | (simp; done) | (simp; omega) | (simp at *; omega)) ?_
      refine RG.nil ?_
      refine ⟨i + 1, q + (ls.getD i []).length, (by omega), ⟨by omega, by rw [flat_succ (by omega), List.length_append, hq]⟩, Drop.none0, rfl, rfl, rfl, rfl, rfl, rfl, rfl, rfl, rfl, rfl, trivial⟩
  · try simp only [decide_eq_false_iff_not, Int.not_lt] at hb1
    have hqt : q = ls.flatten.length := by rw [hq, List.take_of_length_le (by omega)]
    refine SC.exit ?_
    refine SC.seq ?_
    refine SC.region ?_
    refine RG.go tab 1 [0] rfl ?_
    refine RG.fc rfl rfl (growW q (by omega)) (fun r0 S0 hq0 => ?_)
    rcases hq0 with ⟨hz, rfl, rfl⟩ | ⟨hz, rfl, rfl⟩
    · refine RG.liftSlot 24 72 2 rfl ?_
      refine RG.go tab 1 [0] rfl ?_
      refine RG.nil ?_
      refine SC.seq ?_
      refine SC.seq ?_
      refine SC.region ?_
      refine RG.go tab 3 [0] rfl ?_
      refine RG.nil ?_
      refine SC.block ?_
      refine SC.loop3 (fun (i : Nat) (m : Nat) (xs : List (List Int × Int)) => ls.length - i) (fun (i : Nat) (m : Nat) (xs : List (List Int × Int)) => i ≤ ls.length ∧ xs.length = m ∧ xs = (ls.take i).flatten) (fun (i : Nat) (m : Nat) (xs : List (List Int × Int)) => [(6, .sl 0 m), (25, vWeightedSS ls), (26, .int .i64 (ls.length : Int)), (27, .int .i64 ((i : Nat) : Int))]) (fun (i : Nat) (m : Nat) (xs : List (List Int × Int)) => [some ⟨72, 2, (xs).map rW⟩]) 0 0 [] ⟨Nat.zero_le _, rfl, rfl⟩ (Drop.mask [true] (rfl) ⟨Sc.rows fun _ => ⟨rfl, rfl⟩, trivial⟩) ⟨rfl, rfl, rfl, rfl, rfl, rfl, rfl, rfl, trivial⟩ (fun _ _ _ => Nat.le_of_ble_eq_true rfl) fun i m xs hI1 => ?_
      obtain ⟨hi, hxl, hxs⟩ := hI1
      refine SC.seq ?_
      refine SC.region ?_
      refine RG.go tab 1 [0] rfl ?_
      refine RG.nil ?_
      refine SC.seq ?_
      refine SC.cond rfl (fun hb3 => ?_) (fun hb3 => ?_)
      · try simp only [decide_eq_true_eq] at hb3
        refine SC.skip ?_
        refine SC.seq ?_
        refine SC.block ?_
        refine SC.seq ?_
        refine SC.region ?_
        refine RG.ask tab 3 [0] rfl (by (repeat' refine And.intro ?_ ?_) <;> first | rfl | omega | (unfold in64; omega) | (simp; done) | (simp; omega) | (simp at *; omega)) ?_
        refine RG.nil ?_
        refine SC.region ?_
        refine RG.go tab 2 [0] rfl ?_
        have hf3 := flat_succ (l := ls) (i := i) (by omega)
        have hf4 := flat_le ls (i + 1)
        rw [hf3, List.length_append, ← hxs] at hf4
        refine RG.appL tab [0] rW xs (ls.getD i []) rfl rfl rfl (els_isl (ls.getD i []) ([], 0) rfl (fun _ _ => rfl)) ⟨fun _ _ => ⟨rfl, rfl⟩, (by simp; omega), (by show (m + (ls.getD i []).length) * 32 ≤ _; omega)⟩ rfl ?_
        refine RG.go tab 1 [0] rfl ?_
        refine RG.nil ?_
        refine SC.region ?_
        refine RG.ask tab 2 [0] rfl (by (repeat' refine And.intro ?_ ?_) <;> first | rfl | omega | (unfold in64; omega) | (simp; done) | (simp; omega) | (simp at *; omega)) ?_
        refine RG.nil ?_
        have hf1 := flat_succ (l := ls) (i := i) (by omega)
        refine ⟨i + 1, m + (ls.getD i []).length, xs ++ (ls.getD i []), (by omega), ⟨by omega, by simp [hxl], by rw [hf1, hxs]⟩, Drop.mask [true] (rfl) ⟨Sc.rows fun _ => ⟨rfl, rfl⟩, trivial⟩, rfl, rfl, rfl, rfl, rfl, rfl, rfl, rfl, trivial⟩
      · try simp only [decide_eq_false_iff_not, Int.not_lt] at hb3
        have hil : ls.take i = ls := List.take_of_length_le (by omega)
        refine SC.exit ?_
        refine SC.seq ?_
        refine SC.region ?_
        refine RG.go tab 1 [0] rfl ?_
        refine RG.go tab 1 [] rfl ?_
        refine RG.nil ?_
        refine SC.ret (End.ret tab rfl ?_)
        rw [hil] at hxs
        subst hxs
        exact ⟨_, rfl, by rw [hxl], rfl⟩
    · refine RG.go tab 1 [0] rfl ?_
      refine RG.nil ?_
      refine SC.seq ?_
      refine SC.seq ?_
      refine SC.region ?_
      refine RG.go tab 3 [0] rfl ?_
      refine RG.nil ?_
      refine SC.block ?_
      refine SC.loop3 (fun (i : Nat) (m : Nat) (xs : List (Option (List Int × Int))) => ls.length - i) (fun (i : Nat) (m : Nat) (xs : List (Option (List Int × Int))) => i ≤ ls.length ∧ m = (ls.take i).flatten.length ∧ xs.length = q ∧ xs.take m = (ls.take i).flatten.map some) (fun (i : Nat) (m : Nat) (xs : List (Option (List Int × Int))) => [(6, .win 0 q 0 m), (25, vWeightedSS ls), (26, .int .i64 (ls.length : Int)), (27, .int .i64 ((i : Nat) : Int))]) (fun (i : Nat) (m : Nat) (xs : List (Option (List Int × Int))) => [some ⟨72, 2, (xs).map zW⟩]) 0 0 (List.replicate q none) ⟨Nat.zero_le _, rfl, by simp, rfl⟩ (Drop.mask [true] rfl ⟨Sc.rows fun x => by cases x <;> exact ⟨rfl, rfl⟩, trivial⟩) ⟨rfl, rfl, rfl, rfl, rfl, rfl, rfl, rfl, trivial⟩ (fun _ _ _ => Nat.le_of_ble_eq_true rfl) fun i m xs hI1 => ?_
      obtain ⟨hi, hm, hxl, hxs⟩ := hI1
      refine SC.seq ?_
      refine SC.region ?_
      refine RG.go tab 1 [0] rfl ?_
      refine RG.nil ?_
      refine SC.seq ?_
      refine SC.cond rfl (fun hb4 => ?_) (fun hb4 => ?_)
      · try simp only [decide_eq_true_eq] at hb4
        refine SC.skip ?_
        refine SC.seq ?_
        refine SC.block ?_
        refine SC.seq ?_
        refine SC.region ?_
        refine RG.ask tab 3 [0] rfl (by (repeat' refine And.intro ?_ ?_) <;> first | rfl | omega | (unfold in64; omega) | (simp; done) | (simp; omega) | (simp at *; omega)) ?_
        refine RG.nil ?_
        refine SC.region ?_
        refine RG.go tab 2 [0] rfl ?_
        have hf3 := flat_succ (l := ls) (i := i) (by omega)
        have hf4 := flat_le ls (i + 1)
        rw [hf3, List.length_append] at hf4
        refine RG.winApp0 tab zW none xs ((ls.getD i []).map some) rfl rfl rfl rfl rfl rfl hxl rfl rfl (fun k hk => (congrArg zW (getD_map' some (ls.getD i []) k ([], 0) none hk)).symm) (by simp) zW_ok (show m + (ls.getD i []).length ≤ q by omega) rfl ?_
        refine RG.go tab 1 [0] rfl ?_
        refine RG.nil ?_
        refine SC.region ?_
        refine RG.ask tab 2 [0] rfl (by (repeat' refine And.intro ?_ ?_) <;> first | rfl | omega | (unfold in64; omega) | (simp; done) | (simp; omega) | (simp at *; omega)) ?_
        refine RG.nil ?_
        have hf1 := flat_succ (l := ls) (i := i) (by omega)
        have hf2 := flat_le ls (i + 1)
        rw [hf1, List.length_append] at hf2
        refine ⟨i + 1, m + (ls.getD i []).length, xs.take m ++ (ls.getD i []).map some ++ xs.drop (m + (ls.getD i []).length), (by omega), ⟨by omega, by rw [hf1, List.length_append, hm], by simp only [List.length_append, List.length_take, List.length_drop, List.length_map]; omega, by rw [hf1, List.map_append, ← hxs, List.take_append_of_le_length (by simp; omega), List.take_of_length_le (by simp; omega)]⟩, Drop.mask [true] rfl ⟨Sc.rows fun x => by cases x <;> exact ⟨rfl, rfl⟩, trivial⟩, rfl, rfl, rfl, rfl, rfl, rfl, rfl, rfl, trivial⟩
      · try simp only [decide_eq_false_iff_not, Int.not_lt] at hb4
        have hil : ls.take i = ls := List.take_of_length_le (by omega)
        refine SC.exit ?_
        refine SC.seq ?_
        refine SC.region ?_
        refine RG.go tab 1 [0] rfl ?_
        rw [hil] at hm hxs
        have hmq : q = m := by omega
        subst hmq
        refine RG.go tab 1 [] rfl ?_
        refine RG.unwin 2 rfl ?_
        refine RG.nil ?_
        refine SC.ret (End.ret tab rfl ?_)
        rw [List.take_of_length_le (by omega)] at hxs
        subst hxs
        exact ⟨_, rfl, by rw [hqt], by rw [List.map_map]; rfl⟩
end Go.Proofs.Ythholadaflfpcaa
