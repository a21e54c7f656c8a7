import Derived.Test.YthholadaflfpcaaP4
namespace Go.Proofs.Ythholadaflfpcaa
open Go Go.Fw
theorem markIntS_mo (l : List Int) (k : Int) (h0 : 0 ≤ k) (h1 : k + l.length ≤ 1073741824) : MO Try.prog 45 [ints l] (fun Is => [.own (Is.headD G0) (ints l), .int .i64 k]) (.int .i64 (k + l.length)) [ints (fillI l k)] := by
  refine MU.mo (args := [.sl 0 l.length, .int .i64 k]) ⟨⟨_, Try.func45, rfl, rfl⟩, fun S0 hS0 => ?_⟩ (SameN.ints (fillI_len _ _)) rfl (fun L hL => ?_)
  case refine_2 =>
    match L, hL with
    | [(G, b)], h => cases h; exact ⟨.one (.one (.own 0 rfl)), .one (.one (.pure rfl)), trivial⟩
  obtain ⟨ty, sz, n, get, els, hb, rfl, ha⟩ := hS0.one
  cases hb
  obtain rfl := ha.ints
  refine FCM.text Try.func45 rfl rfl rfl fun B hB => ?_
  refine SC.seq ?_
  refine SC.region ?_
  refine RG.go tab 1 [] rfl ?_
  refine RG.nil ?_
  refine SC.seq ?_
  refine SC.seq ?_
  refine SC.region ?_
  refine RG.go tab 1 [] rfl ?_
  refine RG.nil ?_
  refine SC.block ?_
  refine SC.loop3 (fun (i : Nat) (xs : List Int) (r : Int) => l.length - i) (fun (i : Nat) (xs : List Int) (r : Int) => i ≤ l.length ∧ xs.length = l.length ∧ r = k + i ∧ ∀ j, j < i → xs.getD j 0 = k + j) (fun (i : Nat) (xs : List Int) (r : Int) => [(0, .sl 0 l.length), (1, .int .i64 r), (5, .int .i64 ((i : Nat) : Int))]) (fun (i : Nat) (xs : List Int) (r : Int) => [some ⟨ty, 1, (xs).map rI⟩]) 0 l k ⟨Nat.zero_le _, rfl, by omega, fun j hj => absurd hj (Nat.not_lt_zero _)⟩ (Drop.mask [true] (rfl) ⟨Sc.rows fun _ => ⟨rfl, rfl⟩, trivial⟩) ⟨rfl, rfl, rfl, rfl, rfl, rfl, trivial⟩ (fun _ _ _ => Nat.le_of_ble_eq_true rfl) fun i xs r hI0 => ?_
  obtain ⟨hi, hxs, hr, hI⟩ := hI0
  refine SC.seq ?_
  refine SC.seq ?_
  refine SC.region ?_
  refine RG.ask tab 4 [] rfl (by (repeat' refine And.intro ?_ ?_) <;> first | rfl | omega | (unfold in64; omega) | (simp; done) | (simp; omega) | (simp at *; omega)) ?_
  refine RG.nil ?_
  refine SC.cond rfl (fun hb1 => ?_) (fun hb1 => ?_)
  · try simp only [decide_eq_true_eq] at hb1
    refine SC.skip ?_
    refine SC.seq ?_
    refine SC.block ?_
    refine SC.seq ?_
    refine SC.region ?_
    refine RG.ask tab 4 [] rfl (by (repeat' refine And.intro ?_ ?_) <;> first | rfl | omega | (unfold in64; omega) | (simp; done) | (simp; omega) | (simp at *; omega)) ?_
    refine RG.str tab 0 r rfl rfl rfl rfl rfl rfl hxs (by omega) rfl rfl rfl rfl rfl ?_
    refine RG.nil ?_
    refine SC.region ?_
    refine RG.ask tab 3 [] rfl (by (repeat' refine And.intro ?_ ?_) <;> first | rfl | omega | (unfold in64; omega) | (simp; done) | (simp; omega) | (simp at *; omega)) ?_
    refine RG.nil ?_
    refine SC.region ?_
    refine RG.ask tab 3 [] rfl (by (repeat' refine And.intro ?_ ?_) <;> first | rfl | omega | (unfold in64; omega) | (simp; done) | (simp; omega) | (simp at *; omega)) ?_
    refine RG.nil ?_
    refine ⟨i + 1, xs.set i r, r + 1, (by omega), ⟨by omega, by simp [hxs], by omega, fun j hj => by rw [getD_set 0 (by omega)]; split <;> first | (rename_i hj2; rw [hj2]; exact hr) | exact hI j (by omega)⟩, Drop.mask [true] (rfl) ⟨Sc.rows fun _ => ⟨rfl, rfl⟩, trivial⟩, rfl, rfl, rfl, rfl, rfl, rfl, trivial⟩
  · try simp only [decide_eq_false_iff_not, Int.not_lt] at hb1
    refine SC.exit ?_
    refine SC.seq ?_
    refine SC.region ?_
    refine RG.go tab 2 [] rfl ?_
    refine RG.nil ?_
    refine SC.ret (End.ret tab rfl ?_)
    have he : xs = fillI l k := list_ext_getD 0 (by rw [hxs, fillI_len]) fun j hj => by rw [fillI_getD _ _ _ (by omega)]; exact hI j (by omega)
    subst he
    refine ⟨by rw [hr, show i = l.length by omega], Arr.ints', fun q x => ⟨fun h => absurd h foot_ints, fun h => absurd h foot_ints⟩⟩
theorem markWeightedS_mo (l : List (List Int × Int)) (k : Int) (h0 : 0 ≤ k) (h1 : k + sumL nW l ≤ 1073741824) : MO Try.prog 12 [vWeightedS l] (fun Is => [.own (Is.headD G0) (vWeightedS l), .int .i64 k]) (.int .i64 (k + sumL nW l)) [vWeightedS (fillWs l k)] := by
  refine MU.mo (args := [.sl 0 l.length, .int .i64 k]) ⟨⟨_, Try.func12, rfl, rfl⟩, fun S0 hS0 => ?_⟩ ⟨rfl, fun q hq => ?_⟩ rfl (fun L hL => ?_)
  case refine_2 =>
    have : q = 0 := by simpa using hq
    subst this
    refine ⟨2, l.length, _, (fun i => [ints (((fillWs l k).getD i ([], 0)).1), .int .i64 (((fillWs l k).getD i ([], 0)).2)]), rfl, ?_⟩
    show AV.isl 2 (fillWs l k).length _ = _
    rw [show (fillWs l k).length = l.length from fillL_len _ _ _ _]
  case refine_3 =>
    match L, hL with
    | [(G, b)], h => cases h; exact ⟨.one (.one (.own 0 rfl)), .one (.one (.pure rfl)), trivial⟩
  obtain ⟨ty, sz, n, get, els, hb, rfl, ha⟩ := hS0.one
  cases hb
  obtain ⟨gl, hgl, rfl, hgd⟩ := Arr.rows1 (g := (fun w : List Int × Int => ints w.1)) (sc := (fun w : List Int × Int => [.int .i64 w.2])) ([], 0) (fun _ => ⟨_, _, _, rfl⟩) (fun _ => ⟨rfl, rfl⟩) ha
  have hll := sumL_len (f := nW) (fun _ => by unfold nW; omega) l
  refine FCM.text Try.func12 rfl rfl rfl fun B hB => ?_
  refine SC.seq ?_
  refine SC.region ?_
  refine RG.go tab 1 [0] rfl ?_
  refine RG.nil ?_
  refine SC.seq ?_
  refine SC.seq ?_
  refine SC.region ?_
  refine RG.go tab 1 [0] rfl ?_
  refine RG.nil ?_
  refine SC.block ?_
  refine SC.loop3 (fun (i : Nat) (hl : List (Gh × (List Int × Int))) (r : Int) => l.length - i) (fun (i : Nat) (hl : List (Gh × (List Int × Int))) (r : Int) => MkI B fillWs (sumL nW) l gl k i hl r) (fun (i : Nat) (hl : List (Gh × (List Int × Int))) (r : Int) => [(0, .sl 0 l.length), (1, .int .i64 r), (5, .int .i64 ((i : Nat) : Int))]) (fun (i : Nat) (hl : List (Gh × (List Int × Int))) (r : Int) => [some ⟨ty, 2, hl.map (rO (fun w : List Int × Int => ints w.1) (fun w : List Int × Int => [.int .i64 w.2]))⟩]) 0 gl k (MkI.init hgl hgd (fun p hp x hx => hB x ⟨0, (foot_rO (g := (fun w : List Int × Int => ints w.1)) (sc := (fun w : List Int × Int => [.int .i64 w.2])) (sz := 2) (fun _ => ⟨rfl, rfl⟩)).2 ⟨rfl, p, hp, hx⟩⟩) h0) (Drop.mask [true] (rfl) ⟨Sc.rows fun _ => ⟨rfl, rfl⟩, trivial⟩) ⟨rfl, rfl, rfl, rfl, rfl, rfl, trivial⟩ (fun _ _ _ => Nat.le_of_ble_eq_true rfl) fun i hl r hI0 => ?_
  have hle := hI0.le
  have hI := hI0
  have hhl := hI.len
  refine SC.seq ?_
  refine SC.seq ?_
  refine SC.region ?_
  refine RG.ask tab 4 [0] rfl (by (repeat' refine And.intro ?_ ?_) <;> first | rfl | omega | (unfold in64; omega) | (simp; done) | (simp; omega) | (simp at *; omega)) ?_
  refine RG.nil ?_
  refine SC.cond rfl (fun hb1 => ?_) (fun hb1 => ?_)
  · try simp only [decide_eq_true_eq] at hb1
    refine SC.skip ?_
    refine SC.seq ?_
    refine SC.block ?_
    refine SC.seq ?_
    refine SC.region ?_
    refine RG.ask tab 5 [0] rfl (by (repeat' refine And.intro ?_ ?_) <;> first | rfl | omega | (unfold in64; omega) | (simp; done) | (simp; omega) | (simp at *; omega)) ?_
    have hlt : i < l.length := by omega
    obtain ⟨hp, hpe, hpB⟩ := hI.at ([], 0) G0 hlt
    refine RG.ldr tab (G0, ([], 0)) rfl rfl rfl rfl hI.len (by omega) rfl ?_
    refine RG.go tab 1 [0] rfl ?_
    refine RG.mut [(0, .sl 0 l.length), (5, .int .i64 ((i : Nat) : Int))] rfl rfl (markIntS_mo (hl.getD i (G0, ([], 0))).2.1 r hI.r0 (by have hb := hI.bound ([], 0) (n := nW (l.getD i ([], 0))) hlt (fun _ => rfl); rw [← hpe] at hb; simp only [nW] at hb; omega)) rfl rfl rfl (fun x hx => hpB x hx.one) (OwnDis.one _ _) ⟨.one (.one (.atom rfl)), .one (.one (.atom rfl)), trivial⟩ (UpSt.rows1 (x' := (fillI (hl.getD i (G0, ([], 0))).2.1 r, (hl.getD i (G0, ([], 0))).2.2)) (g := (fun w : List Int × Int => ints w.1)) (sc := (fun w : List Int × Int => [.int .i64 w.2])) (sz := 2) (fun _ => ⟨rfl, rfl⟩) hI.dis hp rfl) ?_
    refine RG.go tab 1 [0] rfl ?_
    refine RG.nil ?_
    refine SC.seq ?_
    refine SC.region ?_
    refine RG.ask tab 5 [0] rfl (by (repeat' refine And.intro ?_ ?_) <;> first | rfl | omega | (unfold in64; omega) | (simp; done) | (simp; omega) | (simp at *; omega)) ?_
    refine RG.str (i := i) tab (G0, ([], 0)) ((hl.getD i (G0, ([], 0))).1, (fillI (hl.getD i (G0, ([], 0))).2.1 r, r + (hl.getD i (G0, ([], 0))).2.1.length)) rfl rfl rfl rfl rfl rfl (by simp only [List.length_set]; exact hI.len) (by omega) rfl rfl rfl (by rw [getD_set _ (by (try simp only [List.length_set]); rw [hI.len]; omega), if_pos rfl]; rfl) rfl ?_
    refine RG.nil ?_
    refine SC.region ?_
    refine RG.ask tab 3 [0] rfl (by have hb := hI.bound ([], 0) (n := nW (l.getD i ([], 0))) hlt (fun _ => rfl); have h0 := hI.r0; rw [← hpe] at hb; simp only [nW] at hb; unfold in64; omega) ?_
    refine RG.nil ?_
    refine SC.region ?_
    refine RG.ask tab 3 [0] rfl (by (repeat' refine And.intro ?_ ?_) <;> first | rfl | omega | (unfold in64; omega) | (simp; done) | (simp; omega) | (simp at *; omega)) ?_
    refine RG.nil ?_
    refine ⟨i + 1, ((hl.set i ((hl.getD i (G0, ([], 0))).1, (fillI (hl.getD i (G0, ([], 0))).2.1 r, (hl.getD i (G0, ([], 0))).2.2))).set i ((hl.getD i (G0, ([], 0))).1, (fillI (hl.getD i (G0, ([], 0))).2.1 r, r + (hl.getD i (G0, ([], 0))).2.1.length))), (r + (hl.getD i (G0, ([], 0))).2.1.length) + 1, (by omega), (by have hst := hI.step (n := nW (l.getD i ([], 0))) (x' := fillW (l.getD i ([], 0)) r) ([], 0) hlt (by rw [← hpe]; exact hp) (fun xs => rfl) (fun xs => rfl); rw [← hpe] at hst; simp only [List.set_set]; refine cast ?_ hst; congr 1; simp only [nW]; omega), Drop.mask [true] (rfl) ⟨Sc.rows fun _ => ⟨rfl, rfl⟩, trivial⟩, rfl, rfl, rfl, rfl, rfl, rfl, trivial⟩
  · try simp only [decide_eq_false_iff_not, Int.not_lt] at hb1
    refine SC.exit ?_
    refine SC.seq ?_
    refine SC.region ?_
    refine RG.go tab 2 [0] rfl ?_
    refine RG.nil ?_
    refine SC.ret (End.ret tab rfl ?_)
    obtain ⟨e1, e2⟩ := hI.fin (by omega) (fun _ => rfl) rfl
    refine ⟨by rw [e2], ?_, fun q x => foot_eq (g := (fun w : List Int × Int => ints w.1)) (sc := (fun w : List Int × Int => [.int .i64 w.2])) (sz := 2) (fun _ => ⟨rfl, rfl⟩) hI.own⟩
    rw [← e1]
    refine OpenS.rows1 (g := (fun w : List Int × Int => ints w.1)) (sc := (fun w : List Int × Int => [.int .i64 w.2])) (sz := 2) ([], 0) (fun _ => ⟨_, _, _, rfl⟩) (fun _ => ⟨rfl, rfl⟩) hI.dis (by simp) (fun i hi => rfl)
theorem markGroupS_mo (l : List (List Int × Int × Int)) (k : Int) (h0 : 0 ≤ k) (h1 : k + sumL nG l ≤ 1073741824) : MO Try.prog 20 [vGroupS l] (fun Is => [.own (Is.headD G0) (vGroupS l), .int .i64 k]) (.int .i64 (k + sumL nG l)) [vGroupS (fillGs l k)] := by
  refine MU.mo (args := [.sl 0 l.length, .int .i64 k]) ⟨⟨_, Try.func20, rfl, rfl⟩, fun S0 hS0 => ?_⟩ ⟨rfl, fun q hq => ?_⟩ rfl (fun L hL => ?_)
  case refine_2 =>
    have : q = 0 := by simpa using hq
    subst this
    refine ⟨3, l.length, _, (fun i => [ints (((fillGs l k).getD i ([], 0, 0)).1), .int .i64 (((fillGs l k).getD i ([], 0, 0)).2.1), .int .i64 (((fillGs l k).getD i ([], 0, 0)).2.2)]), rfl, ?_⟩
    show AV.isl 3 (fillGs l k).length _ = _
    rw [show (fillGs l k).length = l.length from fillL_len _ _ _ _]
  case refine_3 =>
    match L, hL with
    | [(G, b)], h => cases h; exact ⟨.one (.one (.own 0 rfl)), .one (.one (.pure rfl)), trivial⟩
  obtain ⟨ty, sz, n, get, els, hb, rfl, ha⟩ := hS0.one
  cases hb
  obtain ⟨gl, hgl, rfl, hgd⟩ := Arr.rows1 (g := (fun w : List Int × Int × Int => ints w.1)) (sc := (fun w : List Int × Int × Int => [.int .i64 w.2.1, .int .i64 w.2.2])) ([], 0, 0) (fun _ => ⟨_, _, _, rfl⟩) (fun _ => ⟨rfl, rfl⟩) ha
  have hll := sumL_len (f := nG) (fun _ => by unfold nG; omega) l
  refine FCM.text Try.func20 rfl rfl rfl fun B hB => ?_
  refine SC.seq ?_
  refine SC.region ?_
  refine RG.go tab 1 [0] rfl ?_
  refine RG.nil ?_
  refine SC.seq ?_
  refine SC.seq ?_
  refine SC.region ?_
  refine RG.go tab 1 [0] rfl ?_
  refine RG.nil ?_
  refine SC.block ?_
  refine SC.loop3 (fun (i : Nat) (hl : List (Gh × (List Int × Int × Int))) (r : Int) => l.length - i) (fun (i : Nat) (hl : List (Gh × (List Int × Int × Int))) (r : Int) => MkI B fillGs (sumL nG) l gl k i hl r) (fun (i : Nat) (hl : List (Gh × (List Int × Int × Int))) (r : Int) => [(0, .sl 0 l.length), (1, .int .i64 r), (5, .int .i64 ((i : Nat) : Int))]) (fun (i : Nat) (hl : List (Gh × (List Int × Int × Int))) (r : Int) => [some ⟨ty, 3, hl.map (rO (fun w : List Int × Int × Int => ints w.1) (fun w : List Int × Int × Int => [.int .i64 w.2.1, .int .i64 w.2.2]))⟩]) 0 gl k (MkI.init hgl hgd (fun p hp x hx => hB x ⟨0, (foot_rO (g := (fun w : List Int × Int × Int => ints w.1)) (sc := (fun w : List Int × Int × Int => [.int .i64 w.2.1, .int .i64 w.2.2])) (sz := 3) (fun _ => ⟨rfl, rfl⟩)).2 ⟨rfl, p, hp, hx⟩⟩) h0) (Drop.mask [true] (rfl) ⟨Sc.rows fun _ => ⟨rfl, rfl⟩, trivial⟩) ⟨rfl, rfl, rfl, rfl, rfl, rfl, trivial⟩ (fun _ _ _ => Nat.le_of_ble_eq_true rfl) fun i hl r hI0 => ?_
  have hle := hI0.le
  have hI := hI0
  have hhl := hI.len
  refine SC.seq ?_
  refine SC.seq ?_
  refine SC.region ?_
  refine RG.ask tab 4 [0] rfl (by (repeat' refine And.intro ?_ ?_) <;> first | rfl | omega | (unfold in64; omega) | (simp; done) | (simp; omega) | (simp at *; omega)) ?_
  refine RG.nil ?_
  refine SC.cond rfl (fun hb1 => ?_) (fun hb1 => ?_)
  · try simp only [decide_eq_true_eq] at hb1
    refine SC.skip ?_
    refine SC.seq ?_
    refine SC.block ?_
    refine SC.seq ?_
    refine SC.region ?_
    refine RG.ask tab 5 [0] rfl (by (repeat' refine And.intro ?_ ?_) <;> first | rfl | omega | (unfold in64; omega) | (simp; done) | (simp; omega) | (simp at *; omega)) ?_
    have hlt : i < l.length := by omega
    obtain ⟨hp, hpe, hpB⟩ := hI.at ([], 0, 0) G0 hlt
    refine RG.ldr tab (G0, ([], 0, 0)) rfl rfl rfl rfl hI.len (by omega) rfl ?_
    refine RG.go tab 1 [0] rfl ?_
    refine RG.mut [(0, .sl 0 l.length), (5, .int .i64 ((i : Nat) : Int))] rfl rfl (markIntS_mo (hl.getD i (G0, ([], 0, 0))).2.1 r hI.r0 (by have hb := hI.bound ([], 0, 0) (n := nG (l.getD i ([], 0, 0))) hlt (fun _ => rfl); rw [← hpe] at hb; simp only [nG] at hb; omega)) rfl rfl rfl (fun x hx => hpB x hx.one) (OwnDis.one _ _) ⟨.one (.one (.atom rfl)), .one (.one (.atom rfl)), trivial⟩ (UpSt.rows1 (x' := (fillI (hl.getD i (G0, ([], 0, 0))).2.1 r, (hl.getD i (G0, ([], 0, 0))).2.2)) (g := (fun w : List Int × Int × Int => ints w.1)) (sc := (fun w : List Int × Int × Int => [.int .i64 w.2.1, .int .i64 w.2.2])) (sz := 3) (fun _ => ⟨rfl, rfl⟩) hI.dis hp rfl) ?_
    refine RG.go tab 1 [0] rfl ?_
    refine RG.nil ?_
    refine SC.seq ?_
    refine SC.region ?_
    refine RG.ask tab 5 [0] rfl (by (repeat' refine And.intro ?_ ?_) <;> first | rfl | omega | (unfold in64; omega) | (simp; done) | (simp; omega) | (simp at *; omega)) ?_
    refine RG.str (i := i) tab (G0, ([], 0, 0)) ((hl.getD i (G0, ([], 0, 0))).1, (fillI (hl.getD i (G0, ([], 0, 0))).2.1 r, r + (hl.getD i (G0, ([], 0, 0))).2.1.length, (hl.getD i (G0, ([], 0, 0))).2.2.2)) rfl rfl rfl rfl rfl rfl (by simp only [List.length_set]; exact hI.len) (by omega) rfl rfl rfl (by rw [getD_set _ (by (try simp only [List.length_set]); rw [hI.len]; omega), if_pos rfl]; rfl) rfl ?_
    refine RG.nil ?_
    refine SC.seq ?_
    refine SC.region ?_
    refine RG.ask tab 3 [0] rfl (by have hb := hI.bound ([], 0, 0) (n := nG (l.getD i ([], 0, 0))) hlt (fun _ => rfl); have h0 := hI.r0; rw [← hpe] at hb; simp only [nG] at hb; unfold in64; omega) ?_
    refine RG.nil ?_
    refine SC.seq ?_
    refine SC.region ?_
    refine RG.ask tab 5 [0] rfl (by (repeat' refine And.intro ?_ ?_) <;> first | rfl | omega | (unfold in64; omega) | (simp; done) | (simp; omega) | (simp at *; omega)) ?_
    refine RG.str (i := i) tab (G0, ([], 0, 0)) ((hl.getD i (G0, ([], 0, 0))).1, (fillI (hl.getD i (G0, ([], 0, 0))).2.1 r, r + (hl.getD i (G0, ([], 0, 0))).2.1.length, (r + (hl.getD i (G0, ([], 0, 0))).2.1.length) + 1)) rfl rfl rfl rfl rfl rfl (by simp only [List.length_set]; exact hI.len) (by omega) rfl rfl rfl (by rw [getD_set _ (by (try simp only [List.length_set]); rw [hI.len]; omega), if_pos rfl]; rfl) rfl ?_
    refine RG.nil ?_
    refine SC.region ?_
    refine RG.ask tab 3 [0] rfl (by have hb := hI.bound ([], 0, 0) (n := nG (l.getD i ([], 0, 0))) hlt (fun _ => rfl); have h0 := hI.r0; rw [← hpe] at hb; simp only [nG] at hb; unfold in64; omega) ?_
    refine RG.nil ?_
    refine SC.region ?_
    refine RG.ask tab 3 [0] rfl (by (repeat' refine And.intro ?_ ?_) <;> first | rfl | omega | (unfold in64; omega) | (simp; done) | (simp; omega) | (simp at *; omega)) ?_
    refine RG.nil ?_
    refine ⟨i + 1, (((hl.set i ((hl.getD i (G0, ([], 0, 0))).1, (fillI (hl.getD i (G0, ([], 0, 0))).2.1 r, (hl.getD i (G0, ([], 0, 0))).2.2))).set i ((hl.getD i (G0, ([], 0, 0))).1, (fillI (hl.getD i (G0, ([], 0, 0))).2.1 r, r + (hl.getD i (G0, ([], 0, 0))).2.1.length, (hl.getD i (G0, ([], 0, 0))).2.2.2))).set i ((hl.getD i (G0, ([], 0, 0))).1, (fillI (hl.getD i (G0, ([], 0, 0))).2.1 r, r + (hl.getD i (G0, ([], 0, 0))).2.1.length, (r + (hl.getD i (G0, ([], 0, 0))).2.1.length) + 1))), ((r + (hl.getD i (G0, ([], 0, 0))).2.1.length) + 1) + 1, (by omega), (by have hst := hI.step (n := nG (l.getD i ([], 0, 0))) (x' := fillG (l.getD i ([], 0, 0)) r) ([], 0, 0) hlt (by rw [← hpe]; exact hp) (fun xs => rfl) (fun xs => rfl); rw [← hpe] at hst; simp only [List.set_set]; refine cast ?_ hst; congr 1; simp only [nG]; omega), Drop.mask [true] (rfl) ⟨Sc.rows fun _ => ⟨rfl, rfl⟩, trivial⟩, rfl, rfl, rfl, rfl, rfl, rfl, trivial⟩
  · try simp only [decide_eq_false_iff_not, Int.not_lt] at hb1
    refine SC.exit ?_
    refine SC.seq ?_
    refine SC.region ?_
    refine RG.go tab 2 [0] rfl ?_
    refine RG.nil ?_
    refine SC.ret (End.ret tab rfl ?_)
    obtain ⟨e1, e2⟩ := hI.fin (by omega) (fun _ => rfl) rfl
    refine ⟨by rw [e2], ?_, fun q x => foot_eq (g := (fun w : List Int × Int × Int => ints w.1)) (sc := (fun w : List Int × Int × Int => [.int .i64 w.2.1, .int .i64 w.2.2])) (sz := 3) (fun _ => ⟨rfl, rfl⟩) hI.own⟩
    rw [← e1]
    refine OpenS.rows1 (g := (fun w : List Int × Int × Int => ints w.1)) (sc := (fun w : List Int × Int × Int => [.int .i64 w.2.1, .int .i64 w.2.2])) (sz := 3) ([], 0, 0) (fun _ => ⟨_, _, _, rfl⟩) (fun _ => ⟨rfl, rfl⟩) hI.dis (by simp) (fun i hi => rfl)
theorem markTable_mo (a : Int × List (List Int × Int)) (k : Int) (h0 : 0 ≤ k) (h1 : k + sumL nW a.2 ≤ 1073741824) : MO Try.prog 13 [vWeightedS a.2] (fun Is => [.agg [.int .i64 a.1, .own (Is.headD G0) (vWeightedS a.2)], .int .i64 k]) (.int .i64 (k + sumL nW a.2)) [vWeightedS (fillWs a.2 k)] := by
  refine MO.text Try.func13 rfl rfl (fun _ _ => Nat.le_of_ble_eq_true rfl) (fun _ _ => rfl) rfl (fun L hL hd B hB => ?_)
  obtain ⟨G, rfl⟩ : ∃ G, L = [(G, vWeightedS a.2)] := by
    match L, hL with
    | [(G, b)], h => cases h; exact ⟨G, rfl⟩
  have free_G : ∀ x, G.bl x → ¬ B x := fun x hx => hB x ⟨0, G, _, rfl, hx⟩
  refine SC.seq ?_
  refine SC.region ?_
  refine RG.go tab 2 [] rfl ?_
  refine RG.nil ?_
  refine SC.seq ?_
  refine SC.region ?_
  refine RG.go tab 3 [] rfl ?_
  refine RG.mut (S' := [none]) [(0, .agg [.int .i64 a.1, .own G (vWeightedS (fillWs a.2 k))])] rfl rfl (markWeightedS_mo a.2 k (by first | assumption | omega) (by first | assumption | omega)) rfl rfl rfl (fun x hx => free_G x hx.one) (OwnDis.one _ _) ⟨.one (.agg ⟨.atom rfl, .swap 0 rfl, trivial⟩), trivial⟩ trivial ?_
  refine RG.go tab 1 [] rfl ?_
  refine RG.nil ?_
  refine SC.seq ?_
  refine SC.region ?_
  refine RG.go tab 2 [] rfl ?_
  refine RG.nil ?_
  refine SC.ret (EndM.ret tab rfl rfl fun q I b hq => ?_)
  match q, hq with
  | 0, h => cases h; exact .inl ⟨0, List.mem_of_getElem? (i := 0) rfl⟩
end Go.Proofs.Ythholadaflfpcaa
