/-
  Values of one's own, opened one level to be written; calls of functions that write what they are given.
-/
import Derived.Test.YthholadaflfpcaaFwV
namespace Go.Fw
open Go Go.RowKit

/-- Rows of cells, each made for what it tells by value; no two cells share a block. -/
structure Arr (sz n : Nat) (get : Nat → List AV) (els : List (List AV)) : Prop where
  len : els.length = n
  cell : ∀ i, i < n → (els.getD i []).length = sz ∧ (get i).length = sz
  made : ∀ i j, i < n → j < sz → Made0 ((els.getD i []).getD j .undef) ((get i).getD j .undef)
  dis : ∀ i j i' j' x, i < n → j < sz → i' < n → j' < sz → OS ((els.getD i []).getD j .undef) x → OS ((els.getD i' []).getD j' .undef) x → i = i' ∧ j = j'

/-- The blocks that an object's cells own. -/
def Foot (ob : AObj) (x : Nat) : Prop := ∃ i j, i < ob.els.length ∧ j < ob.sz ∧ OS ((ob.els.getD i []).getD j .undef) x
def footAt (S : St) (q x : Nat) : Prop := ∃ ob, S.at q = some ob ∧ Foot ob x
def HidS (S : St) (x : Nat) : Prop := ∃ q, footAt S q x

/-- Objects opened: what each tells by value. -/
def OpenS : List AV → St → Prop
  | [], [] => True
  | b :: bs, so :: S => (∃ ty sz n get els, b = .isl sz n get ∧ so = some ⟨ty, sz, els⟩ ∧ Arr sz n get els) ∧ OpenS bs S
  | _, _ => False

theorem OpenS.len : ∀ {bs : List AV} {S : St}, OpenS bs S → bs.length = S.length
  | [], [], _ => rfl
  | _ :: _, _ :: _, h => by simp [OpenS.len h.2]
  | [], _ :: _, h => h.elim
  | _ :: _, [], h => h.elim

theorem OpenS.at : ∀ {bs : List AV} {S : St}, OpenS bs S → ∀ q, q < bs.length → ∃ ty sz n get els, bs.getD q .undef = .isl sz n get ∧ S.at q = some ⟨ty, sz, els⟩ ∧ Arr sz n get els
  | [], [], _, q, hq => absurd hq (Nat.not_lt_zero _)
  | _ :: _, _ :: _, h, 0, _ => by
    obtain ⟨ty, sz, n, get, els, h1, h2, h3⟩ := h.1
    exact ⟨ty, sz, n, get, els, h1, by simp [St.at, h2], h3⟩
  | _ :: _, _ :: _, h, q + 1, hq => by
    obtain ⟨ty, sz, n, get, els, h1, h2, h3⟩ := OpenS.at h.2 q (by simpa using hq)
    exact ⟨ty, sz, n, get, els, by simpa using h1, by simpa [St.at] using h2, h3⟩
  | [], _ :: _, h, _, _ => h.elim
  | _ :: _, [], h, _, _ => h.elim

theorem OpenS.mk : ∀ {bs : List AV} {S : St}, bs.length = S.length → (∀ q, q < bs.length → ∃ ty sz n get els, bs.getD q .undef = .isl sz n get ∧ S.at q = some ⟨ty, sz, els⟩ ∧ Arr sz n get els) → OpenS bs S
  | [], [], _, _ => trivial
  | b :: bs, so :: S, hl, h => by
    refine ⟨?_, OpenS.mk (by simpa using hl) fun q hq => ?_⟩
    · obtain ⟨ty, sz, n, get, els, h1, h2, h3⟩ := h 0 (by simp)
      exact ⟨ty, sz, n, get, els, h1, by simpa [St.at] using h2, h3⟩
    · obtain ⟨ty, sz, n, get, els, h1, h2, h3⟩ := h (q + 1) (by simpa using hq)
      exact ⟨ty, sz, n, get, els, by simpa using h1, by simpa [St.at] using h2, h3⟩
  | [], _ :: _, hl, _ => by simp at hl
  | _ :: _, [], hl, _ => by simp at hl

/-- A call of a function that may write what the cells of its objects own. -/
def FCM (P : Program) (g : FuncId) (args : List AV) (S0 : St) (Post : AV → St → Prop) : Prop :=
  Callable P g ∧ ∀ (φ : Nat → Nat) (w : World) (vs : List Value), Sim (HidS S0) φ S0 w → VRs φ S0 (OO (HidS S0) φ S0) w args vs →
    Calls P g vs.toArray w fun e w' => ∃ r S' F' φ' v, Post r S' ∧ e = .returned v ∧ Sim F' φ' S' w' ∧ VR φ' S' (OO F' φ' S') w' r v ∧ EvoB (fun x => x < w.heap.size ∧ ¬ HidS S0 x) (HidS S0) φ S0 w φ' S' w' ∧ Gro (HidS S0) w F'

/-- From a function's text: what its call does. -/
theorem SC.calls {P : Program} {g : FuncId} {fn : Func} {c : Code} {args : List AV} {S : St} {Q : AV → St → Prop} (hf : P.funcs[g]? = some fn) (hb : fn.body = some c) (hm : args.length ≤ fn.ntmps) {B : Nat → Prop}
    (h : SC P ⟨fn.ntmps, B⟩ c (argSlots args) S (End P fn.results.toList Q)) {F : Nat → Prop} {φ : Nat → Nat} {w : World} {vs : List Value} (hs : Sim F φ S w) (hv : VRs φ S (OO F φ S) w args vs) (hB : ∀ x, B x → x < w.heap.size) :
    Calls P g vs.toArray w fun e w' => ∃ r S' F' φ' v, Q r S' ∧ e = .returned v ∧ Sim F' φ' S' w' ∧ VR φ' S' (OO F' φ' S') w' r v ∧ EvoB B F φ S w φ' S' w' ∧ Gro F w F' := by
  refine calls_of_wp hf hb ?_
  have hsz : (vs.toArray ++ Array.replicate (fn.ntmps - vs.toArray.size) undef).size = fn.ntmps := by simp [hv.1]; omega
  have hgood : Good F φ S w ⟨fn.ntmps, B⟩ (argSlots args) { tmps := vs.toArray ++ Array.replicate (fn.ntmps - vs.toArray.size) undef, defers := [] } := by
    refine ⟨hs, rfl, hsz, fun t => ?_, hB⟩
    by_cases ht : t < args.length
    · have := hv.2 t ht
      have e : (vs.toArray ++ Array.replicate (fn.ntmps - vs.toArray.size) undef).getD t undef = vs.getD t undef := by
        simp [Array.getD_eq_getD_getElem?, Array.getElem?_append, hv.1, ht]
      rw [e]
      exact this
    · have e : argSlots args t = .undef := by unfold argSlots; rw [List.getD_eq_getElem?_getD, List.getElem?_eq_none (by omega)]; rfl
      rw [e]
      exact .pure (.undef _)
  refine h F φ w _ _ hgood fun e a' S' F' φ' w' ac' hp hg' he hgr => ?_
  obtain ⟨hend, vs', hr, hpost⟩ := hp
  obtain ⟨us, hrun, hul, huv⟩ := results_run hg' hr
  have hres : (results fn ac'.tmps).run P w' = .ok (if us.length = 1 then us.getD 0 undef else .tuple us.toArray) w' := by
    have e : results fn ac'.tmps = (do let vs ← fn.results.mapM (rvSem ac'.tmps); pure (if h : vs.size = 1 then vs[0] else .tuple vs)) := by
      unfold results
      congr 1
    rw [e, Array.mapM_eq_mapM_toList]
    simp only [Sem.run_bind, Sem.run_map, hrun, Result.andThen_ok, Sem.run_pure, List.size_toArray]
    by_cases h1 : us.length = 1
    · rw [dif_pos h1, if_pos h1]
      congr 1
      simp [List.getD_eq_getElem?_getD, h1]
    · rw [dif_neg h1, if_neg h1]
  have hv' : VR φ' S' (OO F' φ' S') w' (tupOf vs') (if us.length = 1 then us.getD 0 undef else .tuple us.toArray) := by
    match vs', hul, huv with
    | [], hul, huv => 
      rw [if_neg (by simp at hul; simp [hul])]
      exact .tup (by simp [hul]) fun j hj => absurd hj (Nat.not_lt_zero _)
    | [v], hul, huv => rw [if_pos (by simpa using hul)]; exact huv 0 (by simp)
    | v :: v' :: vs, hul, huv =>
      rw [if_neg (by simp at hul; omega)]
      refine .tup (by simp [hul]) fun j hj => ?_
      have := huv j hj
      simpa [List.getD_eq_getElem?_getD, Array.getD_eq_getD_getElem?] using this
  have hfin : ∃ r S3 F3 φ3 v, Q r S3 ∧ Ending.returned (if us.length = 1 then us.getD 0 undef else .tuple us.toArray) = .returned v ∧ Sim F3 φ3 S3 w' ∧ VR φ3 S3 (OO F3 φ3 S3) w' r v ∧ EvoB B F φ S w φ3 S3 w' ∧ Gro F w F3 :=
    ⟨tupOf vs', S', F', φ', _, hpost, rfl, hg'.sim, hv', he, hgr⟩
  rcases hend with rfl | rfl
  · exact ⟨hg'.defers, _, hres, hfin⟩
  · exact ⟨hg'.defers, _, hres, hfin⟩

theorem FCM.text {P : Program} {g : FuncId} {fn : Func} {c : Code} {args : List AV} {S : St} {Q : AV → St → Prop} (hf : P.funcs[g]? = some fn) (hb : fn.body = some c) (hname : (fn.name == "runtime.NumGoroutine") = false) (hm : Nat.ble args.length fn.ntmps = true)
    (h : ∀ B, (∀ x, HidS S x → ¬ B x) → SC P ⟨fn.ntmps, B⟩ c (argSlots args) S (End P fn.results.toList Q)) : FCM P g args S Q :=
  ⟨⟨fn, hf, hname, by rw [hb]; rfl⟩, fun _ _ _ hs hv => (h _ fun _ hx hb => hb.2 hx).calls hf hb (Nat.le_of_ble_eq_true hm) hs hv fun _ hx => hx.1⟩

/-- A function that writes what it is given: bs tell its objects by value before, bs' behind. -/
def MU (P : Program) (g : FuncId) (bs args : List AV) (r : AV) (bs' : List AV) : Prop :=
  Callable P g ∧ ∀ S0, OpenS bs S0 → FCM P g args S0 (fun r' S' => r' = r ∧ OpenS bs' S' ∧ ∀ q x, footAt S' q x ↔ footAt S0 q x)

/-! A value of one's own is opened. -/
theorem VR.of_made0 {w : World} {I : Nat → Prop} {b : AV} {v : Value} (h : Phys w I b v) (h1 : v.oneCell' = true) : ∃ c, Made0 c b ∧ (∀ x, OS c x ↔ I x) ∧ ∀ φ S O, (∀ x, I x → O x ∧ ¬ Own φ S x) → VR φ S O w c v := by
  have key : ∀ sz n get, b = .isl sz n get → ∃ c, Made0 c b ∧ (∀ x, OS c x ↔ I x) ∧ ∀ φ S O, (∀ x, I x → O x ∧ ¬ Own φ S x) → VR φ S O w c v := by
    rintro sz n get rfl
    exact ⟨.own ⟨I, v⟩ (.isl sz n get), ⟨_, rfl⟩, fun x => ⟨fun hx => by cases hx with | own hx => exact hx, fun hx => .own hx⟩, fun φ S O hO => .own (fun x hx => (hO x hx).1) (fun x hx => (hO x hx).2) h rfl⟩
  cases h with
  | int k n => exact ⟨.int k n, ⟨rfl, rfl⟩, fun x => ⟨fun hx => (nomatch hx), fun hx => hx.elim⟩, fun φ S O _ => .pure (.int _ _)⟩
  | bool b => exact ⟨.bool b, ⟨rfl, rfl⟩, fun x => ⟨fun hx => (nomatch hx), fun hx => hx.elim⟩, fun φ S O _ => .pure (.bool _)⟩
  | str s => exact ⟨.str s, ⟨rfl, rfl⟩, fun x => ⟨fun hx => (nomatch hx), fun hx => hx.elim⟩, fun φ S O _ => .pure (.str _)⟩
  | emp _ => exact key _ _ _ rfl
  | isl => exact key _ _ _ rfl
  | agg => simp [Value.oneCell'] at h1

/-- What a value of one's own is, opened. -/
structure Opened (w : World) (I : Nat → Prop) (sz n : Nat) (get : Nat → List AV) (v : Value) (ty b : Nat) (els : List (List AV)) : Prop where
  arr : Arr sz n get els
  val : (n = 0 ∧ ∃ A cap, v = .slice A 0 cap ∧ cap ≤ maxLen ∧ ty = 0) ∨ (0 < n ∧ ∃ (cap : Nat) (C : Array Value), v = .slice (some ⟨b, 0, none⟩) n cap ∧ n ≤ cap ∧ cap ≤ maxLen ∧ w.heap[b]? = some (Obj.cells C ty (0, 0)) ∧ C.size = cap * sz ∧
    (∀ x, I x ↔ x = b ∨ Foot ⟨ty, sz, els⟩ x) ∧ ¬ Foot ⟨ty, sz, els⟩ b ∧
    ∀ i j, i < n → j < sz → ∃ u, C[i * sz + j]? = some u ∧ u.oneCell' = true ∧ ∀ φ S O, (∀ x, OS ((els.getD i []).getD j .undef) x → O x ∧ ¬ Own φ S x) → VR φ S O w ((els.getD i []).getD j .undef) u)

theorem Phys.opened {w : World} {I : Nat → Prop} {sz n : Nat} {get : Nat → List AV} {v : Value} (h : Phys w I (.isl sz n get) v) : ∃ ty b els, Opened w I sz n get v ty b els := by
  cases h with
  | emp hc => exact ⟨0, 0, [], ⟨rfl, fun i hi => absurd hi (Nat.not_lt_zero _), fun i j hi => absurd hi (Nat.not_lt_zero _), fun i j i' j' x hi => absurd hi (Nat.not_lt_zero _)⟩, .inl ⟨rfl, _, _, rfl, hc, rfl⟩⟩
  | @isl b ty _ _ cap _ C J h1 h2 h3 h4 h5 h6 h7 h8 h9 =>
    rcases Nat.eq_zero_or_pos n with rfl | hpos
    · exact ⟨0, 0, [], ⟨rfl, fun i hi => absurd hi (Nat.not_lt_zero _), fun i j hi => absurd hi (Nat.not_lt_zero _), fun i j i' j' x hi => absurd hi (Nat.not_lt_zero _)⟩, .inl ⟨rfl, _, _, rfl, h2, rfl⟩⟩
    · have ex : ∀ i j, ∃ c, i < n → j < sz → Made0 c ((get i).getD j .undef) ∧ (∀ x, OS c x ↔ J i j x) ∧ ∀ φ S O, (∀ x, J i j x → O x ∧ ¬ Own φ S x) → VR φ S O w c (C.getD (i * sz + j) undef) := by
        intro i j
        by_cases hi : i < n
        · by_cases hj : j < sz
          · obtain ⟨c, hc⟩ := VR.of_made0 (h7 i j hi hj) (h6 i j hi hj)
            exact ⟨c, fun _ _ => hc⟩
          · exact ⟨.undef, fun _ h => absurd h hj⟩
        · exact ⟨.undef, fun h => absurd h hi⟩
      let cf := fun i j => Classical.choose (ex i j)
      have hcf : ∀ i j, i < n → j < sz → Made0 (cf i j) ((get i).getD j .undef) ∧ (∀ x, OS (cf i j) x ↔ J i j x) ∧ ∀ φ S O, (∀ x, J i j x → O x ∧ ¬ Own φ S x) → VR φ S O w (cf i j) (C.getD (i * sz + j) undef) := fun i j => Classical.choose_spec (ex i j)
      let els : List (List AV) := (List.range n).map fun i => (List.range sz).map fun j => cf i j
      have hl : els.length = n := by simp [els]
      have hli : ∀ i, i < n → els.getD i [] = (List.range sz).map fun j => cf i j := fun i hi => by simp [els, List.getD_eq_getElem?_getD, hi]
      have hlj : ∀ i j, i < n → j < sz → (els.getD i []).getD j .undef = cf i j := fun i j hi hj => by rw [hli i hi]; simp [List.getD_eq_getElem?_getD, hj]
      have hfoot : ∀ x, Foot ⟨ty, sz, els⟩ x ↔ ∃ i j, i < n ∧ j < sz ∧ J i j x := by
        intro x
        constructor
        · rintro ⟨i, j, hi, hj, hx⟩
          have hi' : i < n := by rw [← hl]; exact hi
          have hj' : j < sz := hj
          have hx' : OS ((els.getD i []).getD j .undef) x := hx
          rw [hlj i j hi' hj'] at hx'
          exact ⟨i, j, hi', hj', ((hcf i j hi' hj').2.1 x).1 hx'⟩
        · rintro ⟨i, j, hi, hj, hx⟩
          refine ⟨i, j, by rw [hl]; exact hi, hj, ?_⟩
          show OS ((els.getD i []).getD j .undef) x
          rw [hlj i j hi hj]
          exact ((hcf i j hi hj).2.1 x).2 hx
      refine ⟨ty, b, els, ⟨hl, fun i hi => ⟨by rw [hli i hi]; simp, h5 i hi⟩, fun i j hi hj => by rw [hlj i j hi hj]; exact (hcf i j hi hj).1, fun i j i' j' x hi hj hi' hj' e1 e2 => ?_⟩, .inr ⟨hpos, cap, C, rfl, h1, h2, h3, h4, fun x => ?_, fun hb => ?_, fun i j hi hj => ?_⟩⟩
      · rw [hlj i j hi hj] at e1
        rw [hlj i' j' hi' hj'] at e2
        exact h9 i j i' j' x hi hj hi' hj' (((hcf i j hi hj).2.1 x).1 e1) (((hcf i' j' hi' hj').2.1 x).1 e2)
      · rw [hfoot]
      · obtain ⟨i, j, hi, hj, hx⟩ := (hfoot b).1 hb
        exact h8 i j hi hj hx
      · have hlt : i * sz + j < C.size := by rw [h4]; exact mul_lt (Nat.lt_of_lt_of_le hi h1) hj
        refine ⟨C.getD (i * sz + j) undef, by simp [Array.getD, hlt], h6 i j hi hj, fun φ S O hO => ?_⟩
        rw [hlj i j hi hj]
        refine (hcf i j hi hj).2.2 φ S O fun x hx => hO x ?_
        rw [hlj i j hi hj]
        exact ((hcf i j hi hj).2.1 x).2 hx

end Go.Fw
