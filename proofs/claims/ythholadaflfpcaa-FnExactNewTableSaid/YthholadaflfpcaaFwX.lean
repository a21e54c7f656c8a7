/-
  Calls that write what one owns.
-/
import Derived.Test.YthholadaflfpcaaFwW
namespace Go.Fw
open Go Go.RowKit

/-- What is owned: the value's ghost, and what it tells. -/
abbrev OwnL := List (Gh × AV)
def MB (L : OwnL) (x : Nat) : Prop := ∃ (q : Nat) (I : Gh) (b : AV), L[q]? = some (I, b) ∧ I.bl x

/-- Arguments, opened. -/
inductive TS0 (L : OwnL) : AV → AV → Prop
  | pure {v : AV} : pv v = true → TS0 L v v
  | own {I : Gh} {sz n : Nat} {get : Nat → List AV} (q : Nat) : L[q]? = some (I, AV.isl sz n get) → TS0 L (.own I (.isl sz n get)) (.sl q n)
def All2 (R : AV → AV → Prop) : List AV → List AV → Prop
  | [], [] => True
  | u :: us, v :: vs => R u v ∧ All2 R us vs
  | _, _ => False
inductive TS1 (L : OwnL) : AV → AV → Prop
  | one {u v : AV} : TS0 L u v → TS1 L u v
  | agg {us vs : List AV} : All2 (TS0 L) us vs → TS1 L (.agg us) (.agg vs)
inductive TS (L : OwnL) : AV → AV → Prop
  | one {u v : AV} : TS1 L u v → TS L u v
  | fn {f : FuncId} {us vs us' vs' : List AV} : All2 (TS1 L) us vs → All2 (TS1 L) us' vs' → TS L (.fn f us us') (.fn f vs vs')

theorem All2.at {R : AV → AV → Prop} : ∀ {us vs : List AV}, All2 R us vs → us.length = vs.length ∧ ∀ j, j < us.length → R (us.getD j .undef) (vs.getD j .undef)
  | [], [], _ => ⟨rfl, fun j hj => absurd hj (Nat.not_lt_zero _)⟩
  | [], _ :: _, h => h.elim
  | _ :: _, [], h => h.elim
  | u :: us, v :: vs, h => by
    obtain ⟨h1, h2⟩ := All2.at h.2
    refine ⟨by simp [h1], fun j hj => ?_⟩
    cases j with
    | zero => exact h.1
    | succ j => simpa using h2 j (by simpa using hj)

def SameN (bs bs' : List AV) : Prop := bs.length = bs'.length ∧ ∀ q, q < bs.length → ∃ sz n get get', bs.getD q .undef = .isl sz n get ∧ bs'.getD q .undef = .isl sz n get'

theorem Phys.zero {w : World} {I : Nat → Prop} {sz : Nat} {get get' : Nat → List AV} {v : Value} (h : Phys w I (.isl sz 0 get) v) : Phys w I (.isl sz 0 get') v := by
  cases h with
  | emp hc => exact .emp hc
  | isl J h1 h2 h3 h4 h5 h6 h7 h8 h9 =>
    have := Phys.isl (w := w) (get := get') J h1 h2 h3 h4 (fun i hi => absurd hi (Nat.not_lt_zero _)) (fun i j hi => absurd hi (Nat.not_lt_zero _)) (fun i j hi => absurd hi (Nat.not_lt_zero _)) (fun i j hi => absurd hi (Nat.not_lt_zero _)) (fun i j i' j' x hi => absurd hi (Nat.not_lt_zero _))
    exact this

theorem Made0.phys {φ : Nat → Nat} {S : St} {O : Nat → Prop} {w : World} {c b : AV} {u : Value} (h : Made0 c b) (hv : VR φ S O w c u) : Phys w (OS c) b u := by
  have key : ∀ sz n get, b = .isl sz n get → Phys w (OS c) b u := by
    rintro sz n get rfl
    obtain ⟨I, rfl⟩ := h
    cases hv with
    | pure hv => cases hv
    | own h1 h2 h3 h4 => exact h3.congr fun x => ⟨fun hx => .own hx, fun hx => by cases hx with | own hx => exact hx⟩
  have key2 : (c = b ∧ scal0 b = true) → Phys w (OS c) b u := by
    rintro ⟨rfl, hs⟩
    refine (Phys.scal (hv.vi (by revert hs; cases c <;> simp [scal0, pv, pv1, pv0])) hs).congr fun x => ⟨fun h => h.elim, fun hx => ?_⟩
    cases hx <;> simp [scal0] at hs
  cases b with
  | isl => exact key _ _ _ rfl
  | _ => exact key2 h

def resOK : AV → Bool
  | .tup cs => cs.all scal0
  | v => scal0 v

theorem VR.resOK {φ φ' : Nat → Nat} {S S' : St} {O O' : Nat → Prop} {w : World} {r : AV} {v : Value} (h : VR φ S O w r v) (hr : Fw.resOK r = true) : VR φ' S' O' w r v := by
  cases r with
  | tup cs =>
    obtain ⟨vs, rfl, h1, h2⟩ := h.tup_inv
    refine .tup h1 fun j hj => ?_
    have hs := all_getD hr hj
    have := h2 j hj
    generalize cs.getD j .undef = c at hs this
    exact .pure ((this.vi (by revert hs; cases c <;> simp [scal0, pv, pv1, pv0])).scal0 hs)
  | int | bool | str =>
    have hs := hr
    exact .pure ((h.vi rfl).scal0 rfl)
  | _ => simp [Fw.resOK, scal0] at hr

section
variable {P : Program} {g : FuncId}

/-- What a writing call does to the world. -/
theorem MU.calls {L : OwnL} {bs bs' args as : List AV} {r : AV} (hm : MU P g bs args r bs') (hbs : L.map (·.2) = bs) (hsn : SameN bs bs') (hr : resOK r = true) (ht : All2 (TS L) as args)
    (hd : ∀ (q q' : Nat) (I : Gh) (b : AV) (I' : Gh) (b' : AV) (x : Nat), L[q]? = some (I, b) → L[q']? = some (I', b') → I.bl x → I'.bl x → q = q')
    {F : Nat → Prop} {φ : Nat → Nat} {S : St} {w : World} {vs : List Value} (hs : Sim F φ S w) (hv : VRs φ S (OO F φ S) w as vs) (hL : ∀ (q : Nat) (I : Gh) (b : AV), L[q]? = some (I, b) → VR φ S (OO F φ S) w (.own I b) I.val) :
    Calls P g vs.toArray w fun e w' => ∃ v, e = .returned v ∧ (∀ φ S O, VR φ S O w' r v) ∧ (∀ (q : Nat) (I : Gh) (b : AV), L[q]? = some (I, b) → Phys w' I.bl (bs'.getD q .undef) I.val) ∧
      (∀ x, x < w.heap.size → ¬ MB L x → w'.heap[x]? = w.heap[x]?) ∧ w.heap.size ≤ w'.heap.size ∧ w'.os = w.os ∧ w'.tape = w.tape ∧ w'.output = w.output ∧
      ∀ (b : Nat) (C : Array Value) (ty : TypeId) (fr : Nat × Nat), w.heap[b]? = some (Obj.cells C ty fr) → ∃ (C' : Array Value) (ty' : TypeId) (fr' : Nat × Nat), w'.heap[b]? = some (Obj.cells C' ty' fr') ∧ C'.size = C.size := by
  have hphys : ∀ (q : Nat) (I : Gh) (b : AV), L[q]? = some (I, b) → Phys w I.bl b I.val ∧ (∀ x, I.bl x → OO F φ S x) ∧ ∀ x, I.bl x → ¬ Own φ S x := by
    intro q I b h
    have := hL q I b h
    generalize I.val = v at this ⊢
    cases this with
    | pure h => cases h
    | own h1 h2 h3 h4 => exact ⟨h3, h1, h2⟩
  have hget : ∀ (q : Nat) (I : Gh) (b : AV), L[q]? = some (I, b) → bs.getD q .undef = b ∧ q < bs.length := by
    intro q I b h
    subst hbs
    have hq : q < L.length := (List.getElem?_eq_some_iff.1 h).1
    have : (L.map (·.2))[q]? = some b := by simp [h]
    exact ⟨by rw [List.getD_eq_getElem?_getD, this]; rfl, by simpa using hq⟩
  have hex : ∀ q : Nat, ∃ (p : Nat × Nat × List (List AV)), ∀ (I : Gh) (sz n : Nat) (get : Nat → List AV), L[q]? = some (I, AV.isl sz n get) → Opened w I.bl sz n get I.val p.1 p.2.1 p.2.2 := by
    intro q
    cases hq : L[q]? with
    | none => exact ⟨(0, 0, []), fun I sz n get h => by cases h⟩
    | some p =>
      obtain ⟨I, b⟩ := p
      obtain ⟨hg, hlt⟩ := hget q I b hq
      obtain ⟨sz, n, get, get', e1, _⟩ := hsn.2 q hlt
      rw [hg] at e1
      subst e1
      obtain ⟨ty, blk, els, ho⟩ := (hphys q I _ hq).1.opened
      exact ⟨(ty, blk, els), fun I' sz' n' get' h => by cases h; exact ho⟩
  let pf := fun q => Classical.choose (hex q)
  have hpf : ∀ (q : Nat) (I : Gh) (sz n : Nat) (get : Nat → List AV), L[q]? = some (I, AV.isl sz n get) → Opened w I.bl sz n get I.val (pf q).1 (pf q).2.1 (pf q).2.2 := fun q => Classical.choose_spec (hex q)
  let szf : Nat → Nat := fun q => match bs.getD q .undef with | .isl sz _ _ => sz | _ => 0
  let S0 : St := (List.range bs.length).map fun q => some ⟨(pf q).1, szf q, (pf q).2.2⟩
  let φ0 : Nat → Nat := fun q => (pf q).2.1
  have hS0l : S0.length = bs.length := by simp [S0]
  have hS0 : ∀ q, q < bs.length → S0.at q = some ⟨(pf q).1, szf q, (pf q).2.2⟩ := fun q hq => by simp [St.at, S0, hq]
  have hS0' : ∀ q o, S0.at q = some o → q < bs.length ∧ o = ⟨(pf q).1, szf q, (pf q).2.2⟩ := by
    intro q o h
    have hq : q < bs.length := by rw [← hS0l]; exact St.lt_of_at h
    rw [hS0 q hq] at h
    cases h
    exact ⟨hq, rfl⟩
  have hinf : ∀ q, q < bs.length → ∃ (I : Gh) (n : Nat) (get : Nat → List AV), L[q]? = some (I, AV.isl (szf q) n get) ∧ bs.getD q .undef = AV.isl (szf q) n get ∧ Opened w I.bl (szf q) n get I.val (pf q).1 (pf q).2.1 (pf q).2.2 := by
    intro q hq
    have hqL : q < L.length := by rw [← hbs] at hq; simpa using hq
    obtain ⟨sz, n, get, get', e1, _⟩ := hsn.2 q hq
    have hLq : L[q]? = some L[q] := List.getElem?_eq_getElem hqL
    obtain ⟨I, b⟩ : Gh × AV := L[q]
    generalize hp : L[q] = p at hLq
    obtain ⟨I, b⟩ := p
    have := (hget q I b hLq).1
    rw [e1] at this
    subst this
    have hz : szf q = sz := by simp only [szf, e1]
    rw [hz]
    exact ⟨I, n, get, hLq, e1, hpf q I sz n get hLq⟩
  have hfootI : ∀ (q : Nat) (I : Gh) (n : Nat) (get : Nat → List AV), L[q]? = some (I, AV.isl (szf q) n get) → Opened w I.bl (szf q) n get I.val (pf q).1 (pf q).2.1 (pf q).2.2 → ∀ x, Foot ⟨(pf q).1, szf q, (pf q).2.2⟩ x → I.bl x := by
    intro q I n get h ho x hx
    rcases ho.val with ⟨rfl, _⟩ | ⟨hpos, cap, C, e1, e2, e3, e4, e5, e6, e7, e8⟩
    · obtain ⟨i, j, hi, _⟩ := hx
      have := ho.arr.len
      simp only at hi
      omega
    · exact (e6 x).2 (.inr hx)
  have hhid : ∀ x, HidS S0 x → ∃ (q : Nat) (I : Gh) (n : Nat) (get : Nat → List AV), q < bs.length ∧ L[q]? = some (I, AV.isl (szf q) n get) ∧ I.bl x ∧ Foot ⟨(pf q).1, szf q, (pf q).2.2⟩ x := by
    rintro x ⟨q, o, ho, hx⟩
    obtain ⟨hq, rfl⟩ := hS0' q o ho
    obtain ⟨I, n, get, h1, h2, h3⟩ := hinf q hq
    exact ⟨q, I, n, get, hq, h1, hfootI q I n get h1 h3 x hx, hx⟩
  have hhidM : ∀ x, HidS S0 x → MB L x := fun x hx => by
    obtain ⟨q, I, n, get, _, h1, h2, _⟩ := hhid x hx
    exact ⟨q, I, _, h1, h2⟩
  have hownI : ∀ q o, S0.at q = some o → o.els ≠ [] → ∃ (I : Gh) (n : Nat) (get : Nat → List AV), L[q]? = some (I, AV.isl (szf q) n get) ∧ I.bl (φ0 q) ∧ ¬ Foot o (φ0 q) ∧ 0 < n ∧ ∃ (cap : Nat) (C : Array Value), I.val = .slice (some ⟨φ0 q, 0, none⟩) n cap ∧ n ≤ cap ∧ cap ≤ maxLen ∧ w.heap[φ0 q]? = some (Obj.cells C o.ty (0, 0)) ∧ C.size = cap * o.sz ∧
      (∀ x, I.bl x ↔ x = φ0 q ∨ Foot o x) ∧ o.els.length = n ∧ (∀ i j, i < n → j < o.sz → ∃ u, C[i * o.sz + j]? = some u ∧ u.oneCell' = true ∧ ∀ φ S O, (∀ x, OS ((o.els.getD i []).getD j .undef) x → O x ∧ ¬ Own φ S x) → VR φ S O w ((o.els.getD i []).getD j .undef) u) ∧ Arr o.sz n get o.els := by
    intro q o ho hne
    obtain ⟨hq, rfl⟩ := hS0' q o ho
    obtain ⟨I, n, get, h1, h2, h3⟩ := hinf q hq
    rcases h3.val with ⟨rfl, _⟩ | ⟨hpos, cap, C, e1, e2, e3, e4, e5, e6, e7, e8⟩
    · exact absurd (List.length_eq_zero_iff.1 h3.arr.len) hne
    · exact ⟨I, n, get, h1, (e6 _).2 (.inl rfl), e7, hpos, cap, C, e1, e2, e3, e4, e5, e6, h3.arr.len, e8, h3.arr⟩
  have hnf : ∀ q o, S0.at q = some o → o.els ≠ [] → ¬ HidS S0 (φ0 q) := by
    intro q o ho hne hx
    obtain ⟨I, n, get, h1, h2, h3, _⟩ := hownI q o ho hne
    obtain ⟨q', I', n', get', _, k1, k2, k3⟩ := hhid _ hx
    have := hd q q' _ _ _ _ _ h1 k1 h2 k2
    subst this
    obtain ⟨_, rfl⟩ := hS0' q o ho
    exact h3 k3
  have hinj : ∀ q q' o o', S0.at q = some o → o.els ≠ [] → S0.at q' = some o' → o'.els ≠ [] → φ0 q = φ0 q' → q = q' := by
    intro q q' o o' ho hn ho' hn' e
    obtain ⟨I, n, get, h1, h2, _⟩ := hownI q o ho hn
    obtain ⟨I', n', get', k1, k2, _⟩ := hownI q' o' ho' hn'
    exact hd q q' _ _ _ _ _ h1 k1 h2 (by rw [e]; exact k2)
  have hownM : ∀ x, Own φ0 S0 x → MB L x := by
    rintro x ⟨q, o, ho, hn, rfl⟩
    obtain ⟨I, n, get, h1, h2, _⟩ := hownI q o ho hn
    exact ⟨q, I, _, h1, h2⟩
  have hMO : ∀ x, MB L x → OO F φ S x ∧ ¬ Own φ S x ∧ x < w.heap.size := by
    rintro x ⟨q, I, b, h1, h2⟩
    obtain ⟨k1, k2, k3⟩ := hphys q I b h1
    exact ⟨k2 x h2, k3 x h2, k1.lt x h2⟩
  have hsim : Sim (HidS S0) φ0 S0 w := by
    refine ⟨fun x hx => (hMO x (hhidM x hx)).2.2, hnf, hinj, fun q o ho hn => ?_⟩
    obtain ⟨I, n, get, h1, h2, h3, hpos, cap, C, e1, e2, e3, e4, e5, e6, e7, e8, e9⟩ := hownI q o ho hn
    refine ⟨C, e4, by rw [e5, e7]; exact Nat.mul_le_mul_right _ e2, fun j k hj => ⟨(e9.cell j (by omega)).1, fun hk => ?_⟩⟩
    obtain ⟨u, u1, u2, u3⟩ := e8 j k (by omega) hk
    refine ⟨u, u1, u2, u3 φ0 S0 _ fun x hx => ?_⟩
    have hh : HidS S0 x := ⟨q, o, ho, j, k, hj, hk, hx⟩
    exact ⟨.inl hh, fun ⟨q', o', ho', hn', e⟩ => hnf q' o' ho' hn' (e ▸ hh)⟩
  have hOO : ∀ x, OO (HidS S0) φ0 S0 x → OO F φ S x := fun x hx => (hMO x (hx.elim (hhidM x) (hownM x))).1
  have t0 : ∀ u u' v, TS0 L u u' → VR φ S (OO F φ S) w u v → VR φ0 S0 (OO (HidS S0) φ0 S0) w u' v := by
    intro u u' v h hv
    cases h with
    | pure hp => exact .pure ((hv.vi hp).sub hOO)
    | @own I sz n get q hq =>
      have ev : v = I.val := by
        cases hv with
        | pure hv => cases hv
        | own h1 h2 h3 h4 => exact h4
      obtain ⟨hg, hlt⟩ := hget q I _ hq
      have ho := hpf q I sz n get hq
      rcases ho.val with ⟨rfl, A, cap, e1, e2, e3⟩ | ⟨hpos, cap, C, e1, e2, e3, e4, e5, e6, e7, e8⟩
      · refine .sl (by rw [ev, e1]; rfl) (by omega) fun o ho' => ?_
        obtain ⟨_, rfl⟩ := hS0' q o ho'
        refine ⟨Nat.zero_le _, fun _ => .inl ⟨rfl, A, cap, by rw [ev, e1], e2, .inr e3⟩⟩
      · refine .sl (by rw [ev, e1]; rfl) (by omega) fun o ho' => ?_
        obtain ⟨_, rfl⟩ := hS0' q o ho'
        have hz : szf q = sz := by simp only [szf, hg]
        refine ⟨by simp only [ho.arr.len]; exact Nat.le_refl _, fun _ => .inr ⟨hpos, cap, by rw [ev, e1], e2, e3, C, _, _, e4, by simp only [hz]; exact e5⟩⟩
  have t1 : ∀ u u' v, TS1 L u u' → VR φ S (OO F φ S) w u v → VR φ0 S0 (OO (HidS S0) φ0 S0) w u' v := by
    intro u u' v h hv
    cases h with
    | one h => exact t0 u u' v h hv
    | agg h =>
      obtain ⟨hl, ha⟩ := h.at
      obtain ⟨xs, rfl, h1, h2⟩ := hv.agg_inv
      exact .agg (by omega) fun j hj => t0 _ _ _ (ha j (by omega)) (h2 j (by omega))
  have t2 : ∀ u u' v, TS L u u' → VR φ S (OO F φ S) w u v → VR φ0 S0 (OO (HidS S0) φ0 S0) w u' v := by
    intro u u' v h hv
    cases h with
    | one h => exact t1 u u' v h hv
    | fn h h' =>
      obtain ⟨hl, ha⟩ := h.at
      obtain ⟨hl', ha'⟩ := h'.at
      obtain ⟨xs, ys, rfl, h1, h2, h3, h4⟩ := hv.fn_inv
      exact .fn (by omega) (fun j hj => t1 _ _ _ (ha j (by omega)) (h2 j (by omega))) (by omega) fun j hj => t1 _ _ _ (ha' j (by omega)) (h4 j (by omega))
  have hopen : OpenS bs S0 := OpenS.mk hS0l.symm fun q hq => by
    obtain ⟨I, n, get, h1, h2, h3⟩ := hinf q hq
    exact ⟨_, _, n, get, _, h2, hS0 q hq, h3.arr⟩
  obtain ⟨hl, hall⟩ := ht.at
  obtain ⟨_, hcall⟩ := hm.2 S0 hopen
  refine (hcall φ0 w vs hsim ⟨by rw [hv.1, hl], fun j hj => t2 _ _ _ (hall j (by omega)) (hv.2 j (by omega))⟩).mono ?_
  rintro e w' ⟨r', S', F', φ', v, ⟨rfl, hopen', hfoot⟩, rfl, hs', hv', he, hgr⟩
  have hun : ∀ x, x < w.heap.size → ¬ MB L x → w'.heap[x]? = w.heap[x]? := fun x hx hM => he.unch x hx (fun h => hM (hownM x h)) ⟨hx, fun h => absurd (hhidM x h) hM⟩
  refine ⟨v, rfl, fun φ S O => hv'.resOK hr, fun q I b hq => ?_, hun, he.hsize, he.os, he.tape, he.output, he.csize⟩
  obtain ⟨hg, hlt⟩ := hget q I b hq
  obtain ⟨sz, n, get, get', e1, e2⟩ := hsn.2 q hlt
  rw [hg] at e1
  subst e1
  rw [e2]
  obtain ⟨ty1, sz1, n1, get1, els1, k1, k2, k3⟩ := hopen'.at q (by rw [← hsn.1]; exact hlt)
  rw [e2] at k1
  cases k1
  have ho := hpf q I sz n get hq
  have hz : szf q = sz := by simp only [szf, hg]
  rcases Nat.eq_zero_or_pos n with rfl | hpos
  · have hI : ∀ x, I.bl x → w'.heap[x]? = w.heap[x]? := by
      intro x hx
      have hM : MB L x := ⟨q, I, _, hq, hx⟩
      refine he.unch x (hMO x hM).2.2 ?_ ⟨(hMO x hM).2.2, ?_⟩
      · rintro ⟨q', o', ho', hn', rfl⟩
        obtain ⟨I', n', gt, h1, h2, h3, h4, _⟩ := hownI q' o' ho' hn'
        have := hd q q' _ _ _ _ _ hq h1 hx h2
        subst this
        rw [hq] at h1
        cases h1
        omega
      · intro hh
        obtain ⟨q', I', n', gt, _, h1, h2, h3⟩ := hhid x hh
        have := hd q q' _ _ _ _ _ hq h1 hx h2
        subst this
        obtain ⟨i, j, hi, _⟩ := h3
        have := ho.arr.len
        simp only at hi
        omega
    exact ((hphys q I _ hq).1.move hI).zero
  · have hne : (pf q).2.2 ≠ [] := ne_of_lt_len ho.arr.len hpos
    obtain ⟨I', n', gt, h1, h2, h3, _, cap, C, v1, v2, v3, v4, v5, v6, v7, v8, v9⟩ := hownI q _ (hS0 q hlt) hne
    rw [hq] at h1
    cases h1
    obtain ⟨o0, ho0, s1, s2, s3, s4⟩ := he.old q _ (by omega) k2
    obtain ⟨_, rfl⟩ := hS0' q o0 ho0
    have hφ : φ' q = φ0 q := s4 (by simp only [k3.len]; exact v7)
    have hne' : els1 ≠ [] := ne_of_lt_len k3.len hpos
    obtain ⟨C1, c1, c2, c3⟩ := hs'.obj q _ k2 hne'
    rw [hφ] at c1
    obtain ⟨C2, ty2, fr2, d1, d2⟩ := he.csize _ _ _ _ v4
    rw [c1] at d1
    cases d1
    have hfq : ∀ x, Foot ⟨ty1, szf q, els1⟩ x ↔ Foot ⟨(pf q).1, szf q, (pf q).2.2⟩ x := by
      intro x
      have := hfoot q x
      constructor
      · intro hx
        obtain ⟨ob, o1, o2⟩ := this.1 ⟨_, k2, hx⟩
        obtain ⟨_, rfl⟩ := hS0' q ob o1
        exact o2
      · intro hx
        obtain ⟨ob, o1, o2⟩ := this.2 ⟨_, hS0 q hlt, hx⟩
        rw [k2] at o1
        cases o1
        exact o2
    have hcell : ∀ i j, i < n → j < szf q → ∃ u, C1.getD (i * szf q + j) undef = u ∧ u.oneCell' = true ∧ Phys w' (OS ((els1.getD i []).getD j .undef)) ((get'  i).getD j .undef) u := by
      intro i j hi hj
      obtain ⟨u, u1, u2, u3⟩ := (c3 i j (by rw [k3.len]; exact hi)).2 hj
      exact ⟨u, by rw [Array.getD_eq_getD_getElem?, u1]; rfl, u2, (k3.made i j hi hj).phys u3⟩
    rw [v1]
    refine (Phys.isl (w := w') (b := φ0 q) (C := C1) (fun i j => OS ((els1.getD i []).getD j .undef)) v2 v3 c1 (by rw [d2, v5]) (fun i hi => (k3.cell i hi).2) (fun i j hi hj => ?_) (fun i j hi hj => ?_) (fun i j hi hj hx => ?_) k3.dis).congr fun x => ?_
    · obtain ⟨u, u1, u2, u3⟩ := hcell i j hi hj
      rw [u1]; exact u2
    · obtain ⟨u, u1, u2, u3⟩ := hcell i j hi hj
      rw [u1]; exact u3
    · exact h3 ((hfq _).1 ⟨i, j, by rw [k3.len]; exact hi, hj, hx⟩)
    · rw [v6 x, ← hfq x]
      constructor
      · rintro (rfl | ⟨i, j, hi, hj, hx⟩)
        · exact .inl rfl
        · exact .inr ⟨i, j, by rw [k3.len]; exact hi, hj, hx⟩
      · rintro (rfl | ⟨i, j, hi, hj, hx⟩)
        · exact .inl rfl
        · exact .inr ⟨i, j, by rw [← k3.len]; exact hi, hj, hx⟩

def OwnDis (L : OwnL) : Prop := ∀ (q q' : Nat) (I : Gh) (b : AV) (I' : Gh) (b' : AV) (x : Nat), L[q]? = some (I, b) → L[q']? = some (I', b') → I.bl x → I'.bl x → q = q'

/-- A function that writes what it is given to own: bs tell it by value before, bs' behind; asf makes its arguments out of what tells the owners. -/
def MO (P : Program) (g : FuncId) (bs : List AV) (asf : List Gh → List AV) (r : AV) (bs' : List AV) : Prop :=
  Callable P g ∧ ∀ (L : OwnL), L.map (·.2) = bs → OwnDis L → ∀ (F : Nat → Prop) (φ : Nat → Nat) (S : St) (w : World) (vs : List Value), Sim F φ S w → VRs φ S (OO F φ S) w (asf (L.map (·.1))) vs → (∀ (q : Nat) (I : Gh) (b : AV), L[q]? = some (I, b) → VR φ S (OO F φ S) w (.own I b) I.val) →
    Calls P g vs.toArray w fun e w' => ∃ v, e = .returned v ∧ (∀ φ S O, VR φ S O w' r v) ∧ (∀ (q : Nat) (I : Gh) (b : AV), L[q]? = some (I, b) → Phys w' I.bl (bs'.getD q .undef) I.val) ∧
      (∀ x, x < w.heap.size → ¬ MB L x → w'.heap[x]? = w.heap[x]?) ∧ w.heap.size ≤ w'.heap.size ∧ w'.os = w.os ∧ w'.tape = w.tape ∧ w'.output = w.output ∧
      ∀ (b : Nat) (C : Array Value) (ty : TypeId) (fr : Nat × Nat), w.heap[b]? = some (Obj.cells C ty fr) → ∃ (C' : Array Value) (ty' : TypeId) (fr' : Nat × Nat), w'.heap[b]? = some (Obj.cells C' ty' fr') ∧ C'.size = C.size

theorem MU.mo {bs bs' args : List AV} {asf : List Gh → List AV} {r : AV} (hm : MU P g bs args r bs') (hsn : SameN bs bs') (hr : resOK r = true) (ht : ∀ L : OwnL, L.map (·.2) = bs → All2 (TS L) (asf (L.map (·.1))) args) : MO P g bs asf r bs' :=
  ⟨hm.1, fun L hb hd F φ S w vs hs hv hL => hm.calls hb hsn hr (ht L hb) hd hs hv hL⟩
end
end Go.Fw
