/-
  Calls that see one object of the store, or make one.
-/
import Derived.Test.YthholadaflfpcaaFxA
namespace Go.Fw
open Go Go.RowKit

def rn0 (id : Nat) : AV → AV
  | .sl _ n => .sl id n
  | .win _ n lo len => .win id n lo len
  | .ptr _ n i off => .ptr id n i off
  | v => v
def rn2 (id : Nat) : AV → AV
  | .tup cs => .tup (cs.map (rn0 id))
  | v => rn0 id v
/-- Values, and references to object 0. -/
def rk0 : AV → Bool
  | .sl 0 _ | .win 0 _ _ _ | .ptr 0 _ _ _ => true
  | v => scal0 v
def rk2 : AV → Bool
  | .tup cs => cs.all rk0
  | v => rk0 v
/-- Arguments: values, or references to object 0. -/
def ak : AV → Bool
  | .sl 0 _ | .win 0 _ _ _ | .ptr 0 _ _ _ => true
  | v => pv v

def PvO (ob : AObj) : Prop := ∀ i j, i < ob.els.length → j < ob.sz → pv0 ((ob.els.getD i []).getD j .undef) = true

theorem PvO.rows {α : Type} {ty : TypeId} {sz : Nat} {l : List α} {f : α → List AV} (hf : ∀ x ∈ l, (f x).length = sz ∧ (f x).all pv0 = true) : PvO ⟨ty, sz, l.map f⟩ := by
  intro i j hi hj
  have hi' : i < l.length := by simpa using hi
  show pv0 (((l.map f).getD i []).getD j .undef) = true
  rw [List.getD_eq_getElem?_getD (l := l.map f), List.getElem?_map, List.getElem?_eq_getElem hi']
  obtain ⟨h1, h2⟩ := hf _ (List.getElem_mem hi')
  exact all_getD h2 (by rw [h1]; exact hj)

theorem ref_mv {φ φ2 : Nat → Nat} {S S2 : St} {O O2 : Nat → Prop} {w w2 : World} {id id2 : Nat} {ob : AObj} (hat : S.at id = some ob) (hat2 : S2.at id2 = some ob) (hφ : ob.els ≠ [] → φ2 id2 = φ id) (hw : ∀ C ty fr, ob.els ≠ [] → w.heap[φ id]? = some (Obj.cells C ty fr) → ∃ (C' : Array Value) (ty' : TypeId) (fr' : Nat × Nat), w2.heap[φ id]? = some (Obj.cells C' ty' fr') ∧ C'.size = C.size)
    {u u2 : AV} {v : Value} (hu : (∃ n, u = .sl id n ∧ u2 = .sl id2 n) ∨ (∃ n lo len, u = .win id n lo len ∧ u2 = .win id2 n lo len) ∨ ∃ n i off, i < n ∧ u = .ptr id n i off ∧ u2 = .ptr id2 n i off) (hv : VR φ S O w u v) : VR φ2 S2 O2 w2 u2 v := by
  have hl2 := St.lt_of_at hat2
  rcases hu with ⟨n, rfl, rfl⟩ | ⟨n, lo, len, rfl, rfl⟩ | ⟨n, i, off, hi, rfl, rfl⟩
  · cases hv with
    | pure hv => cases hv
    | sl h0 h1 h2 =>
      refine .sl h0 hl2 fun o ho => ?_
      rw [hat2] at ho; cases ho
      obtain ⟨k1, k2⟩ := h2 ob hat
      refine ⟨k1, fun e => (k2 e).imp (fun h => h) fun ⟨hp, cap, e1, e2, e3, C, ty, fr, e4, e5⟩ => ?_⟩
      have hne : ob.els ≠ [] := ne_of_lt_len e.symm hp
      obtain ⟨C', ty', fr', c1, c2⟩ := hw C ty fr hne e4
      exact ⟨hp, cap, by rw [hφ hne]; exact e1, e2, e3, C', ty', fr', by rw [hφ hne]; exact c1, by rw [c2]; exact e5⟩
  · cases hv with
    | pure hv => cases hv
    | win h0 h1 h2 =>
      refine .win h0 hl2 fun o ho => ?_
      rw [hat2] at ho; cases ho
      obtain ⟨k1, k2⟩ := h2 ob hat
      refine ⟨k1, fun e => ?_⟩
      obtain ⟨hp, e0, A, cap, e1, e2, e3, e3', C, ty, fr, e4, e5⟩ := k2 e
      have hne : ob.els ≠ [] := ne_of_lt_len e.symm hp
      obtain ⟨C', ty', fr', c1, c2⟩ := hw C ty fr hne e4
      exact ⟨hp, e0, A, cap, e1, by rw [hφ hne]; exact e2, e3, e3', C', ty', fr', by rw [hφ hne]; exact c1, by rw [c2]; exact e5⟩
  · cases hv with
    | pure hv => cases hv
    | ptr h0 h1 h2 =>
      refine .ptr h0 hl2 fun o ho => ?_
      rw [hat2] at ho; cases ho
      obtain ⟨k1, k2⟩ := h2 ob hat
      exact ⟨k1, fun e => by rw [hφ (ne_of_lt_len e.symm (by omega))]; exact k2 e⟩

def ptrOK : AV → Bool
  | .ptr _ n i _ => Nat.blt i n
  | _ => true
def ptrOK2 : AV → Bool
  | .tup cs => cs.all ptrOK
  | v => ptrOK v

section
variable {P : Program} {m : Fr} {ops : Array Oper} {o : Oper} {rest : List Oper} {a : Nat → AV} {S : St} {Post : (Nat → AV) → St → Prop} {g : FuncId} {as : List AV} {d : Option Nat}

theorem rk_mv {φ φ2 : Nat → Nat} {S1 S2 : St} {O O2 : Nat → Prop} {w w2 : World} {id2 : Nat} {ob : AObj} (hat : S1.at 0 = some ob) (hat2 : S2.at id2 = some ob) (hφ : ob.els ≠ [] → φ2 id2 = φ 0) (hw : ∀ C ty fr, ob.els ≠ [] → w.heap[φ 0]? = some (Obj.cells C ty fr) → ∃ (C' : Array Value) (ty' : TypeId) (fr' : Nat × Nat), w2.heap[φ 0]? = some (Obj.cells C' ty' fr') ∧ C'.size = C.size)
    {u : AV} {v : Value} (hk : rk2 u = true) (hp : ptrOK2 u = true) (hv : VR φ S1 O w u v) : VR φ2 S2 O2 w2 (rn2 id2 u) v := by
  have h0 : ∀ u v, rk0 u = true → ptrOK u = true → VR φ S1 O w u v → VR φ2 S2 O2 w2 (rn0 id2 u) v := by
    intro u v hu hp hv
    have key : scal0 u = true → rn0 id2 u = u → VR φ2 S2 O2 w2 (rn0 id2 u) v := by
      intro hs e
      rw [e]
      exact .pure ((hv.vi (by revert hs; cases u <;> simp [scal0, pv, pv1, pv0])).scal0 hs)
    match u, hu with
    | .sl 0 n, _ => exact ref_mv hat hat2 hφ hw (.inl ⟨n, rfl, rfl⟩) hv
    | .win 0 n lo len, _ => exact ref_mv hat hat2 hφ hw (.inr (.inl ⟨n, lo, len, rfl, rfl⟩)) hv
    | .ptr 0 n i off, _ => exact ref_mv hat hat2 hφ hw (.inr (.inr ⟨n, i, off, Nat.le_of_ble_eq_true hp, rfl, rfl⟩)) hv
    | .int k n, _ => exact key rfl rfl
    | .bool b, _ => exact key rfl rfl
    | .str s, _ => exact key rfl rfl
  by_cases hu : ∃ cs, u = .tup cs
  · obtain ⟨cs, rfl⟩ := hu
    obtain ⟨xs, rfl, e1, e2⟩ := hv.tup_inv
    refine .tup (by simp [e1]) fun j hj => ?_
    have hj' : j < cs.length := by simpa using hj
    have e3 : (cs.map (rn0 id2)).getD j .undef = rn0 id2 (cs.getD j .undef) := by simp [List.getD_eq_getElem?_getD, hj']
    rw [e3]
    exact h0 _ _ (all_getD hk hj') (all_getD hp hj') (e2 j hj')
  · have e1 : rn2 id2 u = rn0 id2 u := by cases u <;> first | rfl | exact absurd ⟨_, rfl⟩ hu
    have e2 : rk2 u = rk0 u := by cases u <;> first | rfl | exact absurd ⟨_, rfl⟩ hu
    have e3 : ptrOK2 u = ptrOK u := by cases u <;> first | rfl | exact absurd ⟨_, rfl⟩ hu
    rw [e1]
    exact h0 _ _ (e2 ▸ hk) (e3 ▸ hp) hv

/-- One object of the store is all that a call sees of it. -/
theorem FC.fr1 {args : List AV} {ob : AObj} {Q : AV → AObj → Prop} (hc : FC P g args [some ob] (fun r S' => ∃ ob', S' = [some ob'] ∧ Q r ob')) (hQ : ∀ r ob', Q r ob' → rk2 r = true ∧ ptrOK2 r = true ∧ PvO ob') (id : Nat) (hat : S.at id = some ob) (hob : PvO ob)
    (hargs : args.all (fun u => ak u && ptrOK u) = true) (has : args.map (rn0 id) = as) : FC P g as S (fun r S' => ∃ r0 ob', Q r0 ob' ∧ r = rn2 id r0 ∧ S' = S.set id (some ob')) := by
  subst has
  refine ⟨hc.1, fun F φ w vs hs hv => ?_⟩
  have hid := St.lt_of_at hat
  let F0 : Nat → Prop := fun x => OO F φ S x ∧ ¬ (ob.els ≠ [] ∧ x = φ id)
  let φ0 : Nat → Nat := fun _ => φ id
  have hF : ∀ b, OO F φ S b → b < w.heap.size := by
    rintro b (h | ⟨i, o, h, hn, rfl⟩)
    · exact hs.fl b h
    · exact hs.lt h hn
  have at0 : ∀ i o, St.at [some ob] i = some o → i = 0 ∧ o = ob := by
    intro i o h
    cases i with
    | zero => simp [St.at] at h; exact ⟨rfl, h.symm⟩
    | succ i => simp [St.at] at h
  have hat0 : St.at [some ob] 0 = some ob := rfl
  have hOO : ∀ x, OO F0 φ0 [some ob] x → OO F φ S x := by
    rintro x (h | ⟨i, o, h1, h2, rfl⟩)
    · exact h.1
    · obtain ⟨rfl, rfl⟩ := at0 i o h1
      exact .inr ⟨id, _, hat, h2, rfl⟩
  have hsim : Sim F0 φ0 [some ob] w := by
    refine ⟨fun b hb => hF b hb.1, fun i o h hn hf => ?_, fun i j o o' h1 _ h2 _ _ => ?_, fun i o h hn => ?_⟩
    · obtain ⟨rfl, rfl⟩ := at0 i o h
      exact hf.2 ⟨hn, rfl⟩
    · rw [(at0 i o h1).1, (at0 j o' h2).1]
    · obtain ⟨rfl, rfl⟩ := at0 i o h
      obtain ⟨C, e1, e2, e3⟩ := hs.obj id _ hat hn
      refine ⟨C, e1, e2, fun j k hj => ⟨(e3 j k hj).1, fun hk => ?_⟩⟩
      obtain ⟨u, u1, u2, u3⟩ := (e3 j k hj).2 hk
      exact ⟨u, u1, u2, .pure ((u3.vi0 (hob j k hj hk)).sub hOO)⟩
  have hargs' : VRs φ0 [some ob] (OO F0 φ0 [some ob]) w args vs := by
    refine ⟨by rw [hv.1]; simp, fun j hj => ?_⟩
    have h1 := all_getD (f := fun u => ak u && ptrOK u) hargs hj
    simp only [Bool.and_eq_true] at h1
    have h2 := hv.2 j (by simpa using hj)
    have e : (args.map (rn0 id)).getD j .undef = rn0 id (args.getD j .undef) := by simp [List.getD_eq_getElem?_getD, hj]
    rw [e] at h2
    generalize args.getD j .undef = u at h1 h2
    generalize vs.getD j undef = v at h2
    have pure : pv u = true → rn0 id u = u → VR φ0 [some ob] (OO F0 φ0 [some ob]) w u v := by
      intro hp e
      rw [e] at h2
      exact .pure ((h2.vi hp).sub hOO)
    have hcs : ∀ C ty fr, ob.els ≠ [] → w.heap[φ id]? = some (Obj.cells C ty fr) → ∃ (C' : Array Value) (ty' : TypeId) (fr' : Nat × Nat), w.heap[φ id]? = some (Obj.cells C' ty' fr') ∧ C'.size = C.size := fun C ty fr _ h => ⟨C, ty, fr, h, rfl⟩
    match u, h1 with
    | .sl 0 n, _ => exact ref_mv hat hat0 (fun _ => rfl) hcs (.inl ⟨n, rfl, rfl⟩) h2
    | .win 0 n lo len, _ => exact ref_mv hat hat0 (fun _ => rfl) hcs (.inr (.inl ⟨n, lo, len, rfl, rfl⟩)) h2
    | .ptr 0 n i off, h1 => exact ref_mv hat hat0 (fun _ => rfl) hcs (.inr (.inr ⟨n, i, off, Nat.le_of_ble_eq_true h1.2, rfl, rfl⟩)) h2
    | .undef, _ => exact pure rfl rfl
    | .int k n, _ => exact pure rfl rfl
    | .bool b, _ => exact pure rfl rfl
    | .str s, _ => exact pure rfl rfl
    | .nsl, _ => exact pure rfl rfl
    | .isl sz n get, _ => exact pure rfl rfl
    | .nptr, _ => exact pure rfl rfl
    | .iptr cs, _ => exact pure rfl rfl
    | .nfn, _ => exact pure rfl rfl
    | .fn f us cs, h1 => exact pure h1.1 rfl
    | .agg cs, h1 => exact pure h1.1 rfl
    | .tup cs, h1 => exact pure h1.1 rfl
  refine (hc.2 F0 φ0 w vs hsim hargs').mono ?_
  rintro e w' ⟨r0, S', F', φ', v, ⟨ob', rfl, hq⟩, rfl, hs', hv', he, hgr⟩
  obtain ⟨hk, hptr, hpv⟩ := hQ r0 ob' hq
  have at0' : ∀ i o, St.at [some ob'] i = some o → i = 0 ∧ o = ob' := by
    intro i o h
    cases i with
    | zero => simp [St.at] at h; exact ⟨rfl, h.symm⟩
    | succ i => simp [St.at] at h
  have hat0' : St.at [some ob'] 0 = some ob' := rfl
  obtain ⟨o1, q1, hsz, hty, hle, hφe⟩ := he.old 0 ob' (by simp) hat0'
  obtain ⟨_, rfl⟩ := at0 0 o1 q1
  have hold : ob'.els ≠ [] → φ' 0 < w.heap.size → o1.els ≠ [] ∧ φ' 0 = φ id := by
    intro hn hlt
    obtain ⟨i, o, h1, h2, h3⟩ := he.own _ hlt ⟨0, ob', hat0', hn, rfl⟩
    obtain ⟨rfl, rfl⟩ := at0 i o h1
    exact ⟨h2, h3.symm⟩
  let φ2 := phi φ id (φ' 0)
  let S2 : St := S.set id (some ob')
  obtain ⟨hS2l, hidl, hS2at⟩ := St.ok_set hid ob'
  have hat2 : S2.at id = some ob' := by rw [hS2at, if_pos rfl]
  have hat2' : ∀ i o, i ≠ id → S2.at i = some o → S.at i = some o := fun i o hne h => by rw [hS2at, if_neg hne] at h; exact h
  have hφ2 : φ2 id = φ' 0 := by simp [φ2, phi]
  have hφ2' : ∀ i, i ≠ id → φ2 i = φ i := fun i h => by simp [φ2, phi, h]
  have hunch : ∀ b, b < w.heap.size → ¬ (o1.els ≠ [] ∧ b = φ id) → w'.heap[b]? = w.heap[b]? := by
    intro b hb hn
    refine he.unch b hb ?_
    rintro ⟨i, o, h1, h2, h3⟩
    obtain ⟨rfl, rfl⟩ := at0 i o h1
    exact hn ⟨h2, h3.symm⟩
  have hother : ∀ i o, i ≠ id → S.at i = some o → o.els ≠ [] → ¬ (o1.els ≠ [] ∧ φ i = φ id) := by
    rintro i o hne h hn ⟨h1, h2⟩
    exact hne (hs.inj i id o o1 h hn hat h1 h2)
  have evo : Evo φ S w φ2 S2 w' := by
    refine ⟨he.os, he.tape, he.output, he.hsize, hS2l, fun b hb hn => hunch b hb fun ⟨h1, h2⟩ => hn ⟨id, o1, hat, h1, h2.symm⟩, he.csize, ?_, ?_⟩
    · rintro b hb ⟨i, o, h1, h2, rfl⟩
      by_cases ei : i = id
      · subst ei
        rw [hat2] at h1; cases h1
        rw [hφ2] at hb ⊢
        obtain ⟨k1, k2⟩ := hold h2 hb
        exact ⟨i, o1, hat, k1, k2.symm⟩
      · rw [hφ2' i ei] at hb ⊢
        exact ⟨i, o, hat2' i o ei h1, h2, rfl⟩
    · intro i o hi h
      by_cases ei : i = id
      · subst ei
        rw [hat2] at h; cases h
        exact ⟨o1, hat, hsz, hty, hle, fun e => by rw [hφ2]; exact hφe e⟩
      · exact ⟨o, hat2' i o ei h, rfl, rfl, Nat.le_refl _, fun _ => hφ2' i ei⟩
  have hsim2 : Sim F φ2 S2 w' := by
    refine ⟨fun b hb => Nat.lt_of_lt_of_le (hs.fl b hb) he.hsize, fun i o h hn => ?_, fun i j o o' h hn h' hn' e => ?_, fun i o h hn => ?_⟩
    · by_cases ei : i = id
      · subst ei
        rw [hat2] at h; cases h
        rw [hφ2]
        intro hf
        obtain ⟨k1, k2⟩ := hold hn (hs.fl _ hf)
        exact hs.nf i o1 hat k1 (k2 ▸ hf)
      · rw [hφ2' i ei]; exact hs.nf i o (hat2' i o ei h) hn
    · by_cases ei : i = id
      · by_cases ej : j = id
        · rw [ei, ej]
        · exfalso
          subst ei
          rw [hat2] at h; cases h
          rw [hφ2, hφ2' j ej] at e
          obtain ⟨k1, k2⟩ := hold hn (by rw [e]; exact hs.lt (hat2' j o' ej h') hn')
          exact ej (hs.inj j i o' o1 (hat2' j o' ej h') hn' hat k1 (by rw [← e, k2]))
      · by_cases ej : j = id
        · exfalso
          subst ej
          rw [hat2] at h'; cases h'
          rw [hφ2, hφ2' i ei] at e
          obtain ⟨k1, k2⟩ := hold hn' (by rw [← e]; exact hs.lt (hat2' i o ei h) hn)
          exact ei (hs.inj i j o o1 (hat2' i o ei h) hn hat k1 (by rw [e, k2]))
        · rw [hφ2' i ei, hφ2' j ej] at e
          exact hs.inj i j o o' (hat2' i o ei h) hn (hat2' j o' ej h') hn' e
    · by_cases ei : i = id
      · subst ei
        rw [hat2] at h; cases h
        rw [hφ2]
        obtain ⟨C, e1, e2, e3⟩ := hs'.obj 0 ob' hat0' hn
        refine ⟨C, e1, e2, fun j k hj => ⟨(e3 j k hj).1, fun hk => ?_⟩⟩
        obtain ⟨u, u1, u2, u3⟩ := (e3 j k hj).2 hk
        refine ⟨u, u1, u2, .pure ((u3.vi0 (hpv j k hj hk)).sub ?_)⟩
        rintro b (hf | ⟨i', o, h1, h2, rfl⟩)
        · exact .inl (hgr.sub b ⟨.inl hf, fun ⟨k1, k2⟩ => hs.nf i o1 hat k1 (k2 ▸ hf)⟩)
        · by_cases ei' : i' = i
          · subst ei'
            rw [hat2] at h1; cases h1
            rw [hφ2]
            exact .inr ⟨0, ob', hat0', h2, rfl⟩
          · rw [hφ2' i' ei']
            exact .inl (hgr.sub _ ⟨.inr ⟨i', o, hat2' i' o ei' h1, h2, rfl⟩, hother i' o ei' (hat2' i' o ei' h1) h2⟩)
      · obtain ⟨C, e1, e2, e3⟩ := hs.obj i o (hat2' i o ei h) hn
        rw [hφ2' i ei]
        refine ⟨C, by rw [hunch _ (hs.lt (hat2' i o ei h) hn) (hother i o ei (hat2' i o ei h) hn)]; exact e1, e2, fun j k hj => ⟨(e3 j k hj).1, fun hk => ?_⟩⟩
        obtain ⟨u, u1, u2, u3⟩ := (e3 j k hj).2 hk
        exact ⟨u, u1, u2, u3.evo evo⟩
  exact ⟨rn2 id r0, S2, F, φ2, v, ⟨r0, ob', hq, rfl, rfl⟩, rfl, hsim2, rk_mv hat0' hat2 (fun _ => hφ2) (fun C ty fr _ h => ⟨C, ty, fr, h, rfl⟩) hk hptr hv', evo, Gro.refl _ _⟩

theorem RG.fr1 {args : List AV} {ob : AObj} {Q : AV → AObj → Prop} (id : Nat) (h : callA o a = some (g, as)) (hd : o.dst = d) (hat : S.at id = some ob) (hc : FC P g args [some ob] (fun r S' => ∃ ob', S' = [some ob'] ∧ Q r ob')) (hQ : ∀ r ob', Q r ob' → rk2 r = true ∧ ptrOK2 r = true ∧ PvO ob') (hob : PvO ob)
    (hargs : args.all (fun u => ak u && ptrOK u) = true) (has : args.map (rn0 id) = as) (next : ∀ r0 ob', Q r0 ob' → RG P m ops rest (upd a d (rn2 id r0)) (S.set id (some ob')) Post) (hgd : agd ops o a = some true := by rfl) (hok : (gdOK m.n ops o && dstOK m.n o.dst) = true := by rfl) : RG P m ops (o :: rest) a S Post :=
  RG.fc h hd (hc.fr1 hQ id hat hob hargs has) (fun r' S' ⟨r0, ob', h1, h2, h3⟩ => by rw [h2, h3]; exact next r0 ob' h1) hgd hok

/-- A call that makes one object. -/
theorem FC.fr0 {Q : AV → AObj → Prop} (hc : FC P g as [] (fun r S' => ∃ ob', S' = [some ob'] ∧ Q r ob')) (hQ : ∀ r ob', Q r ob' → rk2 r = true ∧ ptrOK2 r = true ∧ PvO ob') (S : St)
    (hargs : as.all pv = true) : FC P g as S (fun r S' => ∃ r0 ob', Q r0 ob' ∧ r = rn2 S.length r0 ∧ S' = S ++ [some ob']) := by
  refine ⟨hc.1, fun F φ w vs hs hv => ?_⟩
  have hF : ∀ b, OO F φ S b → b < w.heap.size := by
    rintro b (h | ⟨i, o, h, hn, rfl⟩)
    · exact hs.fl b h
    · exact hs.lt h hn
  have hargs' : VRs φ [] (OO (OO F φ S) φ []) w as vs := ⟨hv.1, fun j hj => .pure (((hv.2 j hj).vi (all_getD hargs hj)).sub fun b hb => oo_nil.1 hb)⟩
  refine (hc.2 (OO F φ S) φ w vs (Sim.empty hF) hargs').mono ?_
  rintro e w' ⟨r0, S', F', φ', v, ⟨ob', rfl, hq⟩, rfl, hs', hv', he, hgr⟩
  obtain ⟨hk, hptr, hpv⟩ := hQ r0 ob' hq
  have hat0' : St.at [some ob'] 0 = some ob' := rfl
  have hnew : ob'.els ≠ [] → w.heap.size ≤ φ' 0 := by
    intro hn
    refine Nat.le_of_not_lt fun hlt => own_nil φ _ (he.own _ hlt ⟨0, ob', hat0', hn, rfl⟩)
  let φ2 := phi φ S.length (φ' 0)
  let S2 : St := S ++ [some ob']
  obtain ⟨hS2l, hidl, hS2at⟩ := St.ok_new S ob'
  have hat2 : S2.at S.length = some ob' := by rw [hS2at, if_pos rfl]
  have hat2' : ∀ i o, i ≠ S.length → S2.at i = some o → S.at i = some o := fun i o hne h => by rw [hS2at, if_neg hne] at h; exact h
  have hφ2 : φ2 S.length = φ' 0 := by simp [φ2, phi]
  have hφ2' : ∀ i, i ≠ S.length → φ2 i = φ i := fun i h => by simp [φ2, phi, h]
  have hunch : ∀ b, b < w.heap.size → w'.heap[b]? = w.heap[b]? := fun b hb => he.unch b hb (own_nil _ _)
  have evo : Evo φ S w φ2 S2 w' := by
    refine ⟨he.os, he.tape, he.output, he.hsize, hS2l, fun b hb _ => hunch b hb, he.csize, ?_, ?_⟩
    · rintro b hb ⟨i, o, h1, h2, rfl⟩
      by_cases ei : i = S.length
      · subst ei
        rw [hat2] at h1; cases h1
        rw [hφ2] at hb
        have := hnew h2; omega
      · rw [hφ2' i ei]
        exact ⟨i, o, hat2' i o ei h1, h2, rfl⟩
    · intro i o hi h
      exact ⟨o, hat2' i o (by omega) h, rfl, rfl, Nat.le_refl _, fun _ => hφ2' i (by omega)⟩
  have hsim2 : Sim F φ2 S2 w' := by
    refine ⟨fun b hb => Nat.lt_of_lt_of_le (hs.fl b hb) he.hsize, fun i o h hn => ?_, fun i j o o' h hn h' hn' e => ?_, fun i o h hn => ?_⟩
    · by_cases ei : i = S.length
      · subst ei
        rw [hat2] at h; cases h
        rw [hφ2]
        intro hf
        have := hnew hn; have := hs.fl _ hf; omega
      · rw [hφ2' i ei]; exact hs.nf i o (hat2' i o ei h) hn
    · by_cases ei : i = S.length
      · by_cases ej : j = S.length
        · rw [ei, ej]
        · exfalso
          subst ei
          rw [hat2] at h; cases h
          rw [hφ2, hφ2' j ej] at e
          have := hnew hn; have := hs.lt (hat2' j o' ej h') hn'; omega
      · by_cases ej : j = S.length
        · exfalso
          subst ej
          rw [hat2] at h'; cases h'
          rw [hφ2, hφ2' i ei] at e
          have := hnew hn'; have := hs.lt (hat2' i o ei h) hn; omega
        · rw [hφ2' i ei, hφ2' j ej] at e
          exact hs.inj i j o o' (hat2' i o ei h) hn (hat2' j o' ej h') hn' e
    · by_cases ei : i = S.length
      · subst ei
        rw [hat2] at h; cases h
        rw [hφ2]
        obtain ⟨C, e1, e2, e3⟩ := hs'.obj 0 ob' hat0' hn
        refine ⟨C, e1, e2, fun j k hj => ⟨(e3 j k hj).1, fun hk => ?_⟩⟩
        obtain ⟨u, u1, u2, u3⟩ := (e3 j k hj).2 hk
        refine ⟨u, u1, u2, .pure ((u3.vi0 (hpv j k hj hk)).sub ?_)⟩
        rintro b (hf | ⟨i', o, h1, h2, rfl⟩)
        · exact .inl (hgr.sub b (.inl hf))
        · by_cases ei' : i' = S.length
          · subst ei'
            rw [hat2] at h1; cases h1
            rw [hφ2]
            exact .inr ⟨0, ob', hat0', h2, rfl⟩
          · rw [hφ2' i' ei']
            exact .inl (hgr.sub _ (.inr ⟨i', o, hat2' i' o ei' h1, h2, rfl⟩))
      · obtain ⟨C, e1, e2, e3⟩ := hs.obj i o (hat2' i o ei h) hn
        rw [hφ2' i ei]
        refine ⟨C, by rw [hunch _ (hs.lt (hat2' i o ei h) hn)]; exact e1, e2, fun j k hj => ⟨(e3 j k hj).1, fun hk => ?_⟩⟩
        obtain ⟨u, u1, u2, u3⟩ := (e3 j k hj).2 hk
        exact ⟨u, u1, u2, u3.evo evo⟩
  exact ⟨rn2 S.length r0, S2, F, φ2, v, ⟨r0, ob', hq, rfl, rfl⟩, rfl, hsim2, rk_mv hat0' hat2 (fun _ => hφ2) (fun C ty fr _ h => ⟨C, ty, fr, h, rfl⟩) hk hptr hv', evo, Gro.refl _ _⟩

theorem RG.fr0 {Q : AV → AObj → Prop} (h : callA o a = some (g, as)) (hd : o.dst = d) (hc : FC P g as [] (fun r S' => ∃ ob', S' = [some ob'] ∧ Q r ob')) (hQ : ∀ r ob', Q r ob' → rk2 r = true ∧ ptrOK2 r = true ∧ PvO ob')
    (hargs : as.all pv = true) (next : ∀ r0 ob', Q r0 ob' → RG P m ops rest (upd a d (rn2 S.length r0)) (S ++ [some ob']) Post) (hgd : agd ops o a = some true := by rfl) (hok : (gdOK m.n ops o && dstOK m.n o.dst) = true := by rfl) : RG P m ops (o :: rest) a S Post :=
  RG.fc h hd (hc.fr0 hQ S hargs) (fun r' S' ⟨r0, ob', h1, h2, h3⟩ => by rw [h2, h3]; exact next r0 ob' h1) hgd hok
end
end Go.Fw
