/-
  Rows that are marked, element by element.
-/
import Derived.Test.YthholadaflfpcaaFxE
namespace Go.Fw
open Go Go.RowKit

theorem foot_eq {α : Type} {g : α → AV} {sc : α → List AV} {sz : Nat} (hsc : ∀ x, (sc x).all scal0 = true ∧ (sc x).length + 1 = sz) {gl hl : List (Gh × α)} (h : hl.map (·.1) = gl.map (·.1)) {ty ty' : TypeId} {q x : Nat} : footAt [some ⟨ty, sz, hl.map (rO g sc)⟩] q x ↔ footAt [some ⟨ty', sz, gl.map (rO g sc)⟩] q x := by
  rw [foot_rO hsc, foot_rO hsc]
  have key : ∀ l : List (Gh × α), (∃ p ∈ l, p.1.bl x) ↔ ∃ G ∈ l.map (·.1), G.bl x := by
    intro l
    constructor
    · rintro ⟨p, hp, hx⟩; exact ⟨p.1, List.mem_map_of_mem hp, hx⟩
    · rintro ⟨G, hG, hx⟩
      obtain ⟨p, hp, rfl⟩ := List.mem_map.1 hG
      exact ⟨p, hp, hx⟩
  rw [key hl, key gl, h]

theorem Made1.scal {r b : AV} (h : Made1 r b) (hb : scal0 b = true) : r = b := by
  cases b <;> first | exact h.1 | (simp [scal0] at hb)
theorem Made1.isl {r : AV} {sz n : Nat} {get : Nat → List AV} (h : Made1 r (.isl sz n get)) : ∃ I, r = .own I (.isl sz n get) := h

/-- Up to i all is marked; what each owner holds; B must stay as it is. -/
structure MkI {α : Type} (B : Nat → Prop) (fl : List α → Int → List α) (sm : List α → Nat) (l : List α) (gl : List (Gh × α)) (k : Int) (i : Nat) (hl : List (Gh × α)) (r : Int) : Prop where
  le : i ≤ l.length
  len : hl.length = l.length
  dis : GDis hl
  free : ∀ p ∈ hl, ∀ x, p.1.bl x → ¬ B x
  own : hl.map (·.1) = gl.map (·.1)
  r0 : 0 ≤ r
  rs : r + sm (l.drop i) = k + sm l
  rest : (hl.map (·.2)).drop i = l.drop i
  done : (hl.map (·.2)).take i ++ fl (l.drop i) r = fl l k

section
variable {α : Type} {B : Nat → Prop} {fl : List α → Int → List α} {sm : List α → Nat} {l : List α} {gl : List (Gh × α)} {k : Int} {i : Nat} {hl : List (Gh × α)} {r : Int}
theorem MkI.init (hgl : gl.map (·.2) = l) (hd : GDis gl) (hB : ∀ p ∈ gl, ∀ x, p.1.bl x → ¬ B x) (hk : 0 ≤ k) : MkI B fl sm l gl k 0 gl k :=
  ⟨Nat.zero_le _, by rw [← hgl]; simp, hd, hB, rfl, hk, by simp, by simp [hgl], by simp⟩
theorem MkI.at (h : MkI B fl sm l gl k i hl r) (d : α) (G : Gh) (hi : i < l.length) : hl[i]? = some ((hl.getD i (G, d)).1, (hl.getD i (G, d)).2) ∧ (hl.getD i (G, d)).2 = l.getD i d ∧ ∀ x, (hl.getD i (G, d)).1.bl x → ¬ B x := by
  have hi' : i < hl.length := by rw [h.len]; exact hi
  have e : hl.getD i (G, d) = hl[i] := by rw [List.getD_eq_getElem?_getD, List.getElem?_eq_getElem hi']; rfl
  refine ⟨by rw [e, List.getElem?_eq_getElem hi'], ?_, fun x hx => h.free _ (by rw [e]; exact List.getElem_mem hi') x hx⟩
  have h1 := h.rest
  have h2 : (hl.map (·.2)).drop i = (hl.map (·.2)).getD i d :: (hl.map (·.2)).drop (i + 1) := by
    rw [List.drop_eq_getElem_cons (by simpa using hi'), List.getD_eq_getElem?_getD, List.getElem?_eq_getElem (by simpa using hi')]; rfl
  have h3 : l.drop i = l.getD i d :: l.drop (i + 1) := by
    rw [List.drop_eq_getElem_cons hi, List.getD_eq_getElem?_getD, List.getElem?_eq_getElem hi]; rfl
  rw [h2, h3] at h1
  have := (List.cons.inj h1).1
  rw [e, ← this]
  simp [List.getD_eq_getElem?_getD, hi']
theorem MkI.step (h : MkI B fl sm l gl k i hl r) (d : α) (hi : i < l.length) {G : Gh} {x' : α} {n : Nat} (hG : hl[i]? = some (G, l.getD i d)) (hfl : ∀ xs, fl (l.getD i d :: xs) r = x' :: fl xs (r + n)) (hsm : ∀ xs, sm (l.getD i d :: xs) = n + sm xs) : MkI B fl sm l gl k (i + 1) (hl.set i (G, x')) (r + n) := by
  have hi' : i < hl.length := by rw [h.len]; exact hi
  have h3 : l.drop i = l.getD i d :: l.drop (i + 1) := by
    rw [List.drop_eq_getElem_cons hi, List.getD_eq_getElem?_getD, List.getElem?_eq_getElem hi]; rfl
  have hr := h.rs
  rw [h3, hsm] at hr
  have h0 := h.r0
  have hm1 : ∀ p ∈ hl.set i (G, x'), ∃ q ∈ hl, q.1 = p.1 := by
    intro p hp
    rcases List.mem_or_eq_of_mem_set hp with h | rfl
    · exact ⟨p, h, rfl⟩
    · exact ⟨_, List.mem_of_getElem? hG, rfl⟩
  refine ⟨hi, by simp [h.len], h.dis.set hG, fun p hp x hx => ?_, ?_, by omega, by omega, ?_, ?_⟩
  · obtain ⟨q, hq, e⟩ := hm1 p hp
    exact h.free q hq x (by rw [e]; exact hx)
  · rw [List.map_set, ← h.own]
    have : (hl.map (·.1))[i]? = some G := by simp [hG]
    apply List.ext_getElem? 
    intro j
    rw [List.getElem?_set]
    by_cases e : i = j
    · subst e
      obtain ⟨_, h2⟩ := List.getElem?_eq_some_iff.1 hG
      simp [hi', h2]
    · simp [e]
  · rw [List.map_set, List.drop_set_of_lt (by omega)]
    have := congrArg (List.drop 1) h.rest
    simpa [List.drop_drop, Nat.add_comm] using this
  · rw [List.map_set]
    have e1 : ((hl.map (·.2)).set i x').take (i + 1) = (hl.map (·.2)).take i ++ [x'] := by
      have hlt : i < (hl.map (·.2)).length := by simpa using hi'
      rw [List.take_succ_eq_append_getElem (by simpa using hi'), List.take_set_of_le (Nat.le_refl _)]
      simp
    rw [e1, List.append_assoc, List.singleton_append, ← hfl, ← h3]
    exact h.done
theorem MkI.fin (h : MkI B fl sm l gl k i hl r) (hi : l.length ≤ i) (hnil : ∀ r, fl [] r = []) (hsm : sm [] = 0) : hl.map (·.2) = fl l k ∧ r = k + sm l := by
  have h1 := h.done
  have h2 := h.rs
  rw [List.drop_eq_nil_of_le hi] at h1 h2
  rw [hnil, List.append_nil, List.take_of_length_le (by simp [h.len]; omega)] at h1
  rw [hsm] at h2
  exact ⟨h1, by omega⟩
theorem MkI.bound (h : MkI B fl sm l gl k i hl r) (d : α) (hi : i < l.length) {n : Nat} (hsm : ∀ xs, sm (l.getD i d :: xs) = n + sm xs) : r + n ≤ k + sm l := by
  have hr := h.rs
  have h3 : l.drop i = l.getD i d :: l.drop (i + 1) := by
    rw [List.drop_eq_getElem_cons hi, List.getD_eq_getElem?_getD, List.getElem?_eq_getElem hi]; rfl
  rw [h3, hsm] at hr
  omega
end
section
variable {P : Program} {a : Nat → AV} {S : St}
theorem EndM.ret {rs : List ResultVar} {L : OwnL} {r : AV} {bs' : List AV} {v : AV} (T : Tab P) (h : tup2 T rs a S = some v) (hv : v = r) (hh : ∀ (q : Nat) (I : Gh) (b : AV), L[q]? = some (I, b) → Has a S I (bs'.getD q .undef)) : EndM P rs L r bs' .ret a S := by
  obtain ⟨vs, h1, h2⟩ := tup2_ok h
  exact ⟨.inr rfl, ⟨vs, h1, h2.trans hv⟩, hh⟩
theorem EndM.normal {rs : List ResultVar} {L : OwnL} {r : AV} {bs' : List AV} {v : AV} (T : Tab P) (h : tup2 T rs a S = some v) (hv : v = r) (hh : ∀ (q : Nat) (I : Gh) (b : AV), L[q]? = some (I, b) → Has a S I (bs'.getD q .undef)) : EndM P rs L r bs' .normal a S := by
  obtain ⟨vs, h1, h2⟩ := tup2_ok h
  exact ⟨.inl rfl, ⟨vs, h1, h2.trans hv⟩, hh⟩
end
section
variable {P : Program} {T : Tab P} {rows : List Nat} {ops : Array Oper} {con : Nat → CK} {pi ids : List Nat} {Post : (Nat → AV) → St → Prop} {a : Nat → AV} {S : St} {H : Nat → Prop}
theorem QR.re {l : List (Nat × Oper)} {v' : AV} (d : Nat) (v : AV) (ha : a d = v') (hv : v' = v) (h : QR T rows ops con pi ids Post l (upd a (some d) v) S H) : QR T rows ops con pi ids Post l a S H := by
  have e : upd a (some d) v = a := by funext t; simp only [upd]; split <;> simp_all
  rw [e] at h
  exact h
end
end Go.Fw
