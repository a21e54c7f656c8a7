/-
  A block of the store is made, written or grown.
-/
import Derived.Test.YthholadaflfpcaaFwD
namespace Go.Fw
open Go Go.RowKit

def St.OK (S S' : St) (id : Nat) (ob : AObj) : Prop := S.length ≤ S'.length ∧ id < S'.length ∧ ∀ i, S'.at i = if i = id then some ob else S.at i

theorem St.at_ge {S : St} {i : Nat} (h : S.length ≤ i) : S.at i = none := by
  simp [St.at, List.getElem?_eq_none h]

theorem St.lt_of_at {S : St} {i : Nat} {o : AObj} (h : S.at i = some o) : i < S.length := by
  rcases Nat.lt_or_ge i S.length with h' | h'
  · exact h'
  · rw [St.at_ge h'] at h; cases h

theorem St.ok_new (S : St) (ob : AObj) : St.OK S (S ++ [some ob]) S.length ob := by
  refine ⟨by simp, by simp, fun i => ?_⟩
  by_cases h : i = S.length
  · subst h; simp [St.at]
  · rw [if_neg h]
    rcases Nat.lt_or_ge i S.length with h' | h'
    · simp [St.at, List.getElem?_append_left h']
    · rw [St.at_ge (by simp; omega), St.at_ge h']

theorem St.ok_set {S : St} {id : Nat} (h : id < S.length) (ob : AObj) : St.OK S (S.set id (some ob)) id ob := by
  refine ⟨by simp, by simp [h], fun i => ?_⟩
  by_cases e : i = id
  · subst e; simp [St.at, h]
  · rw [if_neg e]; simp [St.at, List.getElem?_set, Ne.symm e]

theorem Sim.lt {F : Nat → Prop} {φ : Nat → Nat} {S : St} {w : World} (hs : Sim F φ S w) {i : Nat} {o : AObj} (h : S.at i = some o) (hne : o.els ≠ []) : φ i < w.heap.size := by
  obtain ⟨C, hC, _⟩ := hs.obj i o h hne
  exact (Array.getElem?_eq_some_iff.1 hC).1

def phi (φ : Nat → Nat) (id b : Nat) : Nat → Nat := fun i => if i = id then b else φ i

theorem Sim.put {F : Nat → Prop} {φ : Nat → Nat} {S S' : St} {w w' : World} (hs : Sim F φ S w) (id b : Nat) (ob : AObj) (C : Array Value) (hS : St.OK S S' id ob)
    (hid : id = S.length ∨ ∃ o, S.at id = some o ∧ o.sz = ob.sz ∧ o.ty = ob.ty ∧ o.els.length ≤ ob.els.length ∧ (o.els.length = ob.els.length → b = φ id))
    (hb : (b = φ id ∧ (∃ o, S.at id = some o ∧ o.els ≠ []) ∧ ∀ C0 ty fr, w.heap[φ id]? = some (Obj.cells C0 ty fr) → C.size = C0.size) ∨ w.heap.size ≤ b)
    (hos : w'.os = w.os) (htape : w'.tape = w.tape) (hout : w'.output = w.output) (hsize : w.heap.size ≤ w'.heap.size)
    (hun : ∀ k, k < w.heap.size → k ≠ b → w'.heap[k]? = w.heap[k]?) (hC : w'.heap[b]? = some (Obj.cells C ob.ty (0, 0)))
    (hsz : ob.els.length * ob.sz ≤ C.size)
    (hcells : ∀ j k, j < ob.els.length → (ob.els.getD j []).length = ob.sz ∧ (k < ob.sz → ∃ v, C[j * ob.sz + k]? = some v ∧ v.oneCell' = true ∧ VR φ S (OO F φ S) w ((ob.els.getD j []).getD k .undef) v)) :
    Sim F (phi φ id b) S' w' ∧ Evo φ S w (phi φ id b) S' w' := by
  obtain ⟨hlen, hidl, hat⟩ := hS
  have hold : ∀ i o, i ≠ id → S'.at i = some o → S.at i = some o := fun i o hne h => by rw [hat, if_neg hne] at h; exact h
  have hphi : ∀ i o, i ≠ id → S.at i = some o → o.els ≠ [] → φ i ≠ b := by
    intro i o hne h hn
    rcases hb with ⟨rfl, ⟨o', ho', hn'⟩, _⟩ | hge
    · exact fun e => hne (hs.inj i id o o' h hn ho' hn' e)
    · exact Nat.ne_of_lt (Nat.lt_of_lt_of_le (hs.lt h hn) hge)
  have hown : ∀ k, Own (phi φ id b) S' k → k = b ∨ Own φ S k := by
    rintro k ⟨i, o, ho, hn, rfl⟩
    by_cases e : i = id
    · subst e; exact .inl (by simp [phi])
    · exact .inr ⟨i, o, hold i o e ho, hn, by simp [phi, e]⟩
  have evo : Evo φ S w (phi φ id b) S' w' := by
    refine ⟨hos, htape, hout, hsize, hlen, fun k hk hn => ?_, fun k C0 ty fr h0 => ?_, fun k hk ho => ?_, fun i o hi h => ?_⟩
    · refine hun k hk fun e => ?_
      subst e
      rcases hb with ⟨rfl, ⟨o', ho', hn'⟩, _⟩ | hge
      · exact hn ⟨id, o', ho', hn', rfl⟩
      · omega
    · by_cases e : k = b
      · subst e
        rcases hb with ⟨rfl, hl, hcs⟩ | hge
        · exact ⟨C, ob.ty, (0, 0), hC, hcs _ _ _ h0⟩
        · have := (Array.getElem?_eq_some_iff.1 h0).1; omega
      · exact ⟨C0, ty, fr, (hun k (Array.getElem?_eq_some_iff.1 h0).1 e).trans h0, rfl⟩
    · rcases hown k ho with rfl | h
      · rcases hb with ⟨rfl, ⟨o', ho', hn'⟩, _⟩ | hge
        · exact ⟨id, o', ho', hn', rfl⟩
        · omega
      · exact h
    · by_cases e : i = id
      · subst e
        rw [hat, if_pos rfl] at h
        cases h
        rcases hid with rfl | ⟨o', ho', h1, h2, h3, h4⟩
        · omega
        · exact ⟨o', ho', h1, h2, h3, fun e => by simp [phi, h4 e]⟩
      · exact ⟨o, hold i o e h, rfl, rfl, Nat.le_refl _, fun _ => by simp [phi, e]⟩
  refine ⟨⟨fun k hk => Nat.lt_of_lt_of_le (hs.fl k hk) hsize, fun i o ho hn => ?_, fun i j oi oj hi hni hj hnj e => ?_, fun i o ho hn => ?_⟩, evo⟩
  · by_cases e : i = id
    · subst e
      simp only [phi, if_true]
      intro hf
      rcases hb with ⟨rfl, ⟨o', ho', hn'⟩, _⟩ | hge
      · exact hs.nf i o' ho' hn' hf
      · exact absurd (Nat.lt_of_lt_of_le (hs.fl _ hf) hge) (Nat.lt_irrefl _)
    · simp only [phi, e, if_false]; exact hs.nf i o (hold i o e ho) hn
  · by_cases ei : i = id
    · by_cases ej : j = id
      · rw [ei, ej]
      · subst ei; simp only [phi, if_true, if_neg ej] at e; exact absurd e.symm (hphi j oj ej (hold j oj ej hj) hnj)
    · by_cases ej : j = id
      · subst ej; simp only [phi, if_true, if_neg ei] at e; exact absurd e (hphi i oi ei (hold i oi ei hi) hni)
      · simp only [phi, if_neg ei, if_neg ej] at e; exact hs.inj i j oi oj (hold i oi ei hi) hni (hold j oj ej hj) hnj e
  · by_cases e : i = id
    · subst e
      rw [hat, if_pos rfl] at ho
      cases ho
      refine ⟨C, by simpa [phi] using hC, hsz, fun j k hj => ⟨(hcells j k hj).1, fun hk => ?_⟩⟩
      obtain ⟨v, h1, h2, h3⟩ := (hcells j k hj).2 hk
      exact ⟨v, h1, h2, h3.evo evo⟩
    · obtain ⟨C0, h0, h1, h2⟩ := hs.obj i o (hold i o e ho) hn
      refine ⟨C0, ?_, h1, fun j k hj => ⟨(h2 j k hj).1, fun hk => ?_⟩⟩
      · simp only [phi, e, if_false]
        rw [hun _ (hs.lt (hold i o e ho) hn) (hphi i o e (hold i o e ho) hn)]
        exact h0
      · obtain ⟨v, h3, h4, h5⟩ := (h2 j k hj).2 hk
        exact ⟨v, h3, h4, h5.evo evo⟩

/-- A new block. -/
theorem Sim.alloc {F : Nat → Prop} {φ : Nat → Nat} {S : St} {w : World} (hs : Sim F φ S w) (ob : AObj) (C : Array Value) (hsz : ob.els.length * ob.sz ≤ C.size)
    (hcells : ∀ j k, j < ob.els.length → (ob.els.getD j []).length = ob.sz ∧ (k < ob.sz → ∃ v, C[j * ob.sz + k]? = some v ∧ v.oneCell' = true ∧ VR φ S (OO F φ S) w ((ob.els.getD j []).getD k .undef) v)) :
    Sim F (phi φ S.length w.heap.size) (S ++ [some ob]) { w with heap := w.heap.push (.cells C ob.ty) } ∧ Evo φ S w (phi φ S.length w.heap.size) (S ++ [some ob]) { w with heap := w.heap.push (.cells C ob.ty) } := by
  refine hs.put S.length w.heap.size ob C (St.ok_new S ob) (.inl rfl) (.inr (Nat.le_refl _)) rfl rfl rfl (by simp) (fun k hk _ => ?_) (by simp) hsz hcells
  show (w.heap.push _)[k]? = _
  rw [Array.getElem?_push, if_neg (by omega)]

end Go.Fw
