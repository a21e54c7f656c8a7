/-
  The words of a small Hoare logic over an abstract store: abstract values, what they say of the world, how a world goes on.
-/
import Derived.WalkKit
import Derived.Deep.LoopGhost
import Derived.Deep.Quiet
namespace Go.Fw
open Go Go.RowKit

/-- What a value of one's own is: its blocks, and the value itself. -/
structure Gh where
  bl : Nat → Prop
  val : Value
instance : CoeFun Gh (fun _ => Nat → Prop) := ⟨Gh.bl⟩

inductive AV where
  | undef
  | int (k : IntKind) (n : Int)
  | bool (b : Bool)
  | str (s : ByteArray)
  | nsl
  | sl (id n : Nat)
  | isl (sz n : Nat) (get : Nat → List AV)
  | win (id n lo len : Nat)
  | nptr
  | ptr (id n i off : Nat)
  | iptr (cells : List AV)
  | nfn
  | fn (f : FuncId) (first caps : List AV)
  | agg (cs : List AV)
  | tup (vs : List AV)
  | own (I : Gh) (b : AV)

/-- An owned block: elements of sz cells each. -/
structure AObj where
  ty : TypeId
  sz : Nat
  els : List (List AV)

abbrev St := List (Option AObj)
def St.at (S : St) (i : Nat) : Option AObj := (S[i]?).getD none

/-- A value that refers to no owned block: what it reads lies in blocks outside O. -/
inductive VI (O : Nat → Prop) (w : World) : AV → Value → Prop
  | undef (v : Value) : VI O w .undef v
  | int (k : IntKind) (n : Int) : VI O w (.int k n) (.int k n)
  | bool (b : Bool) : VI O w (.bool b) (.bool b)
  | str (s : ByteArray) : VI O w (.str s) (.string s)
  | nsl : VI O w .nsl (.slice none 0 0)
  | isl {sz n cap : Nat} {get : Nat → List AV} {A : Option Addr} (vals : Nat → Nat → Value) : n ≤ cap → cap ≤ maxLen →
      (0 < n → ∃ a : Addr, A = some a ∧ a.spot = none ∧ ∀ i j, i < n → j < (get i).length → ¬ O a.block ∧ w.cell? ⟨a.block, a.off + i * sz + j, none⟩ = some (vals i j)) →
      (∀ i j, i < n → j < (get i).length → VI O w ((get i).getD j .undef) (vals i j)) → VI O w (.isl sz n get) (.slice A n cap)
  | nptr : VI O w .nptr (.pointer none)
  | iptr {cells : List AV} {a : Addr} (vals : Nat → Value) : a.spot = none →
      (0 < cells.length → ¬ O a.block ∧ ∀ j, j < cells.length → w.cell? ⟨a.block, a.off + j, none⟩ = some (vals j)) →
      (∀ j, j < cells.length → VI O w (cells.getD j .undef) (vals j)) → VI O w (.iptr cells) (.pointer (some a))
  | nfn : VI O w .nfn .nilFunc
  | fn {f : FuncId} {first caps : List AV} {us vs : Array Value} : us.size = first.length → (∀ j, j < first.length → VI O w (first.getD j .undef) (us.getD j undef)) → vs.size = caps.length → (∀ j, j < caps.length → VI O w (caps.getD j .undef) (vs.getD j undef)) → VI O w (.fn f first caps) (.func (.func f) us vs)
  | agg {cs : List AV} {vs : Array Value} : vs.size = cs.length → (∀ j, j < cs.length → VI O w (cs.getD j .undef) (vs.getD j undef)) → VI O w (.agg cs) (.agg vs)
  | tup {cs : List AV} {vs : Array Value} : vs.size = cs.length → (∀ j, j < cs.length → VI O w (cs.getD j .undef) (vs.getD j undef)) → VI O w (.tup cs) (.tuple vs)

/-- A value whose memory is its own: the blocks are those of I, each met once; by value it is b. -/
inductive Phys (w : World) : (Nat → Prop) → AV → Value → Prop
  | int (k : IntKind) (n : Int) : Phys w (fun _ => False) (.int k n) (.int k n)
  | bool (b : Bool) : Phys w (fun _ => False) (.bool b) (.bool b)
  | str (s : ByteArray) : Phys w (fun _ => False) (.str s) (.string s)
  | emp {sz cap : Nat} {get : Nat → List AV} {A : Option Addr} : cap ≤ maxLen → Phys w (fun _ => False) (.isl sz 0 get) (.slice A 0 cap)
  | isl {b : Nat} {ty : TypeId} {sz n cap : Nat} {get : Nat → List AV} {C : Array Value} (I : Nat → Nat → Nat → Prop) : n ≤ cap → cap ≤ maxLen → w.heap[b]? = some (Obj.cells C ty (0, 0)) → C.size = cap * sz →
      (∀ i, i < n → (get i).length = sz) → (∀ i j, i < n → j < sz → (C.getD (i * sz + j) undef).oneCell' = true) → (∀ i j, i < n → j < sz → Phys w (I i j) ((get i).getD j .undef) (C.getD (i * sz + j) undef)) →
      (∀ i j, i < n → j < sz → ¬ I i j b) → (∀ i j i' j' x, i < n → j < sz → i' < n → j' < sz → I i j x → I i' j' x → i = i' ∧ j = j') →
      Phys w (fun x => x = b ∨ ∃ i j, i < n ∧ j < sz ∧ I i j x) (.isl sz n get) (.slice (some ⟨b, 0, none⟩) n cap)
  | agg {cs : List AV} {vs : Array Value} (I : Nat → Nat → Prop) : vs.size = cs.length → (∀ j, j < cs.length → Phys w (I j) (cs.getD j .undef) (vs.getD j undef)) → (∀ j j' x, j < cs.length → j' < cs.length → I j x → I j' x → j = j') →
      Phys w (fun x => ∃ j, j < cs.length ∧ I j x) (.agg cs) (.agg vs)

theorem Phys.lt {w : World} {I : Nat → Prop} {b : AV} {v : Value} (h : Phys w I b v) : ∀ x, I x → x < w.heap.size := by
  induction h with
  | int | bool | str | emp => intro x hx; exact hx.elim
  | isl I h1 h2 h3 h4 h5 h6 h7 h8 h9 ih =>
    rintro x (rfl | ⟨i, j, hi, hj, hx⟩)
    · exact (Array.getElem?_eq_some_iff.1 h3).1
    · exact ih i j hi hj x hx
  | agg I h1 h2 h3 ih => rintro x ⟨j, hj, hx⟩; exact ih j hj x hx

theorem Phys.move {w w' : World} {I : Nat → Prop} {b : AV} {v : Value} (h : Phys w I b v) (hm : ∀ x, I x → w'.heap[x]? = w.heap[x]?) : Phys w' I b v := by
  induction h with
  | int k n => exact .int k n
  | bool b => exact .bool b
  | str s => exact .str s
  | emp h => exact .emp h
  | isl I h1 h2 h3 h4 h5 h6 h7 h8 h9 ih => exact .isl I h1 h2 ((hm _ (.inl rfl)).trans h3) h4 h5 h6 (fun i j hi hj => ih i j hi hj fun x hx => hm x (.inr ⟨i, j, hi, hj, hx⟩)) h8 h9
  | agg I h1 h2 h3 ih => exact .agg I h1 (fun j hj => ih j hj fun x hx => hm x ⟨j, hj, hx⟩) h3

def Own (φ : Nat → Nat) (S : St) (b : Nat) : Prop := ∃ i o, S.at i = some o ∧ o.els ≠ [] ∧ φ i = b
def OO (F : Nat → Prop) (φ : Nat → Nat) (S : St) (b : Nat) : Prop := F b ∨ Own φ S b

/-- A value in a world: φ tells the block of each owned object. A reference whose object has grown since says nothing any more. -/
inductive VR (φ : Nat → Nat) (S : St) (O : Nat → Prop) (w : World) : AV → Value → Prop
  | pure {av : AV} {v : Value} : VI O w av v → VR φ S O w av v
  | sl {id n : Nat} {v : Value} : v.oneCell' = true → id < S.length →
      (∀ o, S.at id = some o → n ≤ o.els.length ∧ (n = o.els.length → (n = 0 ∧ ∃ A cap, v = .slice A 0 cap ∧ cap ≤ maxLen ∧ (cap = 0 ∨ o.ty = 0)) ∨ (0 < n ∧ ∃ cap : Nat, v = .slice (some ⟨φ id, 0, none⟩) n cap ∧ n ≤ cap ∧ cap ≤ maxLen ∧
        ∃ (C : Array Value) (ty : TypeId) (fr : Nat × Nat), w.heap[φ id]? = some (Obj.cells C ty fr) ∧ C.size = cap * o.sz))) → VR φ S O w (.sl id n) v
  | ptr {id n i off : Nat} {v : Value} : v.oneCell' = true → id < S.length →
      (∀ o, S.at id = some o → n ≤ o.els.length ∧ (n = o.els.length → v = .pointer (some ⟨φ id, i * o.sz + off, none⟩))) → VR φ S O w (.ptr id n i off) v
  | win {id n lo len : Nat} {v : Value} : v.oneCell' = true → id < S.length →
      (∀ o, S.at id = some o → n ≤ o.els.length ∧ (n = o.els.length → 0 < n ∧ lo + len ≤ n ∧ ∃ (A : Option Addr) (cap : Nat), v = .slice A len cap ∧ (0 < cap → A = some ⟨φ id, lo * o.sz, none⟩) ∧ len ≤ cap ∧ cap ≤ maxLen ∧
        ∃ (C : Array Value) (ty : TypeId) (fr : Nat × Nat), w.heap[φ id]? = some (Obj.cells C ty fr) ∧ C.size = (lo + cap) * o.sz)) → VR φ S O w (.win id n lo len) v
  | fn {f : FuncId} {first caps : List AV} {us vs : Array Value} : us.size = first.length → (∀ j, j < first.length → VR φ S O w (first.getD j .undef) (us.getD j undef)) → vs.size = caps.length → (∀ j, j < caps.length → VR φ S O w (caps.getD j .undef) (vs.getD j undef)) → VR φ S O w (.fn f first caps) (.func (.func f) us vs)
  | agg {cs : List AV} {vs : Array Value} : vs.size = cs.length → (∀ j, j < cs.length → VR φ S O w (cs.getD j .undef) (vs.getD j undef)) → VR φ S O w (.agg cs) (.agg vs)
  | tup {cs : List AV} {vs : Array Value} : vs.size = cs.length → (∀ j, j < cs.length → VR φ S O w (cs.getD j .undef) (vs.getD j undef)) → VR φ S O w (.tup cs) (.tuple vs)
  | own {I : Gh} {b : AV} {v : Value} : (∀ x, I x → O x) → (∀ x, I x → ¬ Own φ S x) → Phys w I.bl b v → v = I.val → VR φ S O w (.own I b) v

/-- How what others own grows: by new blocks. -/
structure Gro (F : Nat → Prop) (w : World) (F' : Nat → Prop) : Prop where
  sub : ∀ x, F x → F' x
  new : ∀ x, F' x → F x ∨ w.heap.size ≤ x

theorem Gro.refl (F : Nat → Prop) (w : World) : Gro F w F := ⟨fun _ h => h, fun _ h => .inl h⟩
theorem Gro.trans {F F1 F2 : Nat → Prop} {w w1 : World} (h : Gro F w F1) (k : Gro F1 w1 F2) (hw : w.heap.size ≤ w1.heap.size) : Gro F w F2 :=
  ⟨fun x hx => k.sub x (h.sub x hx), fun x hx => (k.new x hx).elim (fun hx => h.new x hx) (fun hx => .inr (Nat.le_trans hw hx))⟩


structure Sim (F : Nat → Prop) (φ : Nat → Nat) (S : St) (w : World) : Prop where
  fl : ∀ b, F b → b < w.heap.size
  nf : ∀ i o, S.at i = some o → o.els ≠ [] → ¬ F (φ i)
  inj : ∀ i j o o', S.at i = some o → o.els ≠ [] → S.at j = some o' → o'.els ≠ [] → φ i = φ j → i = j
  obj : ∀ i o, S.at i = some o → o.els ≠ [] → ∃ C : Array Value, w.heap[φ i]? = some (Obj.cells C o.ty (0, 0)) ∧ o.els.length * o.sz ≤ C.size ∧
    ∀ j k, j < o.els.length → ((o.els.getD j []).length = o.sz) ∧ (k < o.sz → ∃ v, C[j * o.sz + k]? = some v ∧ v.oneCell' = true ∧ VR φ S (OO F φ S) w ((o.els.getD j []).getD k .undef) v)

/-- How a world goes on. -/
structure Evo (φ : Nat → Nat) (S : St) (w : World) (φ' : Nat → Nat) (S' : St) (w' : World) : Prop where
  os : w'.os = w.os
  tape : w'.tape = w.tape
  output : w'.output = w.output
  hsize : w.heap.size ≤ w'.heap.size
  len : S.length ≤ S'.length
  unch : ∀ b : Nat, b < w.heap.size → ¬ Own φ S b → w'.heap[b]? = w.heap[b]?
  csize : ∀ (b : Nat) (C : Array Value) (ty : TypeId) (fr : Nat × Nat), w.heap[b]? = some (Obj.cells C ty fr) → ∃ (C' : Array Value) (ty' : TypeId) (fr' : Nat × Nat), w'.heap[b]? = some (Obj.cells C' ty' fr') ∧ C'.size = C.size
  own : ∀ b : Nat, b < w.heap.size → Own φ' S' b → Own φ S b
  old : ∀ i o', i < S.length → S'.at i = some o' → ∃ o, S.at i = some o ∧ o.sz = o'.sz ∧ o.ty = o'.ty ∧ o.els.length ≤ o'.els.length ∧ (o.els.length = o'.els.length → φ' i = φ i)

theorem Evo.refl (φ : Nat → Nat) (S : St) (w : World) : Evo φ S w φ S w :=
  ⟨rfl, rfl, rfl, Nat.le_refl _, Nat.le_refl _, fun _ _ _ => rfl, fun _ C ty fr h => ⟨C, ty, fr, h, rfl⟩, fun _ _ h => h, fun _ o _ h => ⟨o, h, rfl, rfl, Nat.le_refl _, fun _ => rfl⟩⟩

theorem Evo.trans {φ φ1 φ2 : Nat → Nat} {S S1 S2 : St} {w w1 w2 : World} (h : Evo φ S w φ1 S1 w1) (k : Evo φ1 S1 w1 φ2 S2 w2) : Evo φ S w φ2 S2 w2 where
  os := k.os.trans h.os
  tape := k.tape.trans h.tape
  output := k.output.trans h.output
  hsize := Nat.le_trans h.hsize k.hsize
  len := Nat.le_trans h.len k.len
  unch b hb hn := (k.unch b (Nat.lt_of_lt_of_le hb h.hsize) (fun ho => hn (h.own b hb ho))).trans (h.unch b hb hn)
  csize b C ty fr hc := by
    obtain ⟨C1, t1, f1, h1, e1⟩ := h.csize b C ty fr hc
    obtain ⟨C2, t2, f2, h2, e2⟩ := k.csize b C1 t1 f1 h1
    exact ⟨C2, t2, f2, h2, e2.trans e1⟩
  own b hb ho := h.own b hb (k.own b (Nat.lt_of_lt_of_le hb h.hsize) ho)
  old i o2 hi h2 := by
    obtain ⟨o1, a1, b1, b1', c1, d1⟩ := k.old i o2 (Nat.lt_of_lt_of_le hi h.len) h2
    obtain ⟨o, a, b, b', c, d⟩ := h.old i o1 hi a1
    exact ⟨o, a, b.trans b1, b'.trans b1', Nat.le_trans c c1, fun e => (d1 (by omega)).trans (d (by omega))⟩

theorem cell_lt {w : World} {b k : Nat} {v : Value} (h : w.cell? ⟨b, k, none⟩ = some v) : b < w.heap.size := World.block_lt_of_cell? w _ h

theorem cell_of_heap {w w' : World} {b k : Nat} (h : w'.heap[b]? = w.heap[b]?) : w'.cell? ⟨b, k, none⟩ = w.cell? ⟨b, k, none⟩ := by
  simp only [World.cell?, h]

/-- Pure values: what they read is as it was. -/
theorem VI.move {O O' : Nat → Prop} {w w' : World} {av : AV} {v : Value} (h : VI O w av v)
    (hm : ∀ b k u, ¬ O b → w.cell? ⟨b, k, none⟩ = some u → w'.cell? ⟨b, k, none⟩ = some u) (hO : ∀ b k u, ¬ O b → w.cell? ⟨b, k, none⟩ = some u → ¬ O' b) : VI O' w' av v := by
  induction h with
  | undef v => exact .undef v
  | int k n => exact .int k n
  | bool b => exact .bool b
  | str s => exact .str s
  | nsl => exact .nsl
  | @isl sz n cap get A vals h1 h2 h3 h4 ih =>
    refine .isl vals h1 h2 (fun hn => ?_) ih
    obtain ⟨a, e, s, hc⟩ := h3 hn
    exact ⟨a, e, s, fun i j hi hj => ⟨hO _ _ _ (hc i j hi hj).1 (hc i j hi hj).2, hm _ _ _ (hc i j hi hj).1 (hc i j hi hj).2⟩⟩
  | nptr => exact .nptr
  | @iptr cells a vals h1 h2 h3 ih =>
    refine .iptr vals h1 (fun hn => ?_) ih
    obtain ⟨ho, hc⟩ := h2 hn
    exact ⟨hO _ _ _ ho (hc 0 hn), fun j hj => hm _ _ _ ho (hc j hj)⟩
  | nfn => exact .nfn
  | fn h1 h2 h3 h4 ih1 ih2 => exact .fn h1 ih1 h3 ih2
  | agg h1 h2 ih => exact .agg h1 ih
  | tup h1 h2 ih => exact .tup h1 ih


theorem VI.evo' {F F' : Nat → Prop} {φ φ' : Nat → Nat} {S S' : St} {w w' : World} {av : AV} {v : Value} (h : VI (OO F φ S) w av v) (e : Evo φ S w φ' S' w') (g : Gro F w F') : VI (OO F' φ' S') w' av v := by
  refine h.move (fun b k u hb hc => ?_) (fun b k u hb hc => ?_)
  · rw [cell_of_heap (e.unch b (cell_lt hc) (fun ho => hb (.inr ho)))]; exact hc
  · rintro (hf | ho)
    · rcases g.new b hf with hf | hf
      · exact hb (.inl hf)
      · have := cell_lt hc; omega
    · exact hb (.inr (e.own b (cell_lt hc) ho))

theorem VI.evo {F : Nat → Prop} {φ φ' : Nat → Nat} {S S' : St} {w w' : World} {av : AV} {v : Value} (h : VI (OO F φ S) w av v) (e : Evo φ S w φ' S' w') : VI (OO F φ' S') w' av v := h.evo' e (Gro.refl F w)

theorem VR.evo' {F F' : Nat → Prop} {φ φ' : Nat → Nat} {S S' : St} {w w' : World} {av : AV} {v : Value} (h : VR φ S (OO F φ S) w av v) (e : Evo φ S w φ' S' w') (g : Gro F w F') : VR φ' S' (OO F' φ' S') w' av v := by
  induction h with
  | pure h => exact .pure (h.evo' e g)
  | @sl id n v h1c hl hs =>
    refine .sl h1c (Nat.lt_of_lt_of_le hl e.len) fun o' ho' => ?_
    obtain ⟨o, ho, hz, hty, hle, hφ⟩ := e.old id o' hl ho'
    obtain ⟨hn, hv⟩ := hs o ho
    refine ⟨Nat.le_trans hn hle, fun heq => ?_⟩
    have heq' : n = o.els.length := by omega
    rcases hv heq' with ⟨h0, hv⟩ | ⟨h0, cap, rfl, h1, h2, C, ty, fr, hC, hsz⟩
    · rw [hty] at hv; exact .inl ⟨h0, hv⟩
    obtain ⟨C', ty', fr', hC', hsz'⟩ := e.csize _ _ _ _ hC
    have hφ' := hφ (by omega)
    exact .inr ⟨h0, cap, by rw [hφ'], h1, h2, C', ty', fr', by rw [hφ']; exact hC', by rw [hsz', ← hz]; exact hsz⟩
  | @win id n lo len v h1c hl hs =>
    refine .win h1c (Nat.lt_of_lt_of_le hl e.len) fun o' ho' => ?_
    obtain ⟨o, ho, hz, hty, hle, hφ⟩ := e.old id o' hl ho'
    obtain ⟨hn, hv⟩ := hs o ho
    refine ⟨Nat.le_trans hn hle, fun heq => ?_⟩
    have heq' : n = o.els.length := by omega
    obtain ⟨h0, h1, A, cap, rfl, h2, h3, h4, C, ty, fr, hC, hsz⟩ := hv heq'
    obtain ⟨C', ty', fr', hC', hsz'⟩ := e.csize _ _ _ _ hC
    have hφ' := hφ (by omega)
    exact ⟨h0, h1, A, cap, rfl, by rw [hφ', ← hz]; exact h2, h3, h4, C', ty', fr', by rw [hφ']; exact hC', by rw [hsz', ← hz]; exact hsz⟩
  | @ptr id n i off v h1c hl hs =>
    refine .ptr h1c (Nat.lt_of_lt_of_le hl e.len) fun o' ho' => ?_
    obtain ⟨o, ho, hz, _, hle, hφ⟩ := e.old id o' hl ho'
    obtain ⟨hn, hv⟩ := hs o ho
    refine ⟨Nat.le_trans hn hle, fun heq => ?_⟩
    rw [hv (by omega), hφ (by omega), hz]
  | fn h1 h2 h3 h4 ih1 ih2 => exact .fn h1 ih1 h3 ih2
  | agg h1 h2 ih => exact .agg h1 ih
  | tup h1 h2 ih => exact .tup h1 ih
  | @own I b v h1 h2 h3 h4 =>
    refine .own (fun x hx => ?_) (fun x hx ho => h2 x hx (e.own x (h3.lt x hx) ho)) (h3.move fun x hx => e.unch x (h3.lt x hx) (h2 x hx)) h4
    rcases h1 x hx with hf | ho
    · exact .inl (g.sub x hf)
    · exact (h2 x hx ho).elim

theorem VR.evo {F : Nat → Prop} {φ φ' : Nat → Nat} {S S' : St} {w w' : World} {av : AV} {v : Value} (h : VR φ S (OO F φ S) w av v) (e : Evo φ S w φ' S' w') : VR φ' S' (OO F φ' S') w' av v := h.evo' e (Gro.refl F w)

theorem ne_of_lt_len {l : List (List AV)} {n i : Nat} (h : l.length = n) (hi : i < n) : l ≠ [] := by
  intro e; rw [e] at h; simp at h; omega

end Go.Fw
