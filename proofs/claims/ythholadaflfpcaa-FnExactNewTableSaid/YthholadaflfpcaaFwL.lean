/-
  Operations run by computing.
-/
import Derived.Test.YthholadaflfpcaaFwK
namespace Go.Fw
open Go Go.RowKit

inductive TK where
  | bool | int (k : IntKind) | str | slice (e : TypeId) | struct | other
  deriving DecidableEq

def kindOf : TypeDesc → TK
  | .bool => .bool
  | .int k => .int k
  | .string => .str
  | .slice e => .slice e
  | .struct _ => .struct
  | _ => .other

structure TI where
  kd : TK
  z : Value
  sz : Nat
  agg : Bool
  bytes : Nat
  offs : List (Nat × Nat)

/-- What a row of a table says. -/
structure TIok (P : Program) (t : TypeId) (i : TI) : Prop where
  ty : ∃ d, TY P t d i.z i.sz i.bytes ∧ kindOf d = i.kd ∧ aggD d = i.agg
  one : (decide (i.agg = true ∨ i.sz = 1) && decide (i.z.cells.size = i.sz) && i.z.cells.toList.all (fun u => u.oneCell') && i.offs.all (fun p => decide (p.2 ≠ 0))) = true
  pl : i.offs = [] ∨ PL P t i.offs

inductive BT where
  | nil
  | node (l : BT) (k : Nat) (v : TI) (r : BT)

def BT.find : BT → Nat → Option TI
  | .nil, _ => none
  | .node l k v r, t => if t < k then l.find t else if k < t then r.find t else some v

def BT.All (P : Program) : BT → Prop
  | .nil => True
  | .node l k v r => l.All P ∧ TIok P k v ∧ r.All P

theorem BT.find_ok {P : Program} : ∀ {b : BT}, b.All P → ∀ {t : Nat} {i : TI}, b.find t = some i → TIok P t i
  | .nil, _, t, i, h => by cases h
  | .node l k v r, ha, t, i, h => by
    obtain ⟨h1, h2, h3⟩ := ha
    unfold BT.find at h
    split at h
    · exact find_ok h1 h
    · split at h
      · exact find_ok h3 h
      · rename_i e1 e2
        have : t = k := by omega
        subst this
        simp only [Option.some.injEq] at h
        subst h
        exact h2

theorem mapM_get {α β : Type} {f : α → Option β} : ∀ {l : List α} {r : List β}, l.mapM f = some r → ∀ (j : Nat) (y : β), r[j]? = some y → ∃ x, l[j]? = some x ∧ f x = some y
  | [], r, h, j, y, hy => by simp at h; subst h; simp at hy
  | x :: l, r, h, j, y, hy => by
    simp only [List.mapM_cons, Option.bind_eq_bind, Option.pure_def] at h
    cases hx : f x with
    | none => simp [hx] at h
    | some b =>
      cases hl : l.mapM f with
      | none => simp [hx, hl] at h
      | some bs =>
        simp [hx, hl] at h
        subst h
        cases j with
        | zero => simp at hy; subst hy; exact ⟨x, rfl, hx⟩
        | succ j => simpa using mapM_get hl j y (by simpa using hy)

theorem PL.fa {P : Program} {t : TypeId} {offs : List (Nat × Nat)} (h : PL P t offs) {f off k : Nat} (hf : offs[f]? = some (off, k + 1)) : FA P t f off := by
  obtain ⟨fs, h1, h2⟩ := h
  obtain ⟨fd, h3, h4⟩ := mapM_get h2 f _ hf
  refine ⟨fs, fd, k, h1, by simpa using h3, ?_⟩
  cases hi : P.info? fd.type with
  | none => rw [hi] at h4; cases h4
  | some i => rw [hi] at h4; simp at h4; exact ⟨h4.1, by simp [h4.2]⟩

/-- A table of a program's types. -/
structure Tab (P : Program) where
  at_ : TypeId → Option TI
  ok : ∀ t i, at_ t = some i → TIok P t i

def BT.tab {P : Program} (b : BT) (h : b.All P) : Tab P := ⟨b.find, fun _ _ h' => b.find_ok h h'⟩

theorem TIok.ty' {P : Program} {t : TypeId} {i : TI} (h : TIok P t i) {d : TypeDesc} (hd : TY P t d i.z i.sz i.bytes ∧ kindOf d = i.kd ∧ aggD d = i.agg) : TyI P t i.sz i.agg := hd.1.i hd.2.2

theorem TIok.one' {P : Program} {t : TypeId} {i : TI} (h : TIok P t i) : (i.agg = false → i.sz = 1) ∧ i.z.cells.size = i.sz ∧ (i.z.cells.toList.all fun u => u.oneCell') = true ∧ ∀ p ∈ i.offs, p.2 ≠ 0 := by
  have := h.one
  simp only [Bool.and_eq_true, decide_eq_true_eq, List.all_eq_true] at this
  obtain ⟨⟨⟨h1, h2⟩, h3⟩, h4⟩ := this
  refine ⟨fun hf => ?_, h2, by rw [List.all_eq_true]; exact h3, h4⟩
  rcases h1 with h | h
  · rw [h] at hf; cases hf
  · exact h

theorem TIok.fa {P : Program} {t : TypeId} {i : TI} (h : TIok P t i) {f off k : Nat} (hf : i.offs[f]? = some (off, k)) : FA P t f off := by
  have hne := h.one'.2.2.2 (off, k) (List.mem_of_getElem? hf)
  rcases h.pl with e | hp
  · rw [e] at hf; simp at hf
  · obtain ⟨k', rfl⟩ : ∃ k', k = k' + 1 := ⟨k - 1, by simp at hne; omega⟩
    exact hp.fa hf

def alen (S : St) : AV → Option Nat
  | .nsl => some 0
  | .isl _ n _ => some n
  | .sl id n => match S.at id with
    | some ob => if ob.els.length = n then some n else none
    | none => none
  | _ => none

def isSlice : TK → Bool
  | .slice _ => true
  | _ => false

def stepLen {P : Program} (T : Tab P) (args : List Operand) (ts : List TypeId) (a : Nat → AV) (S : St) : Option (AV × St) :=
  match args, ts with
  | [x], [t] => match T.at_ t with
    | some i => if isSlice i.kd then match alen S (aev a x) with
      | some n => some (.int .i64 n, S)
      | none => none else none
    | none => none
  | _, _ => none

theorem stepLen_ok {P : Program} (T : Tab P) {o : Oper} {a : Nat → AV} {S S' : St} {v : AV} {c : Call} (ho : o.op = .call c) (hc : c.callee = .builtin .len) (h : stepLen T c.args.toList c.argTypes.toList a S = some (v, S')) : OpR P o a S v S' := by
  unfold stepLen at h
  split at h
  case h_2 => cases h
  rename_i x t hx ht
  have ho' : o.op = .call { callee := .builtin .len, args := #[x], argTypes := #[t] } := by
    have e1 : c.args = #[x] := by rw [← Array.toArray_toList (xs := c.args), hx]
    have e2 : c.argTypes = #[t] := by rw [← Array.toArray_toList (xs := c.argTypes), ht]
    rw [ho]
    cases c
    simp only at e1 e2 hc
    subst e1 e2 hc
    rfl
  split at h
  · rename_i i hi
    obtain ⟨d, h1, h1k, _⟩ := (T.ok t i hi).ty
    split at h
    · rename_i hd
      split at h
      · rename_i n hn
        simp only [Option.some.injEq, Prod.mk.injEq] at h; obtain ⟨rfl, rfl⟩ := h
        obtain ⟨e, he⟩ : ∃ e, d = .slice e := by rw [← h1k] at hd; revert hd; cases d <;> simp [isSlice, kindOf]
        refine OpR.len ho' rfl (by rw [← he]; exact h1.1) ?_
        revert hn
        cases hx : aev a x <;> simp [alen]
        · intro e; exact e.symm
        · rename_i id n'
          cases hob : S.at id with
          | none => simp
          | some ob => simp only; intro h; split at h <;> simp_all
      · cases h
    · cases h
  · cases h

def step1 {P : Program} (T : Tab P) (o : Oper) (a : Nat → AV) (S : St) : Option (AV × St) :=
  match o.op with
  | .move x => some (aev a x, S)
  | .assign x => some (aev a x, S)
  | .pick c x y => match aev a c with
    | .bool true => some (aev a x, S)
    | .bool false => some (aev a y, S)
    | _ => none
  | .alloc t => match T.at_ t with
    | some i => some (.ptr S.length 1 0 0, S ++ [some ⟨t, i.sz, [zcells i.z]⟩])
    | none => none
  | .box t x => if (acells (aev a x)).all leaf then some (.ptr S.length 1 0 0, S ++ [some ⟨t, (acells (aev a x)).length, [acells (aev a x)]⟩]) else none
  | .build t parts => match T.at_ t with
    | some i => if i.offs = [] then none else match afill (fun j => i.offs[j]?) (zcells i.z) (parts.toList.map fun p => (p.1, aev a p.2)) with
      | some cells => some (.agg cells, S)
      | none => none
    | none => none
  | .load t x => match T.at_ t with
    | some i => match ald S i.sz i.agg (aev a x) with
      | some v => some (v, S)
      | none => none
    | none => none
  | .store t x y => match T.at_ t, aev a x with
    | some i, .ptr id n j off => match S.at id with
      | some ob => if n = ob.els.length ∧ j < n ∧ off + i.sz ≤ ob.sz ∧ (acells (aev a y)).length = i.sz ∧ (acells (aev a y)).all leaf = true then
          some (.undef, S.set id (some { ob with els := ob.els.set j (splice (ob.els.getD j []) off (acells (aev a y))) })) else none
      | none => none
    | _, _ => none
  | .binOp op t x y _ => match T.at_ t with
    | some i => match aev a x, i.kd with
      | .bool b, .bool => (abin op (.bool b) (aev a y)).map fun v => (v, S)
      | .bool _, _ => none
      | u, _ => (abin op u (aev a y)).map fun v => (v, S)
    | none => none
  | .unOp .not _ x => match aev a x with
    | .bool b => some (.bool (!b), S)
    | _ => none
  | .fieldAddr t x f => match T.at_ t with
    | some i => match i.offs[f]?, aev a x with
      | some (off, _), .ptr id n j m => match S.at id with
        | some ob => if ob.els.length = n ∧ j < n then some (.ptr id n j (m + off), S) else none
        | none => none
      | some (off, _), .iptr cells => some (.iptr (cells.drop off), S)
      | _, _ => none
    | none => none
  | .extract x i => match aev a x with
    | .tup vs => if i < vs.length then some (vs.getD i .undef, S) else none
    | _ => none
  | .makeFunc (.func f) first caps => some (.fn f (first.toList.map (aev a)) (caps.toList.map (aev a)), S)
  | .call c => match c.callee with
    | .builtin .len => stepLen T c.args.toList c.argTypes.toList a S
    | _ => none
  | _ => none

theorem step1_ok {P : Program} (T : Tab P) {o : Oper} {a : Nat → AV} {S S' : St} {v : AV} (h : step1 T o a S = some (v, S')) : OpR P o a S v S' := by
  unfold step1 at h
  split at h
  case h_1 x ho => simp only [Option.some.injEq, Prod.mk.injEq] at h; obtain ⟨rfl, rfl⟩ := h; exact OpR.move ho
  case h_2 x ho => simp only [Option.some.injEq, Prod.mk.injEq] at h; obtain ⟨rfl, rfl⟩ := h; exact OpR.assign ho
  case h_3 c x y ho =>
    split at h
    · rename_i hc; simp only [Option.some.injEq, Prod.mk.injEq] at h; obtain ⟨rfl, rfl⟩ := h; exact OpR.pick (b := true) ho hc
    · rename_i hc; simp only [Option.some.injEq, Prod.mk.injEq] at h; obtain ⟨rfl, rfl⟩ := h; exact OpR.pick (b := false) ho hc
    · cases h
  case h_4 t ho =>
    split at h
    · rename_i i hi
      obtain ⟨d, h1, h1k, h2⟩ := (T.ok t i hi).ty
      obtain ⟨h3, h4, h5, _⟩ := (T.ok t i hi).one'
      simp only [Option.some.injEq, Prod.mk.injEq] at h; obtain ⟨rfl, rfl⟩ := h
      exact OpR.alloc ho h1 h5 (by simp [zcells, h4])
    · cases h
  case h_5 t x ho =>
    split at h
    · rename_i hl; simp only [Option.some.injEq, Prod.mk.injEq] at h; obtain ⟨rfl, rfl⟩ := h; exact OpR.box ho rfl hl
    · cases h
  case h_6 t parts ho =>
    split at h
    · rename_i i hi
      obtain ⟨d, h1, h1k, h2⟩ := (T.ok t i hi).ty
      obtain ⟨h3, h4, h5, _⟩ := (T.ok t i hi).one'
      have h7 : i.offs ≠ [] → PL P t i.offs := fun hne => (T.ok t i hi).pl.resolve_left hne
      split at h
      · cases h
      rename_i hne
      split at h
      · rename_i cells hf
        simp only [Option.some.injEq, Prod.mk.injEq] at h; obtain ⟨rfl, rfl⟩ := h
        exact OpR.build ho h1 (h7 hne) h5 hf
      · cases h
    · cases h
  case h_7 t x ho =>
    split at h
    · rename_i i hi
      obtain ⟨d, h1, h1k, h2⟩ := (T.ok t i hi).ty
      obtain ⟨h3, h4, h5, _⟩ := (T.ok t i hi).one'
      split at h
      · rename_i u hl; simp only [Option.some.injEq, Prod.mk.injEq] at h; obtain ⟨rfl, rfl⟩ := h; exact OpR.load ho rfl (h1.i h2) h3 hl
      · cases h
    · cases h
  case h_8 t x y ho =>
    split at h
    · rename_i i id n j off hi hx
      obtain ⟨d, h1, h1k, h2⟩ := (T.ok t i hi).ty
      obtain ⟨h3, h4, h5, _⟩ := (T.ok t i hi).one'
      split at h
      · rename_i ob hob
        split at h
        · rename_i hc
          obtain ⟨c1, c2, c3, c4, c5⟩ := hc
          simp only [Option.some.injEq, Prod.mk.injEq] at h; obtain ⟨rfl, rfl⟩ := h
          exact OpR.store ho hx rfl (h1.i h2) hob c1 c2 c3 c4 c5
        · cases h
      · cases h
    · cases h
  case h_9 op t x y yt ho =>
    split at h
    · rename_i i hi
      obtain ⟨d, h1, h1k, _⟩ := (T.ok t i hi).ty
      split at h
      · rename_i b hb hd
        simp only [Option.map_eq_some_iff] at h
        obtain ⟨r, hr, h⟩ := h
        cases h
        exact OpR.bin ho hb rfl hr (by
          show P.underlying t = some .bool
          have hdb : d = .bool := by rw [hd] at h1k; revert h1k; cases d <;> simp [kindOf]
          rw [← hdb]; exact h1.1)
      · cases h
      · rename_i u hu _ 
        simp only [Option.map_eq_some_iff] at h
        obtain ⟨r, hr, h⟩ := h
        cases h
        refine OpR.bin ho rfl rfl hr ?_
        generalize aev a x = u' at *
        cases u' <;> first | trivial | (exfalso; exact hu _ rfl)
    · cases h
  case h_10 t x ho =>
    split at h
    · rename_i b hb; simp only [Option.some.injEq, Prod.mk.injEq] at h; obtain ⟨rfl, rfl⟩ := h; exact OpR.not ho hb
    · cases h
  case h_11 t x f ho =>
    split at h
    · rename_i i hi
      have h6 : ∀ f off k, i.offs[f]? = some (off, k) → FA P t f off := fun f off k hf => (T.ok t i hi).fa hf
      split at h
      · rename_i off k id n j m hf hx
        split at h
        · rename_i ob hob
          split at h
          · rename_i hc
            simp only [Option.some.injEq, Prod.mk.injEq] at h; obtain ⟨rfl, rfl⟩ := h
            exact OpR.fieldAddr ho hx (h6 f off k hf) ⟨ob, hob, hc.1, hc.2⟩
          · cases h
        · cases h
      · rename_i off k cells hf hx
        simp only [Option.some.injEq, Prod.mk.injEq] at h; obtain ⟨rfl, rfl⟩ := h
        exact OpR.fieldAddrI ho hx (h6 f off k hf)
      · cases h
    · cases h
  case h_12 x i ho =>
    split at h
    · rename_i vs hv
      split at h
      · rename_i hlt; simp only [Option.some.injEq, Prod.mk.injEq] at h; obtain ⟨rfl, rfl⟩ := h; exact OpR.extract ho hv hlt
      · cases h
    · cases h
  case h_13 f first caps ho => simp only [Option.some.injEq, Prod.mk.injEq] at h; obtain ⟨rfl, rfl⟩ := h; exact OpR.makeFunc ho
  case h_14 c ho =>
    split at h
    · rename_i hc; exact stepLen_ok T ho hc h
    · cases h
  case h_15 => cases h

/-- As many operations as can be run by computing. -/
def runOps {P : Program} (T : Tab P) (m : Nat) (ops : Array Oper) : List Oper → (Nat → AV) → St → Option (List Oper × (Nat → AV) × St)
  | [], a, S => some ([], a, S)
  | o :: rest, a, S => match gdOK m ops o && dstOK m o.dst, agd ops o a with
    | true, some true => match step1 T o a S with
      | some (v, S') => runOps T m ops rest (upd a o.dst v) S'
      | none => some (o :: rest, a, S)
    | true, some false => runOps T m ops rest (upd a o.dst (.tup [])) S
    | _, _ => some (o :: rest, a, S)

theorem RG.run {P : Program} (T : Tab P) {m : Fr} {ops : Array Oper} {Post : (Nat → AV) → St → Prop} : ∀ {l l' : List Oper} {a a' : Nat → AV} {S S' : St}, runOps T m.n ops l a S = some (l', a', S') → RG P m ops l' a' S' Post → RG P m ops l a S Post
  | [], l', a, a', S, S', h, hr => by
    simp only [runOps, Option.some.injEq, Prod.mk.injEq] at h
    obtain ⟨rfl, rfl, rfl⟩ := h
    exact hr
  | o :: rest, l', a, a', S, S', h, hr => by
    unfold runOps at h
    split at h
    · rename_i hok hgd
      split at h
      · rename_i v S1 hs
        exact RG.op (step1_ok T hs) (RG.run T h hr) hgd hok
      · simp only [Option.some.injEq, Prod.mk.injEq] at h
        obtain ⟨rfl, rfl, rfl⟩ := h
        exact hr
    · rename_i hok hgd
      exact RG.skip (RG.run T h hr) hgd hok
    · simp only [Option.some.injEq, Prod.mk.injEq] at h
      obtain ⟨rfl, rfl, rfl⟩ := h
      exact hr
end Go.Fw
