/-
  Operations run by computing, with what they ask of the numbers put aside; all that is made is told by constructors.
-/
import Derived.Test.YthholadaflfpcaaFwM
import Derived.IntWalk
namespace Go.Fw
open Go Go.RowKit

/-! Forcing. -/
section
variable {β : Type}

def fNs (n : Nat) (K : Nat → β) : List Nat → β
  | [] => K n
  | i :: l => match Nat.beq n i with
    | true => K i
    | false => fNs n K l

theorem fNs_eq (n : Nat) (K : Nat → β) : ∀ l, fNs n K l = K n
  | [] => rfl
  | i :: l => by
    unfold fNs
    split
    · rename_i h; rw [Nat.eq_of_beq_eq_true h]
    · exact fNs_eq n K l

def fN (n : Nat) (K : Nat → β) : β := fNs n K [0, 1, 2, 3, 4, 5, 6, 7, 8, 9, 10, 11, 12, 13, 14, 15, 16, 17, 18, 19, 20, 21, 22, 23, 24]

theorem fN_eq (n : Nat) (K : Nat → β) : fN n K = K n := fNs_eq n K _

def f0 (v : AV) (K : AV → β) : β := match v with
  | .undef => K .undef
  | .int k n => K (.int k n)
  | .bool b => K (.bool b)
  | .str s => K (.str s)
  | .nsl => K .nsl
  | .sl id n => fN id fun id => K (.sl id n)
  | .isl sz n get => K (.isl sz n get)
  | .win id n lo len => fN id fun id => K (.win id n lo len)
  | .nptr => K .nptr
  | .ptr id n i off => fN id fun id => fN off fun off => K (.ptr id n i off)
  | .iptr cs => K (.iptr cs)
  | .nfn => K .nfn
  | .fn f us cs => K (.fn f us cs)
  | .agg cs => K (.agg cs)
  | .tup cs => K (.tup cs)
  | .own I b => K (.own I b)

theorem f0_eq (v : AV) (K : AV → β) : f0 v K = K v := by cases v <;> simp only [f0, fN_eq]

def fL0 (l : List AV) (K : List AV → β) : β := match l with
  | [] => K []
  | v :: l => f0 v fun v => fL0 l fun l => K (v :: l)

theorem fL0_eq : ∀ (l : List AV) (K : List AV → β), fL0 l K = K l
  | [], _ => rfl
  | v :: l, K => by simp only [fL0, f0_eq]; exact fL0_eq l fun l => K (v :: l)

def f1 (v : AV) (K : AV → β) : β := match v with
  | .agg cs => fL0 cs fun cs => K (.agg cs)
  | .iptr cs => fL0 cs fun cs => K (.iptr cs)
  | v => f0 v K

theorem f1_eq (v : AV) (K : AV → β) : f1 v K = K v := by cases v <;> simp only [f1, f0_eq, fL0_eq]

def fL1 (l : List AV) (K : List AV → β) : β := match l with
  | [] => K []
  | v :: l => f1 v fun v => fL1 l fun l => K (v :: l)

theorem fL1_eq : ∀ (l : List AV) (K : List AV → β), fL1 l K = K l
  | [], _ => rfl
  | v :: l, K => by simp only [fL1, f1_eq]; exact fL1_eq l fun l => K (v :: l)

def f2 (v : AV) (K : AV → β) : β := match v with
  | .tup cs => fL1 cs fun cs => K (.tup cs)
  | v => f1 v K

theorem f2_eq (v : AV) (K : AV → β) : f2 v K = K v := by cases v <;> simp only [f2, f1_eq, fL1_eq]

def fE (l : List (List AV)) (K : List (List AV) → β) : β := match l with
  | [] => K []
  | v :: l => fL0 v fun v => fE l fun l => K (v :: l)

theorem fE_eq : ∀ (l : List (List AV)) (K : List (List AV) → β), fE l K = K l
  | [], _ => rfl
  | v :: l, K => by simp only [fE, fL0_eq]; exact fE_eq l fun l => K (v :: l)

/-- An object, told but for the elements of a row. -/
def fOb (row : Bool) (ob : AObj) (K : AObj → β) : β := match ob with
  | ⟨ty, sz, els⟩ => fN sz fun sz => match row with
    | true => K ⟨ty, sz, els⟩
    | false => fE els fun els => K ⟨ty, sz, els⟩

theorem fOb_eq (row : Bool) (ob : AObj) (K : AObj → β) : fOb row ob K = K ob := by
  cases ob; cases row <;> simp only [fOb, fN_eq, fE_eq]

def spush (S : St) (ob : AObj) (K : St → β) : β := match S with
  | [] => K [some ob]
  | x :: S => spush S ob fun S => K (x :: S)

theorem spush_eq : ∀ (S : St) (ob : AObj) (K : St → β), spush S ob K = K (S ++ [some ob])
  | [], _, _ => rfl
  | x :: S, ob, K => by simp only [spush]; exact spush_eq S ob fun S => K (x :: S)

def sset (S : St) (id : Nat) (ob : AObj) (K : St → β) : β := match S, id with
  | [], _ => K []
  | _ :: S, 0 => K (some ob :: S)
  | x :: S, id + 1 => sset S id ob fun S => K (x :: S)

theorem sset_eq : ∀ (S : St) (id : Nat) (ob : AObj) (K : St → β), sset S id ob K = K (S.set id (some ob))
  | [], _, _, _ => rfl
  | _ :: _, 0, _, _ => rfl
  | x :: S, id + 1, ob, K => by simp only [sset]; exact sset_eq S id ob fun S => K (x :: S)

def fD (d : Option Nat) (K : Option Nat → β) : β := match d with
  | none => K none
  | some d => K (some d)

theorem fD_eq (d : Option Nat) (K : Option Nat → β) : fD d K = K d := by cases d <;> rfl
end

def oprop : Option Prop → Prop
  | none => True
  | some p => p
def oand : Option Prop → Option Prop → Option Prop
  | none, q => q
  | p, none => p
  | some p, some q => some (p ∧ q)
theorem oand_ok {p q : Option Prop} (h : oprop (oand p q)) : oprop p ∧ oprop q := by
  cases p <;> cases q <;> simp_all [oand, oprop]

/-- What an operation does: its value, and an object that is new or changed. -/
inductive R2 where
  | no
  | val (p : Option Prop) (v : AV)
  | new (p : Option Prop) (row : Bool) (v : AV) (ob : AObj)
  | set (p : Option Prop) (row : Bool) (v : AV) (id : Nat) (ob : AObj)

def in64 (n : Int) : Prop := -9223372036854775808 ≤ n ∧ n ≤ 9223372036854775807

theorem wrap64 {n : Int} (h : in64 n) : IntKind.i64.wrap n = n := by rw [IntKind.wrap_i64]; unfold in64 at h; omega

def bin2 (op : BinOp) (u v : AV) : R2 := match op, u, v with
  | .add, .int .i64 x, .int .i64 y => .val (some (in64 (x + y))) (.int .i64 (x + y))
  | .sub, .int .i64 x, .int .i64 y => .val (some (in64 (x - y))) (.int .i64 (x - y))
  | .mul, .int .i64 x, .int .i64 y => .val (some (in64 (x * y))) (.int .i64 (x * y))
  | op, u, v => match abin op u v with
    | some r => .val none r
    | none => .no

theorem bin2_ok {op : BinOp} {u v r : AV} {p : Option Prop} (h : bin2 op u v = .val p r) (hp : oprop p) : abin op u v = some r := by
  unfold bin2 at h
  split at h
  · simp only [R2.val.injEq] at h; obtain ⟨rfl, rfl⟩ := h; simp only [abin, aint, if_true]; rw [wrap64 hp]
  · simp only [R2.val.injEq] at h; obtain ⟨rfl, rfl⟩ := h; simp only [abin, aint, if_true]; rw [wrap64 hp]
  · simp only [R2.val.injEq] at h; obtain ⟨rfl, rfl⟩ := h; simp only [abin, aint, if_true]; rw [wrap64 hp]
  · split at h
    · rename_i hr; simp only [R2.val.injEq] at h; obtain ⟨rfl, rfl⟩ := h; exact hr
    · cases h

theorem bin2_val {op : BinOp} {u v : AV} : (∃ p r, bin2 op u v = .val p r) ∨ bin2 op u v = .no := by
  unfold bin2
  split
  · exact .inl ⟨_, _, rfl⟩
  · exact .inl ⟨_, _, rfl⟩
  · exact .inl ⟨_, _, rfl⟩
  · split
    · exact .inl ⟨_, _, rfl⟩
    · exact .inr rfl

def isRow (rows : List Nat) (id : Nat) : Bool := match rows with
  | [] => false
  | r :: rows => if Nat.beq r id then true else isRow rows id

/-- The size of a slice's elements. -/
def elSz {P : Program} (T : Tab P) (t : TypeId) : Option Nat := match T.at_ t with
  | some i => match i.kd with
    | .slice e => match T.at_ e with
      | some j => some j.sz
      | none => none
    | _ => none
  | none => none

theorem elSz_ok {P : Program} {T : Tab P} {t : TypeId} {sz : Nat} (h : elSz T t = some sz) : ∃ e, P.underlying t = some (.slice e) ∧ (P.info? e).map (·.size) = some sz := by
  unfold elSz at h
  split at h
  · rename_i i hi
    split at h
    · rename_i e hk
      split at h
      · rename_i j hj
        cases h
        obtain ⟨d, h1, h2, _⟩ := (T.ok t i hi).ty
        obtain ⟨d', h3, _, _⟩ := (T.ok e j hj).ty
        refine ⟨e, ?_, ?_⟩
        · have : d = .slice e := by rw [hk] at h2; revert h2; cases d <;> simp [kindOf]
          rw [← this]; exact h1.1
        · obtain ⟨i', a1, a2, a3, a4⟩ := h3.parts
          simp [a1, a3]
      · cases h
    · cases h
  · cases h

/-- A slice type's elements. -/
def elTI {P : Program} (T : Tab P) (t : TypeId) : Option (TypeId × TI) := match T.at_ t with
  | some i => match i.kd with
    | .slice e => match T.at_ e with
      | some j => some (e, j)
      | none => none
    | _ => none
  | none => none

structure ElOk (P : Program) (t e : TypeId) (j : TI) : Prop where
  slice : P.underlying t = some (.slice e)
  ty : ∃ d, TY P e d j.z j.sz j.bytes
  zsize : j.z.cells.size = j.sz
  zone : (j.z.cells.toList.all fun u => u.oneCell') = true

theorem elTI_ok {P : Program} {T : Tab P} {t e : TypeId} {j : TI} (h : elTI T t = some (e, j)) : ElOk P t e j := by
  unfold elTI at h
  split at h
  · rename_i i hi
    split at h
    · rename_i e' hk
      split at h
      · rename_i j' hj
        cases h
        obtain ⟨d, h1, h2, _⟩ := (T.ok t i hi).ty
        obtain ⟨d', h3, _, _⟩ := (T.ok e j hj).ty
        obtain ⟨_, h4, h5, _⟩ := (T.ok e j hj).one'
        refine ⟨?_, ⟨d', h3⟩, h4, h5⟩
        have : d = .slice e := by rw [hk] at h2; revert h2; cases d <;> simp [kindOf]
        rw [← this]; exact h1.1
      · cases h
    · cases h
  · cases h

/-- What is appended: what it asks, how many, which. -/
def appY (rows : List Nat) (S : St) (sz : Nat) : AV → Option (Option Prop × Nat × List (List AV))
  | .nsl => some (none, 0, [])
  | .isl sz' n get => if Nat.beq sz' sz then some (some (∀ i, i < n → (get i).length = sz ∧ (get i).all leaf = true), n, (List.range n).map get) else none
  | .sl id n => match S.at id with
    | some ⟨_, sz', els⟩ => if Nat.beq sz' sz then match isRow rows id with
        | true => some (some (els.length = n), n, els)
        | false => if Nat.beq els.length n then some (none, n, els) else none
      else none
    | none => none
  | _ => none

theorem appY_ok {rows : List Nat} {S : St} {sz : Nat} {av : AV} {p : Option Prop} {m : Nat} {els : List (List AV)} (h : appY rows S sz av = some (p, m, els)) (hp : oprop p) {a : Nat → AV} {y : Operand} (hy : aev a y = av) :
    ∀ (F : Nat → Prop) (φ : Nat → Nat) (w : World) (ac : Act), Sim F φ S w → Slots φ S (OO F φ S) w a ac → RowAt φ S (OO F φ S) w (ac.eval y) sz m els := by
  intro F φ w ac hs ha
  have ey := VR.eval ha y
  rw [hy] at ey
  unfold appY at h
  split at h
  · cases h; exact rowAt_nil ey
  · rename_i sz' n get
    split at h
    · rename_i he; have he := Nat.eq_of_beq_eq_true he; subst he
      cases h
      exact rowAt_isl ey hp
    · cases h
  · rename_i id n
    split at h
    · rename_i ty sz' els' hob
      split at h
      · rename_i he; have he := Nat.eq_of_beq_eq_true he; subst he
        split at h
        · cases h; exact rowAt_sl hs ey hob hp
        · split at h
          · rename_i hl; cases h; exact rowAt_sl hs ey hob (Nat.eq_of_beq_eq_true hl)
          · cases h
      · cases h
    · cases h
  · cases h

def appX (S : St) (e : TypeId) (j : TI) (x : AV) (p : Option Prop) (m : Nat) (els : List (List AV)) (lit : Bool) : R2 := match x with
  | .nsl => if Nat.ble 1 j.sz && Nat.ble 1 j.bytes then match lit with
      | true => if Nat.ble 1 m && Nat.ble (m * j.bytes) 140737488355328 then .new p false (.sl S.length m) ⟨e, j.sz, els⟩ else .no
      | false => .new (oand p (some (0 < m ∧ m * j.bytes ≤ 140737488355328))) true (.sl S.length m) ⟨e, j.sz, els⟩
    else .no
  | .sl id n => if Nat.ble 1 j.sz && Nat.ble 1 j.bytes then match S.at id with
    | some ⟨ty, sz, els0⟩ => if Nat.beq ty e && Nat.beq sz j.sz && Nat.blt 0 e then .set (oand p (some (els0.length = n ∧ (n + m) * j.bytes ≤ 140737488355328))) true (.sl id (n + m)) id ⟨ty, sz, els0 ++ els⟩ else .no
    | none => .no
    else .no
  | _ => .no

def isLit (rows : List Nat) : AV → Bool
  | .sl id _ => match isRow rows id with
    | true => false
    | false => true
  | _ => false

/-- A bound of a slice: its place, and what is asked. -/
def bnd (a : Nat → AV) (d : Nat) : Option Operand → Option (Option Prop × Nat)
  | none => some (none, d)
  | some y => match aev a y with
    | .int _ i => some (some (0 ≤ i), i.toNat)
    | _ => none

theorem bnd_ok {a : Nat → AV} {d : Nat} {y : Option Operand} {p : Option Prop} {l : Nat} (h : bnd a d y = some (p, l)) (hp : oprop p) : y = none ∧ l = d ∨ ∃ z k, y = some z ∧ aev a z = .int k l := by
  unfold bnd at h
  split at h
  · cases h; exact .inl ⟨rfl, rfl⟩
  · rename_i z
    split at h
    · rename_i k i hz
      cases h
      have : (0 : Int) ≤ i := hp
      exact .inr ⟨z, k, rfl, by rw [hz]; congr 1; omega⟩
    · cases h

theorem le_maxLen {m b : Nat} (hb : Nat.ble 1 b = true) (h : m * b ≤ 281474976710656) : m ≤ maxLen := by
  have h1 : 1 ≤ b := Nat.le_of_ble_eq_true hb
  have h2 : m * 1 ≤ m * b := Nat.mul_le_mul_left m h1
  unfold maxLen
  omega

def step2 {P : Program} (T : Tab P) (rows : List Nat) (o : Oper) (a : Nat → AV) (S : St) : R2 :=
  match o.op with
  | .move x => .val none (aev a x)
  | .assign x => .val none (aev a x)
  | .pick c x y => match aev a c with
    | .bool true => .val none (aev a x)
    | .bool false => .val none (aev a y)
    | _ => .no
  | .alloc t => match T.at_ t with
    | some i => .new none false (.ptr S.length 1 0 0) ⟨t, i.sz, [zcells i.z]⟩
    | none => .no
  | .box t x => if (acells (aev a x)).all leaf then .new none false (.ptr S.length 1 0 0) ⟨t, (acells (aev a x)).length, [acells (aev a x)]⟩ else .no
  | .build t parts => match T.at_ t with
    | some i => if i.offs.isEmpty then .no else match afill (fun j => i.offs[j]?) (zcells i.z) (parts.toList.map fun p => (p.1, aev a p.2)) with
      | some cells => .val none (.agg cells)
      | none => .no
    | none => .no
  | .load t x => match T.at_ t with
    | some i => match ald S i.sz i.agg (aev a x) with
      | some v => .val none v
      | none => .no
    | none => .no
  | .store t x y => match T.at_ t, aev a x with
    | some i, .ptr id n j off => match S.at id with
      | some ⟨ty, sz, els⟩ => if Nat.beq (acells (aev a y)).length i.sz && (acells (aev a y)).all leaf && Nat.ble (off + i.sz) sz then match isRow rows id with
          | true => .set (some (n = els.length ∧ j < n)) true .undef id ⟨ty, sz, els.set j (splice (els.getD j []) off (acells (aev a y)))⟩
          | false => if Nat.beq n els.length && Nat.blt j n then .set none false .undef id ⟨ty, sz, els.set j (splice (els.getD j []) off (acells (aev a y)))⟩ else .no
        else .no
      | none => .no
    | _, _ => .no
  | .binOp op t x y _ => match T.at_ t with
    | some i => match aev a x, i.kd with
      | .bool b, .bool => bin2 op (.bool b) (aev a y)
      | .bool _, _ => .no
      | u, _ => bin2 op u (aev a y)
    | none => .no
  | .unOp .not _ x => match aev a x with
    | .bool b => .val none (.bool (!b))
    | _ => .no
  | .unOp .neg _ x => match aev a x with
    | .int .i64 n => .val (some (in64 (0 - n))) (.int .i64 (0 - n))
    | _ => .no
  | .fieldAddr t x f => match T.at_ t with
    | some i => match i.offs[f]?, aev a x with
      | some (off, _), .ptr id n j m => match S.at id with
        | some ob => match isRow rows id with
          | true => .val (some (ob.els.length = n ∧ j < n)) (.ptr id n j (m + off))
          | false => if Nat.beq ob.els.length n && Nat.blt j n then .val none (.ptr id n j (m + off)) else .no
        | none => .no
      | some (off, _), .iptr cells => .val none (.iptr (cells.drop off))
      | _, _ => .no
    | none => .no
  | .indexAddr t x y => match elSz T t with
    | some sz => match aev a x, aev a y with
      | .isl sz' n get, .int k i => if Nat.beq sz' sz then .val (some (0 ≤ i ∧ i < n)) (.iptr (get i.toNat)) else .no
      | .sl id n, .int k i => match S.at id with
        | some ob => if Nat.beq ob.sz sz then .val (some (ob.els.length = n ∧ 0 ≤ i ∧ i < n)) (.ptr id n i.toNat 0) else .no
        | none => .no
      | _, _ => .no
    | none => .no
  | .extract x i => match aev a x with
    | .tup vs => if Nat.blt i vs.length then .val none (vs.getD i .undef) else .no
    | _ => .no
  | .makeFunc (.func f) first caps => fL1 (first.toList.map (aev a)) fun us => fL1 (caps.toList.map (aev a)) fun cs => .val none (.fn f us cs)
  | .call c => match c.callee, c.args.toList, c.argTypes.toList with
    | .builtin .len, [x], [t] => match elSz T t with
      | some _ => match aev a x with
        | .nsl => .val none (.int .i64 0)
        | .isl _ n _ => .val none (.int .i64 n)
        | .sl id n => match S.at id with
          | some ob => .val (some (ob.els.length = n)) (.int .i64 n)
          | none => .no
        | _ => .no
      | none => .no
    | .builtin .append, [x, y], [t, t'] => if Nat.beq t t' then match elTI T t with
      | some (e, j) => match appY rows S j.sz (aev a y) with
        | some (p, m, els) => appX S e j (aev a x) p m els (isLit rows (aev a y))
        | none => .no
      | none => .no
      else .no
    | _, _, _ => .no
  | .buildSlice t n parts => match elTI T t with
    | some (e, j) => if Nat.ble (n * j.sz) 16777216 && Nat.ble n 16777216 then match afill (fun i => some (i * j.sz, j.sz)) (zflat j.z n j.sz) (parts.toList.map fun p => (p.1, aev a p.2)) with
      | some cells => if Nat.beq cells.length (n * j.sz) then .new none false (.sl S.length n) ⟨e, j.sz, chunks n j.sz cells⟩ else .no
      | none => .no
      else .no
    | none => .no
  | .makeSlice t x y => match elTI T t with
    | some (e, j) => match aev a x, aev a y with
      | .int _ i, .int _ i' => if Nat.ble 1 j.bytes then .new (some (0 ≤ i ∧ i' = i ∧ i.toNat * j.bytes ≤ 281474976710656)) true (.sl S.length i.toNat) ⟨e, j.sz, List.replicate i.toNat (zcells j.z)⟩ else .no
      | _, _ => .no
    | none => .no
  | .slice t x lo hi none => match elSz T t with
    | some sz => match aev a x with
      | .isl sz' n get => if Nat.beq sz' sz then match bnd a 0 lo, bnd a n hi with
        | some (p, l), some (q, m) => .val (oand (oand p q) (some (l ≤ m ∧ m ≤ n))) (.isl sz' (m - l) fun i => get (l + i))
        | _, _ => .no
        else .no
      | _ => .no
    | none => .no
  | .convert s d x => match T.at_ s, T.at_ d, aev a x with
    | some _, some i, .int _ n => match i.kd with
      | .int k => .val none (.int k (k.wrap n))
      | _ => .no
    | _, _, _ => .no
  | _ => .no

/-- What R2 says. -/
def R2.Holds (P : Program) (o : Oper) (a : Nat → AV) (S : St) : R2 → Prop
  | .no => True
  | .val p v => oprop p → OpR P o a S v S
  | .new p _ v ob => oprop p → OpR P o a S v (S ++ [some ob])
  | .set p _ v id ob => oprop p → OpR P o a S v (S.set id (some ob))

theorem ald_ptr {S : St} {sz : Nat} {agg : Bool} {v p : AV} (h : ald S sz agg p = some v) : ald S sz agg p = some v := h

theorem step2_ok {P : Program} (T : Tab P) (rows : List Nat) (o : Oper) (a : Nat → AV) (S : St) : (step2 T rows o a S).Holds P o a S := by
  unfold step2
  split
  case h_1 x ho => exact fun _ => OpR.move ho
  case h_2 x ho => exact fun _ => OpR.assign ho
  case h_3 c x y ho =>
    split
    · rename_i hc; exact fun _ => OpR.pick (b := true) ho hc
    · rename_i hc; exact fun _ => OpR.pick (b := false) ho hc
    · trivial
  case h_4 t ho =>
    split
    · rename_i i hi
      obtain ⟨d, h1, h1k, h2⟩ := (T.ok t i hi).ty
      obtain ⟨h3, h4, h5, _⟩ := (T.ok t i hi).one'
      exact fun _ => OpR.alloc ho h1 h5 (by simp [zcells, h4])
    · trivial
  case h_5 t x ho =>
    split
    · rename_i hl; exact fun _ => OpR.box ho rfl hl
    · trivial
  case h_6 t parts ho =>
    split
    · rename_i i hi
      obtain ⟨d, h1, h1k, h2⟩ := (T.ok t i hi).ty
      obtain ⟨h3, h4, h5, _⟩ := (T.ok t i hi).one'
      have h7 : i.offs ≠ [] → PL P t i.offs := fun hne => (T.ok t i hi).pl.resolve_left hne
      split
      · trivial
      rename_i hne
      split
      · rename_i cells hf
        exact fun _ => OpR.build ho h1 (h7 (by simpa using hne)) h5 hf
      · trivial
    · trivial
  case h_7 t x ho =>
    split
    · rename_i i hi
      obtain ⟨d, h1, h1k, h2⟩ := (T.ok t i hi).ty
      obtain ⟨h3, h4, h5, _⟩ := (T.ok t i hi).one'
      split
      · rename_i u hl; exact fun _ => OpR.load ho rfl (h1.i h2) h3 hl
      · trivial
    · trivial
  case h_8 t x y ho =>
    split
    · rename_i i id n j off hi hx
      obtain ⟨d, h1, h1k, h2⟩ := (T.ok t i hi).ty
      obtain ⟨h3, h4, h5, _⟩ := (T.ok t i hi).one'
      split
      · rename_i ob hob
        split
        · rename_i hc
          simp only [Bool.and_eq_true] at hc
          obtain ⟨⟨c4, c5⟩, c3⟩ := hc
          have c4 := Nat.eq_of_beq_eq_true c4
          have c3 := Nat.le_of_ble_eq_true c3
          split
          · rintro ⟨c1, c2⟩
            exact OpR.store ho hx rfl (h1.i h2) hob c1 c2 c3 c4 c5
          · split
            · rename_i hc
              simp only [Bool.and_eq_true] at hc
              have c1 := Nat.eq_of_beq_eq_true hc.1
              have c2 : j < n := Nat.le_of_ble_eq_true hc.2
              exact fun _ => OpR.store ho hx rfl (h1.i h2) hob c1 c2 c3 c4 c5
            · trivial
        · trivial
      · trivial
    · trivial
  case h_9 op t x y yt ho =>
    have key : ∀ u i, T.at_ t = some i → aev a x = u → (∀ b, u = .bool b → i.kd = .bool) → (bin2 op u (aev a y)).Holds P o a S := by
      intro u i hi hu hb
      obtain ⟨d, h1, h1k, _⟩ := (T.ok t i hi).ty
      rcases bin2_val (op := op) (u := u) (v := aev a y) with ⟨p, r, e⟩ | e
      · rw [e]
        intro hp
        refine OpR.bin ho hu rfl (bin2_ok e hp) ?_
        cases u <;> first | trivial | skip
        rename_i b
        have hk := hb b rfl
        show P.underlying t = some .bool
        have hdb : d = .bool := by rw [hk] at h1k; revert h1k; cases d <;> simp [kindOf]
        rw [← hdb]; exact h1.1
      · rw [e]; trivial
    split
    · rename_i i hi
      split
      · rename_i b hb hd
        exact key _ i hi hb fun _ _ => hd
      · trivial
      · rename_i u hu _
        refine key _ i hi rfl fun b hb => (hu b hb).elim
    · trivial
  case h_10 t x ho =>
    split
    · rename_i b hb; exact fun _ => OpR.not ho hb
    · trivial
  case h_11 t x ho =>
    split
    · rename_i n hb; intro hp; have := OpR.neg (P := P) (S := S) ho hb; rwa [wrap64 hp] at this
    · trivial
  case h_12 t x f ho =>
    split
    · rename_i i hi
      have h6 : ∀ f off k, i.offs[f]? = some (off, k) → FA P t f off := fun f off k hf => (T.ok t i hi).fa hf
      split
      · rename_i off k id n j m hf hx
        split
        · rename_i ob hob
          split
          · exact fun hp => OpR.fieldAddr ho hx (h6 f off k hf) ⟨ob, hob, hp.1, hp.2⟩
          · split
            · rename_i hc
              simp only [Bool.and_eq_true] at hc
              have c1 := Nat.eq_of_beq_eq_true hc.1
              have c2 : j < n := Nat.le_of_ble_eq_true hc.2
              exact fun _ => OpR.fieldAddr ho hx (h6 f off k hf) ⟨ob, hob, c1, c2⟩
            · trivial
        · trivial
      · rename_i off k cells hf hx
        exact fun _ => OpR.fieldAddrI ho hx (h6 f off k hf)
      · trivial
    · trivial
  case h_13 t x y ho =>
    split
    · rename_i sz hsz
      obtain ⟨e, he1, he2⟩ := elSz_ok hsz
      split
      · rename_i sz' n get _k i hx hy
        split
        · rename_i hs
          have hs := Nat.eq_of_beq_eq_true hs
          subst hs
          exact fun hp => OpR.indexAddrI ho hx hy he1 he2 hp.1 hp.2
        · trivial
      · rename_i id n _k i hx hy
        split
        · rename_i ob hob
          split
          · rename_i hs
            have hs := Nat.eq_of_beq_eq_true hs
            subst hs
            exact fun hp => OpR.indexAddr ho hx hy he1 he2 hob hp.1 hp.2.1 hp.2.2
          · trivial
        · trivial
      · trivial
    · trivial
  case h_14 x i ho =>
    split
    · rename_i vs hv
      split
      · rename_i hlt; exact fun _ => OpR.extract ho hv (Nat.le_of_ble_eq_true hlt)
      · trivial
    · trivial
  case h_15 f first caps ho => simp only [fL1_eq]; exact fun _ => OpR.makeFunc ho
  case h_16 c ho =>
    split
    · rename_i x t hc hx ht
      have ho' : o.op = .call { callee := .builtin .len, args := #[x], argTypes := #[t] } := by
        have e1 : c.args = #[x] := by rw [← Array.toArray_toList (xs := c.args), hx]
        have e2 : c.argTypes = #[t] := by rw [← Array.toArray_toList (xs := c.argTypes), ht]
        rw [ho]
        cases c
        simp only at e1 e2 hc
        subst e1 e2 hc
        rfl
      split
      · rename_i sz hsz
        obtain ⟨e, he1, he2⟩ := elSz_ok hsz
        split
        · rename_i hx; exact fun _ => OpR.len (n := 0) ho' hx he1 (.inl ⟨rfl, rfl⟩)
        · rename_i sz n get hx; exact fun _ => OpR.len ho' hx he1 (.inr (.inl ⟨sz, get, rfl⟩))
        · rename_i id n hx
          split
          · rename_i ob hob
            exact fun hp => OpR.len ho' hx he1 (.inr (.inr ⟨id, ob, rfl, hob, hp⟩))
          · trivial
        · trivial
      · trivial
    · rename_i x y t t' hc hx ht
      split
      · rename_i he; have he := Nat.eq_of_beq_eq_true he; subst he
        have ho' : o.op = .call { callee := .builtin .append, args := #[x, y], argTypes := #[t, t] } := by
          have e1 : c.args = #[x, y] := by rw [← Array.toArray_toList (xs := c.args), hx]
          have e2 : c.argTypes = #[t, t] := by rw [← Array.toArray_toList (xs := c.argTypes), ht]
          rw [ho]
          cases c
          simp only at e1 e2 hc
          subst e1 e2 hc
          rfl
        split
        · rename_i e j hj
          have hel := elTI_ok hj
          obtain ⟨d, hd⟩ := hel.ty
          split
          · rename_i p m els hy
            unfold appX
            split
            · rename_i hx
              split
              · rename_i hc
                simp only [Bool.and_eq_true] at hc
                have h1 := Nat.le_of_ble_eq_true hc.1
                split
                · split
                  · rename_i hm
                    simp only [Bool.and_eq_true] at hm
                    have h2 := Nat.le_of_ble_eq_true hm.1
                    have h3 := Nat.le_of_ble_eq_true hm.2
                    exact fun hp => OpR.appendN ho' hel.slice hd hel.zsize h1 hx (appY_ok hy hp rfl) h2 (le_maxLen hc.2 (by omega)) h3
                  · trivial
                · intro hp
                  obtain ⟨hp, h2, h3⟩ := oand_ok hp
                  exact OpR.appendN ho' hel.slice hd hel.zsize h1 hx (appY_ok hy hp rfl) h2 (le_maxLen hc.2 (by omega)) h3
              · trivial
            · rename_i id n hx
              split
              · rename_i hc
                simp only [Bool.and_eq_true] at hc
                have h1 := Nat.le_of_ble_eq_true hc.1
                split
                · rename_i ty sz els0 hob
                  split
                  · rename_i he
                    simp only [Bool.and_eq_true] at he
                    have e1 := Nat.eq_of_beq_eq_true he.1.1
                    have e2 := Nat.eq_of_beq_eq_true he.1.2
                    have e3 := Nat.le_of_ble_eq_true he.2
                    subst e1 e2
                    intro hp
                    obtain ⟨hp, h2, h3⟩ := oand_ok hp
                    exact OpR.append ho' hel.slice hd hel.zsize h1 hx hob h2 rfl rfl (Nat.pos_iff_ne_zero.1 e3) (appY_ok hy hp rfl) (le_maxLen hc.2 (by omega)) h3
                  · trivial
                · trivial
              · trivial
            · trivial
          · trivial
        · trivial
      · trivial
    · trivial
  case h_17 t n parts ho =>
    split
    · rename_i e j hj
      have hel := elTI_ok hj
      obtain ⟨d, hd⟩ := hel.ty
      split
      · rename_i hc
        simp only [Bool.and_eq_true] at hc
        have h1 := Nat.le_of_ble_eq_true hc.1
        have h2 := Nat.le_of_ble_eq_true hc.2
        split
        · rename_i cells hf
          split
          · rename_i hl
            exact fun _ => OpR.buildSlice ho hel.slice hd hel.zsize hel.zone (by omega) (by unfold maxLen; omega) hf (Nat.eq_of_beq_eq_true hl)
          · trivial
        · trivial
      · trivial
    · trivial
  case h_18 t x y ho =>
    split
    · rename_i e j hj
      have hel := elTI_ok hj
      obtain ⟨d, hd⟩ := hel.ty
      split
      · rename_i k i k' i' hx hy
        split
        · rename_i hb
          rintro ⟨h1, h2, h3⟩
          subst h2
          have hi : ((i'.toNat : Nat) : Int) = i' := by omega
          exact OpR.make ho (by rw [hx, hi]) (by rw [hy, hi]) hel.slice hd hel.zsize hel.zone (by rw [Nat.mul_comm]; exact h3) (le_maxLen hb h3)
        · trivial
      · trivial
    · trivial
  case h_19 t x lo hi ho =>
    split
    · rename_i sz hsz
      obtain ⟨e, he1, he2⟩ := elSz_ok hsz
      split
      · rename_i sz' n get hx
        split
        · rename_i hs
          have hs := Nat.eq_of_beq_eq_true hs
          subst hs
          split
          · rename_i p l q m hl hm
            intro hp
            obtain ⟨hp, h1, h2⟩ := oand_ok hp
            obtain ⟨hp, hq⟩ := oand_ok hp
            exact OpR.sliceI ho hx he1 he2 (bnd_ok hl hp) (bnd_ok hm hq) h1 h2
          · trivial
        · trivial
      · trivial
    · trivial
  case h_20 s d x ho =>
    split
    · rename_i i0 i k n hi0 hi hx
      split
      · rename_i k' hk
        obtain ⟨sd, h1, _, _⟩ := (T.ok s i0 hi0).ty
        obtain ⟨dd, h2, h3, _⟩ := (T.ok d i hi).ty
        have : dd = .int k' := by rw [hk] at h3; revert h3; cases dd <;> simp [kindOf]
        exact fun _ => OpR.conv ho hx h1.1 (by rw [← this]; exact h2.1)
      · trivial
    · trivial
  case h_21 => trivial

structure R3 where
  l : List Oper
  a : Nat → AV
  S : St
  p : Option Prop

/-- As many operations as can be run by computing, k at most. -/
def run2 {P : Program} (T : Tab P) (rows : List Nat) (m : Nat) (ops : Array Oper) : Nat → List Oper → (Nat → AV) → St → Option Prop → R3
  | 0, l, a, S, q => ⟨l, a, S, q⟩
  | _ + 1, [], a, S, q => ⟨[], a, S, q⟩
  | k + 1, o :: rest, a, S, q => match gdOK m ops o && dstOK m o.dst, agd ops o a with
    | true, some true => match step2 T rows o a S with
      | .no => ⟨o :: rest, a, S, q⟩
      | .val p v => f2 v fun v => fD o.dst fun d => run2 T rows m ops k rest (upd a d v) S (oand q p)
      | .new p row v ob => f2 v fun v => fD o.dst fun d => fOb row ob fun ob => spush S ob fun S => run2 T rows m ops k rest (upd a d v) S (oand q p)
      | .set p row v id ob => f2 v fun v => fD o.dst fun d => fOb row ob fun ob => sset S id ob fun S => run2 T rows m ops k rest (upd a d v) S (oand q p)
    | true, some false => fD o.dst fun d => run2 T rows m ops k rest (upd a d (.tup [])) S q
    | _, _ => ⟨o :: rest, a, S, q⟩

theorem run2_ok {P : Program} (T : Tab P) (rows : List Nat) {m : Fr} {ops : Array Oper} {Post : (Nat → AV) → St → Prop} : ∀ (k : Nat) (l : List Oper) (a : Nat → AV) (S : St) (q : Option Prop) (r : R3),
    run2 T rows m.n ops k l a S q = r → oprop r.p → oprop q ∧ (RG P m ops r.l r.a r.S Post → RG P m ops l a S Post)
  | 0, l, a, S, q, r, h, hp => by subst h; exact ⟨hp, id⟩
  | _ + 1, [], a, S, q, r, h, hp => by subst h; exact ⟨hp, id⟩
  | k + 1, o :: rest, a, S, q, r, h, hp => by
    unfold run2 at h
    split at h
    · rename_i hok hgd
      have hs := step2_ok T rows o a S
      split at h
      · subst h; exact ⟨hp, id⟩
      · rename_i p v he
        simp only [f2_eq, fD_eq] at h
        obtain ⟨h1, h2⟩ := run2_ok T rows k _ _ _ _ r h hp
        obtain ⟨h3, h4⟩ := oand_ok h1
        rw [he] at hs
        exact ⟨h3, fun hr => RG.op (hs h4) (h2 hr) hgd hok⟩
      · rename_i p row v ob he
        simp only [f2_eq, fD_eq, fOb_eq, spush_eq] at h
        obtain ⟨h1, h2⟩ := run2_ok T rows k _ _ _ _ r h hp
        obtain ⟨h3, h4⟩ := oand_ok h1
        rw [he] at hs
        exact ⟨h3, fun hr => RG.op (hs h4) (h2 hr) hgd hok⟩
      · rename_i p row v id ob he
        simp only [f2_eq, fD_eq, fOb_eq, sset_eq] at h
        obtain ⟨h1, h2⟩ := run2_ok T rows k _ _ _ _ r h hp
        obtain ⟨h3, h4⟩ := oand_ok h1
        rw [he] at hs
        exact ⟨h3, fun hr => RG.op (hs h4) (h2 hr) hgd hok⟩
    · rename_i hok hgd
      simp only [fD_eq] at h
      obtain ⟨h1, h2⟩ := run2_ok T rows k _ _ _ _ r h hp
      exact ⟨h1, fun hr => RG.skip (h2 hr) hgd hok⟩
    · subst h; exact ⟨hp, id⟩

section
variable {P : Program} {m : Fr} {ops : Array Oper} {a a' : Nat → AV} {S S' : St} {l l' : List Oper} {Post : (Nat → AV) → St → Prop}

/-- Runs k operations, or up to the first that cannot be run. -/
theorem RG.go (T : Tab P) (k : Nat) (rows : List Nat) (h : run2 T rows m.n ops k l a S none = ⟨l', a', S', none⟩) (hr : RG P m ops l' a' S' Post) : RG P m ops l a S Post :=
  (run2_ok T rows k l a S none _ h trivial).2 hr

/-- The same, where something is asked. -/
theorem RG.ask (T : Tab P) (k : Nat) (rows : List Nat) {p : Prop} (h : run2 T rows m.n ops k l a S none = ⟨l', a', S', some p⟩) (hp : p) (hr : RG P m ops l' a' S' Post) : RG P m ops l a S Post :=
  (run2_ok T rows k l a S none _ h hp).2 hr
end
end Go.Fw
