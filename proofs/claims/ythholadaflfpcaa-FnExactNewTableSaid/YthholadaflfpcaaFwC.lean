/-
  Operations on numbers, bools and texts.
-/
import Derived.Test.YthholadaflfpcaaFwB
namespace Go.Fw
open Go Go.RowKit

def aint (op : BinOp) (k : IntKind) (x y : Int) : Option AV :=
  match op with
  | .add => some (.int k (k.wrap (x + y)))
  | .sub => some (.int k (k.wrap (x - y)))
  | .mul => some (.int k (k.wrap (x * y)))
  | .quo => if y = 0 then none else some (.int k (k.wrap (x.tdiv y)))
  | .rem => if y = 0 then none else some (.int k (x.tmod y))
  | .and => some (.int k (k.wrap (BitVec.ofInt k.bits x &&& BitVec.ofInt k.bits y).toNat))
  | .or => some (.int k (k.wrap (BitVec.ofInt k.bits x ||| BitVec.ofInt k.bits y).toNat))
  | .andNot => some (.int k (k.wrap (BitVec.ofInt k.bits x &&& ~~~(BitVec.ofInt k.bits y)).toNat))
  | .eql => some (.bool (x == y))
  | .neq => some (.bool (x != y))
  | .lss => some (.bool (x < y))
  | .leq => some (.bool (x ≤ y))
  | .gtr => some (.bool (x > y))
  | .geq => some (.bool (x ≥ y))
  | _ => none

def ashift (op : BinOp) (k : IntKind) (x y : Int) : Option AV :=
  if y < 0 then none else
  match op with
  | .shl => some (.int k (k.wrap (x * 2 ^ (min y.toNat k.bits))))
  | .shr => some (.int k (x.fdiv (2 ^ (min y.toNat k.bits))))
  | _ => none

def abin (op : BinOp) : AV → AV → Option AV
  | .int k x, .int k' y => match op with
    | .shl => ashift .shl k x y
    | .shr => ashift .shr k x y
    | op => if k = k' then aint op k x y else none
  | .bool x, .bool y => match op with
    | .eql => some (.bool (x == y))
    | .neq => some (.bool (!(x == y)))
    | _ => none
  | .str x, .str y => match op with
    | .eql => some (.bool (x.toList == y.toList))
    | .neq => some (.bool (!(x.toList == y.toList)))
    | _ => none
  | _, _ => none

/-- The operand types that are asked of the program: '==' looks at the type. -/
def btOK (P : Program) (t : TypeId) (x : AV) : Prop :=
  match x with
  | .bool _ => P.underlying t = some .bool
  | _ => True

theorem VR.str_inv {φ : Nat → Nat} {S : St} {O : Nat → Prop} {w : World} {b : ByteArray} {v : Value} (h : VR φ S O w (.str b) v) : v = .string b := by
  cases h with | pure h => cases h; rfl

section
variable {P : Program} {o : Oper} {a : Nat → AV} {S : St}

theorem run_int (P : Program) (op : BinOp) (t : TypeId) (k k' : IntKind) (x y : Int) (r : AV) (w : World) (h : abin op (.int k x) (.int k' y) = some r) :
    ∃ v, (binOp op t (.int k x) (.int k' y)).run P w = .ok v w ∧ ∀ φ S O, VR φ S O w r v := by
  cases op <;> simp only [abin, ashift] at h
  case shl =>
    split at h
    · cases h
    · rename_i hy; simp only [Option.some.injEq] at h; subst h
      exact ⟨_, by simp [binOp, Op.shift, hy], fun _ _ _ => .pure (.int _ _)⟩
  case shr =>
    split at h
    · cases h
    · rename_i hy; simp only [Option.some.injEq] at h; subst h
      exact ⟨_, by simp [binOp, Op.shift, hy], fun _ _ _ => .pure (.int _ _)⟩
  all_goals
    split at h
    case isFalse => cases h
    rename_i hk
    subst hk
    simp only [aint] at h
  case quo =>
    split at h
    · cases h
    · rename_i hy
      simp only [Option.some.injEq] at h; subst h
      exact ⟨_, by simp only [binOp, ne_eq, not_true, if_false, Op.intDiv, hy]; rfl, fun _ _ _ => .pure (.int _ _)⟩
  case rem =>
    split at h
    · cases h
    · rename_i hy
      simp only [Option.some.injEq] at h; subst h
      exact ⟨_, by simp only [binOp, ne_eq, not_true, if_false, Op.intDiv, hy]; rfl, fun _ _ _ => .pure (.int _ _)⟩
  all_goals first
    | (cases h; done)
    | (simp only [Option.some.injEq] at h; subst h
       first
       | exact ⟨_, by simp only [binOp, ne_eq, not_true, if_false, Op.intArith, Op.intCmp, Op.intBits]; rfl, fun _ _ _ => .pure (.bool _)⟩
       | exact ⟨_, by simp only [binOp, ne_eq, not_true, if_false, Op.intArith, Op.intBits]; rfl, fun _ _ _ => .pure (.int _ _)⟩)

theorem eqGuard_int (P : Program) (op : BinOp) (t : TypeId) (x y : Operand) (u v : Value) (w : World) (hu : ∀ c, u ≠ .agg c) (hn : u ≠ .nilIface) : (eqGuard op t x y u v).run P w = .ok () w := by
  unfold eqGuard
  cases op <;> simp <;> (split <;> simp_all)

theorem execOp_bin {ac : Act} {w : World} {op : BinOp} {t yt : TypeId} {x y : Operand} {u v r : Value} (h : o.op = .binOp op t x y yt) (hx : ac.eval x = u) (hy : ac.eval y = v) (hu : ∀ c, u ≠ .agg c) (hn : u ≠ .nilIface)
    (hr : (binOp op t u v).run P w = .ok r w) : (execOp ac.eval o).run P w = .ok (.value r) w := by
  simp only [execOp, h, hx, hy, Sem.run_bind, eqGuard_int P op t x y u v w hu hn, Result.andThen_ok, hr, Sem.run_pure]

theorem run_equalIn_bool {t : TypeId} (ht : P.underlying t = some .bool) (d : Nat) (b c : Bool) (w : World) : (Op.equalIn (d + 1) t (.bool b) (.bool c)).run P w = .ok (b == c) w := by
  simp only [Op.equalIn, Sem.run_bind, run_underlying ht, Result.andThen_ok, Sem.run_pure]
theorem run_equal_bool {t : TypeId} (ht : P.underlying t = some .bool) (b c : Bool) (w : World) : (Op.equal t (.bool b) (.bool c)).run P w = .ok (b == c) w :=
  run_equalIn_bool ht 9999 b c w
theorem run_eqbool {t : TypeId} (ht : P.underlying t = some .bool) (b c : Bool) (w : World) : (binOp .eql t (.bool b) (.bool c)).run P w = .ok (.bool (b == c)) w := by
  show ((Op.equal t (.bool b) (.bool c)) >>= fun x => pure (Value.bool x)).run P w = _
  rw [Sem.run_bind, run_equal_bool ht]; rfl
theorem run_nebool {t : TypeId} (ht : P.underlying t = some .bool) (b c : Bool) (w : World) : (binOp .neq t (.bool b) (.bool c)).run P w = .ok (.bool (!(b == c))) w := by
  show ((Op.equal t (.bool b) (.bool c)) >>= fun x => pure (Value.bool (!x))).run P w = _
  rw [Sem.run_bind, run_equal_bool ht]; rfl

theorem OpR.bin {op : BinOp} {t yt : TypeId} {x y : Operand} {u v r : AV} (h : o.op = .binOp op t x y yt) (hx : aev a x = u) (hy : aev a y = v) (hr : abin op u v = some r) (ht : btOK P t u) : OpR P o a S r S := by
  refine OpR.still fun F φ w ac hs ha => ?_
  have ex := VR.eval ha x
  have ey := VR.eval ha y
  rw [hx] at ex
  rw [hy] at ey
  cases u with
  | int k n =>
    cases v with
    | int k' n' =>
      obtain ⟨vv, hrun, hv⟩ := run_int P op t k k' n n' r w hr
      exact ⟨vv, execOp_bin h ex.int_inv ey.int_inv (fun c => by simp) (by simp) hrun, hv _ _ _⟩
    | _ => simp [abin] at hr
  | bool b =>
    cases v with
    | bool b' =>
      have ht' : P.underlying t = some .bool := ht
      cases op <;> simp only [abin] at hr <;> first
        | (cases hr; done)
        | (simp only [Option.some.injEq] at hr; subst hr
           first
           | exact ⟨_, execOp_bin h ex.bool_inv ey.bool_inv (fun c => by simp) (by simp) (run_eqbool ht' _ _ _), .pure (.bool _)⟩
           | exact ⟨_, execOp_bin h ex.bool_inv ey.bool_inv (fun c => by simp) (by simp) (run_nebool ht' _ _ _), .pure (.bool _)⟩)
    | _ => simp [abin] at hr
  | str b =>
    cases v with
    | str b' =>
      cases op <;> simp only [abin] at hr <;> first
        | (cases hr; done)
        | (simp only [Option.some.injEq] at hr; subst hr
           exact ⟨_, execOp_bin h ex.str_inv ey.str_inv (fun c => by simp) (by simp) rfl, .pure (.bool _)⟩)
    | _ => simp [abin] at hr
  | _ => simp [abin] at hr

theorem OpR.not {t : TypeId} {x : Operand} {b : Bool} (h : o.op = .unOp .not t x) (hx : aev a x = .bool b) : OpR P o a S (.bool (!b)) S := by
  refine OpR.still fun F φ w ac hs ha => ?_
  have ex := VR.eval ha x
  rw [hx] at ex
  exact ⟨_, by simp [execOp, h, ex.bool_inv, Op.unary], .pure (.bool _)⟩

theorem OpR.neg {t : TypeId} {x : Operand} {k : IntKind} {n : Int} (h : o.op = .unOp .neg t x) (hx : aev a x = .int k n) : OpR P o a S (.int k (k.wrap (0 - n))) S := by
  refine OpR.still fun F φ w ac hs ha => ?_
  have ex := VR.eval ha x
  rw [hx] at ex
  exact ⟨_, by simp [execOp, h, ex.int_inv, Op.unary, Op.intArith], .pure (.int _ _)⟩

theorem OpR.conv {s d : TypeId} {x : Operand} {k k' : IntKind} {n : Int} {sd : TypeDesc} (h : o.op = .convert s d x) (hx : aev a x = .int k n) (hs : P.underlying s = some sd) (hd : P.underlying d = some (.int k')) : OpR P o a S (.int k' (k'.wrap n)) S := by
  refine OpR.still fun F φ w ac hsim ha => ?_
  have ex := VR.eval ha x
  rw [hx] at ex
  refine ⟨_, ?_, .pure (.int _ _)⟩
  simp [execOp, h, ex.int_inv, convert, run_underlying hs, run_underlying hd, Conv.intToInt]

theorem OpR.extract {x : Operand} {i : Nat} {vs : List AV} (h : o.op = .extract x i) (hx : aev a x = .tup vs) (hi : i < vs.length) : OpR P o a S (vs.getD i .undef) S := by
  refine OpR.still fun F φ w ac hs ha => ?_
  have ex := VR.eval ha x
  rw [hx] at ex
  generalize hv : ac.eval x = v at ex
  have key : ∃ us : Array Value, v = .tuple us ∧ us.size = vs.length ∧ ∀ j, j < vs.length → VR φ S (OO F φ S) w (vs.getD j .undef) (us.getD j undef) := by
    cases ex with
    | pure ex => cases ex with | tup h1 h2 => exact ⟨_, rfl, h1, fun j hj => .pure (h2 j hj)⟩
    | tup h1 h2 => exact ⟨_, rfl, h1, h2⟩
  obtain ⟨us, rfl, h1, h2⟩ := key
  refine ⟨us.getD i undef, ?_, h2 i hi⟩
  have hlt : i < us.size := by omega
  simp [execOp, h, hv, Instr.extract, Array.getElem?_eq_getElem hlt, Array.getD, hlt]

theorem OpR.len {x : Operand} {t e : TypeId} {v : AV} {n : Nat} (h : o.op = .call { callee := .builtin .len, args := #[x], argTypes := #[t] }) (hx : aev a x = v) (ht : P.underlying t = some (.slice e))
    (hn : v = .nsl ∧ n = 0 ∨ (∃ sz g, v = .isl sz n g) ∨ (∃ id ob, v = .sl id n ∧ S.at id = some ob ∧ ob.els.length = n)) : OpR P o a S (.int .i64 n) S := by
  refine OpR.still fun F φ w ac hs ha => ?_
  have ex := VR.eval ha x
  rw [hx] at ex
  have key : ∃ A c, ac.eval x = .slice A n c := by
    rcases hn with ⟨rfl, rfl⟩ | ⟨sz, g, rfl⟩ | ⟨id, ob, rfl, hob, rfl⟩
    · cases ex with | pure ex => generalize ac.eval x = u at ex; cases ex; exact ⟨_, _, rfl⟩
    · cases ex with | pure ex => generalize ac.eval x = u at ex; cases ex; exact ⟨_, _, rfl⟩
    · generalize ac.eval x = u at ex
      cases ex with
      | pure ex => cases ex
      | sl h0 h1 h2 => obtain ⟨_, h3⟩ := h2 ob hob; exact (h3 rfl).elim (fun ⟨h0', A, c, e, _⟩ => ⟨A, c, by rw [e, h0']⟩) (fun ⟨_, cap, e, _⟩ => ⟨_, _, e⟩)
  obtain ⟨A, c, e'⟩ := key
  refine ⟨_, ?_, .pure (.int _ _)⟩
  simp [execOp, h, resolve, invoke, builtin, e', Builtin.len_, run_underlying ht, goInt]
end
end Go.Fw
