/-
  Elements of a row told by a list, loaded and stored where the order is drawn; rows that are told as a list and appended to.
-/
import Derived.Test.YthholadaflfpcaaFxF
namespace Go.Fw
open Go Go.RowKit
section
variable {P : Program} {T : Tab P} {rows : List Nat} {ops : Array Oper} {con : Nat → CK} {pi ids : List Nat} {Post : (Nat → AV) → St → Prop} {a : Nat → AV} {S : St} {H : Nat → Prop} {o : Oper} {d : Option Nat}
theorem step2_ldr {α : Type} {t : TypeId} {x : Operand} {id n i off : Nat} {ty : TypeId} {sz : Nat} {l : List α} {f : α → List AV} (d0 : α) {v : AV} (h : loadOf o = some (t, x)) (hx : aev a x = .ptr id n i off) (hob : S.at id = some ⟨ty, sz, l.map f⟩) (hn : l.length = n) (hi : i < n) (hv : ldv T t sz off (f (l.getD i d0)) = some v) :
    step2 T rows o a S = .val none v := by
  have hc : (l.map f).getD i [] = f (l.getD i d0) := getD_map' f l i d0 [] (by omega)
  unfold ldv at hv
  split at hv
  case h_2 => cases hv
  rename_i ti hti
  split at hv
  case isFalse => cases hv
  rename_i hle
  have hle := Nat.le_of_ble_eq_true hle
  unfold step2
  rw [loadOf_ok h]
  simp only [hti, hx, ald, hob, hc]
  rw [if_pos ⟨by simp; omega, hi, hle⟩]
  cases hag : ti.agg <;> simp only [hag] at hv ⊢ <;> cases hv <;> rfl

/-- An element of a row told by a list is loaded. -/
theorem QR.ldr {α : Type} {k : Nat} {t : TypeId} {x : Operand} {id n i off : Nat} {ty : TypeId} {sz : Nat} {l : List α} {f : α → List AV} (d0 : α) {v : AV} {rest : List (Nat × Oper)} (h : loadOf o = some (t, x)) (hd : o.dst = d) (hx : aev a x = .ptr id n i off) (hob : S.at id = some ⟨ty, sz, l.map f⟩) (hn : l.length = n) (hi : i < n) (hv : ldv T t sz off (f (l.getD i d0)) = some v)
    (hpi : pi.contains k = false) (hr : QR T rows ops con pi ids Post rest (upd a d v) S H) (hgd : agd ops o a = some true := by rfl) : QR T rows ops con pi ids Post ((k, o) :: rest) a S H := by
  subst hd
  exact .one (.val hgd (step2_ldr d0 h hx hob hn hi hv) trivial) (fun hp => by rw [hpi] at hp; cases hp) hr

/-- Cells of an element of a row told by a list are stored. -/
theorem QR.str {α : Type} {k : Nat} {t : TypeId} {x y : Operand} {ti : TI} {id n i off : Nat} {ty : TypeId} {sz : Nat} {l : List α} {f : α → List AV} (d0 x1 : α) {v : AV} {S' : St} {rest : List (Nat × Oper)} (h : storeOf o = some (t, x, y)) (hd : o.dst = d) (hx : aev a x = .ptr id n i off) (hy : aev a y = v) (hti : T.at_ t = some ti) (hob : S.at id = some ⟨ty, sz, l.map f⟩) (hn : l.length = n) (hi : i < n)
    (hle : Nat.ble (off + ti.sz) sz = true) (hl : Nat.beq (acells v).length ti.sz = true) (hlf : (acells v).all leaf = true) (hf : splice (f (l.getD i d0)) off (acells v) = f x1) (hrow : isRow rows id = true) (hid : ids.contains id = true) (hS : List.set S id (some ⟨ty, sz, (l.set i x1).map f⟩) = S')
    (hr : QR T rows ops con pi ids Post rest (upd a d .undef) S' H) (hgd : agd ops o a = some true := by rfl) : QR T rows ops con pi ids Post ((k, o) :: rest) a S H := by
  subst hd hS
  have hc : (l.map f).getD i [] = f (l.getD i d0) := getD_map' f l i d0 [] (by omega)
  have hs : step2 T rows o a S = .set (some (n = (l.map f).length ∧ i < n)) true .undef id ⟨ty, sz, (l.set i x1).map f⟩ := by
    unfold step2
    rw [storeOf_ok h]
    simp only [hti, hx, hob, hy, hrow]
    rw [if_pos (by rw [hl, hlf, hle]; rfl), hc, hf, List.map_set]
  have hk : knd o = 2 := by unfold knd; rw [storeOf_ok h]
  exact .set (.set hgd hk hs ⟨by simp; omega, hi⟩) hid hr
end

/-- What is appended to nothing, told as a list. -/
theorem app_ints (l : List Int) : ([] : List (List AV)) ++ (List.range l.length).map (fun i => [AV.int .i64 (l.getD i 0)]) = l.map rI := by
  rw [List.nil_append]
  exact list_ext_getD [] (by simp) fun j hj => by
    have hj' : j < l.length := by simpa using hj
    rw [getD_map' rI l j 0 [] hj', getD_map' _ _ j 0 [] (by simpa using hj')]
    simp [rI, List.getD_eq_getElem?_getD, hj']
theorem SO.appI {S : St} {id : Nat} {ty : TypeId} {l : List Int} (h : S.at id = some ⟨ty, 1, [] ++ (List.range l.length).map fun i => [.int .i64 (l.getD i 0)]⟩) : ∃ D, SO S D (fun _ => False) (.sl id (0 + l.length)) (ints l) := by
  rw [app_ints] at h
  rw [Nat.zero_add]
  exact SO.rowsI h rfl
end Go.Fw
