/-
  Regions whose order is drawn.
-/
import Derived.Test.YthholadaflfpcaaFwP
namespace Go.Fw
open Go Go.RowKit

/-- What is known of an operation that calls: its value, or what holds of its value. -/
inductive CK where
  | none
  | pf (r : AV)
  | mk (as' : List AV) (Q : AV → Prop)

inductive Out where
  | one (v : AV)
  | new (v : AV) (ob : AObj)
  | set (v : AV) (id : Nat) (ob : AObj)
  | all (Q : AV → Prop)

/-- 0: leaves the store as it is; 1: a new object; 2: the store changes otherwise. -/
def knd (o : Oper) : Nat := match o.op with
  | .alloc _ | .box .. | .buildSlice .. | .makeSlice .. => 1
  | .store .. => 2
  | .call c => match c.callee with
    | .builtin .append => 2
    | _ => 0
  | _ => 0

section
variable {P : Program}

inductive OutR (T : Tab P) (rows : List Nat) (ops : Array Oper) (con : Nat → CK) : Nat → Oper → (Nat → AV) → St → Out → Prop
  | val {i : Nat} {o : Oper} {a : Nat → AV} {S : St} {p : Option Prop} {v : AV} : agd ops o a = some true → step2 T rows o a S = .val p v → oprop p → OutR T rows ops con i o a S (.one v)
  | skip {i : Nat} {o : Oper} {a : Nat → AV} {S : St} : agd ops o a = some false → OutR T rows ops con i o a S (.one (.tup []))
  | new {i : Nat} {o : Oper} {a : Nat → AV} {S : St} {p : Option Prop} {row : Bool} {v : AV} {ob : AObj} : agd ops o a = some true → 1 ≤ knd o → step2 T rows o a S = .new p row v ob → oprop p → OutR T rows ops con i o a S (.new v ob)
  | set {i : Nat} {o : Oper} {a : Nat → AV} {S : St} {p : Option Prop} {row : Bool} {v : AV} {id : Nat} {ob : AObj} : agd ops o a = some true → knd o = 2 → step2 T rows o a S = .set p row v id ob → oprop p → OutR T rows ops con i o a S (.set v id ob)
  | pf {i : Nat} {o : Oper} {a : Nat → AV} {S : St} {g : FuncId} {as : List AV} {r : AV} : agd ops o a = some true → callA o a = some (g, as) → con i = .pf r → (∀ S, FC P g as S (fun r' S' => r' = r ∧ S' = S)) → True → OutR T rows ops con i o a S (.one r)
  | mk {i : Nat} {o : Oper} {a : Nat → AV} {S : St} {g : FuncId} {as as' : List AV} {Q : AV → Prop} : agd ops o a = some true → callA o a = some (g, as) → con i = .mk as' Q → FC P g as' [] (fun r S' => S' = [] ∧ Q r) → (∀ r, Q r → Fw.mk r = true) →
      Seals True S as as' → (∃ r, Q r ∧ ∀ x, ¬ OS r x) → OutR T rows ops con i o a S (.all Q)

theorem callA_no {T : Tab P} {rows : List Nat} {o : Oper} {a : Nat → AV} {S : St} {x : FuncId × List AV} (h : callA o a = some x) : step2 T rows o a S = .no := by
  unfold callA at h
  split at h
  · rename_i c hc
    split at h
    · rename_i f hf
      unfold step2
      rw [hc]
      simp only [hf]
    · cases h
  · cases h

theorem OutR.det {T : Tab P} {rows : List Nat} {ops : Array Oper} {con : Nat → CK} {i : Nat} {o : Oper} {a : Nat → AV} {S : St} {x y : Out} (h : OutR T rows ops con i o a S x) (k : OutR T rows ops con i o a S y) : x = y := by
  cases h <;> cases k <;> simp_all [callA_no]

/-- What an operation looks at. -/
theorem aev_congr {a a' : Nat → AV} {x : Operand} (h : ∀ t, x = .tmp t → a t = a' t) : aev a x = aev a' x := by
  cases x with
  | tmp t => exact h t rfl
  | _ => rfl

theorem agd_congr {ops : Array Oper} {o : Oper} {a a' : Nat → AV} (h : ∀ t ∈ o.looksAt ops, a t = a' t) : agd ops o a = agd ops o a' := by
  unfold agd
  cases hg : o.guard with
  | none => rfl
  | some p =>
    obtain ⟨j, b⟩ := p
    simp only
    cases hd : (ops[j]?).bind (·.dst) with
    | none => rfl
    | some d =>
      have : a d = a' d := h d (by unfold Oper.looksAt; simp [hg, hd])
      simp only [this]

theorem ops_congr {ops : Array Oper} {o : Oper} {a a' : Nat → AV} (h : ∀ t ∈ o.looksAt ops, a t = a' t) : ∀ x ∈ o.op.operands.toList, aev a x = aev a' x := by
  intro x hx
  refine aev_congr fun t ht => h t ?_
  subst ht
  unfold Oper.looksAt
  simp only [List.mem_append, List.mem_filterMap]
  exact .inl ⟨_, hx, rfl⟩

theorem map_congr {a a' : Nat → AV} : ∀ {l : List Operand}, (∀ x ∈ l, aev a x = aev a' x) → l.map (aev a) = l.map (aev a')
  | [], _ => rfl
  | x :: l, h => by simp only [List.map_cons]; rw [h x (by simp), map_congr fun y hy => h y (by simp [hy])]

theorem mapp_congr {a a' : Nat → AV} : ∀ {l : List (Nat × Operand)}, (∀ x ∈ l.map (·.2), aev a x = aev a' x) → (l.map fun p => (p.1, aev a p.2)) = l.map fun p => (p.1, aev a' p.2)
  | [], _ => rfl
  | x :: l, h => by simp only [List.map_cons]; rw [h x.2 (by simp), mapp_congr fun y hy => h y (by simp at hy ⊢; exact .inr hy)]

theorem bnd_congr {a a' : Nat → AV} {d : Nat} {y : Option Operand} (h : ∀ x ∈ y.toArray.toList, aev a x = aev a' x) : bnd a d y = bnd a' d y := by
  cases y with
  | none => rfl
  | some y => unfold bnd; simp only; rw [h y (by simp)]

theorem step2_congr {T : Tab P} {rows : List Nat} {o : Oper} {a a' : Nat → AV} {S : St} (h : ∀ x ∈ o.op.operands.toList, aev a x = aev a' x) : step2 T rows o a S = step2 T rows o a' S := by
  unfold step2
  cases ho : o.op <;> simp only [ho, Op.operands] at h ⊢ <;> try rfl
  case move x => rw [h x (by simp)]
  case assign x => rw [h x (by simp)]
  case pick c x y => rw [h c (by simp), h x (by simp), h y (by simp)]
  case box t x => rw [h x (by simp)]
  case build t parts => rw [mapp_congr (a := a) (a' := a') (by simpa using h)]
  case load t x => rw [h x (by simp)]
  case store t x y => rw [h x (by simp), h y (by simp)]
  case binOp op t x y yt => rw [h x (by simp), h y (by simp)]
  case unOp u t x => cases u <;> simp only <;> try rfl
                     all_goals rw [h x (by simp)]
  case fieldAddr t x f => rw [h x (by simp)]
  case indexAddr t x y => rw [h x (by simp), h y (by simp)]
  case extract x i => rw [h x (by simp)]
  case makeFunc f first caps =>
    cases f <;> simp only <;> try rfl
    rw [map_congr (a := a) (a' := a') (l := first.toList) fun x hx => h x (by simp at hx ⊢; exact .inl hx), map_congr (a := a) (a' := a') (l := caps.toList) fun x hx => h x (by simp at hx ⊢; exact .inr hx)]
  case call c =>
    have hargs : ∀ x ∈ c.args.toList, aev a x = aev a' x := fun x hx => h x (by unfold Call.operands; simp at hx ⊢; exact .inr hx)
    split
    · rename_i x t hc hx ht
      rw [hargs x (by rw [hx]; simp)]
    · rename_i x y t t' hc hx ht
      rw [hargs x (by rw [hx]; simp), hargs y (by rw [hx]; simp)]
    · rfl
  case buildSlice t n parts => rw [mapp_congr (a := a) (a' := a') (by simpa using h)]
  case makeSlice t x y => rw [h x (by simp), h y (by simp)]
  case slice t x lo hi mx =>
    cases mx with
    | some z => rfl
    | none =>
      simp only
      rw [h x (by simp), bnd_congr (a := a) (a' := a') (y := lo) (fun z hz => h z (by simp at hz ⊢; exact .inr (.inl hz)))]
      cases elSz T t with
      | none => rfl
      | some sz =>
        simp only
        cases aev a' x <;> simp only
        rw [bnd_congr (a := a) (a' := a') (y := hi) (fun z hz => h z (by simp at hz ⊢; exact .inr (.inr hz)))]
  case convert s d x => rw [h x (by simp)]

theorem callA_congr {o : Oper} {a a' : Nat → AV} (h : ∀ x ∈ o.op.operands.toList, aev a x = aev a' x) : callA o a = callA o a' := by
  unfold callA
  cases ho : o.op <;> simp only [ho, Op.operands] at h ⊢
  case call c =>
    cases hc : c.callee with
    | value f =>
      simp only
      rw [h f (by unfold Call.operands; simp [hc]), map_congr (a := a) (a' := a') (l := c.args.toList) fun x hx => h x (by unfold Call.operands; simp at hx ⊢; exact .inr hx)]
    | _ => rfl

theorem OutR.congr {T : Tab P} {rows : List Nat} {ops : Array Oper} {con : Nat → CK} {i : Nat} {o : Oper} {a a' : Nat → AV} {S : St} {x : Out} (h : OutR T rows ops con i o a S x) (ha : ∀ t ∈ o.looksAt ops, a t = a' t) : OutR T rows ops con i o a' S x := by
  have h1 := agd_congr ha
  have h2 := step2_congr (T := T) (rows := rows) (S := S) (ops_congr ha)
  have h3 := callA_congr (ops_congr ha)
  cases h with
  | val k1 k2 k3 => exact .val (h1 ▸ k1) (h2 ▸ k2) k3
  | skip k1 => exact .skip (h1 ▸ k1)
  | new k1 k0 k2 k3 => exact .new (h1 ▸ k1) k0 (h2 ▸ k2) k3
  | set k1 k0 k2 k3 => exact .set (h1 ▸ k1) k0 (h2 ▸ k2) k3
  | pf k1 k2 k3 k4 k5 => exact .pf (h1 ▸ k1) (h3 ▸ k2) k3 k4 k5
  | mk k1 k2 k3 k4 k5 k6 k7 => exact .mk (h1 ▸ k1) (h3 ▸ k2) k3 k4 k5 k6 k7

theorem at_app {S : St} {x : Option AObj} {i : Nat} {ob : AObj} (h : S.at i = some ob) : St.at (S ++ [x]) i = some ob := by
  have hl := St.lt_of_at h
  unfold St.at at *
  rw [List.getElem?_append_left hl]; exact h

theorem ald_mono {S : St} {x : Option AObj} {sz : Nat} {agg : Bool} {p v : AV} (h : ald S sz agg p = some v) : ald (S ++ [x]) sz agg p = some v := by
  unfold ald at *
  split at h
  · split at h
    · rename_i ob hob; rw [at_app hob]; exact h
    · cases h
  · exact h
  · cases h

theorem step2_mono {T : Tab P} {rows : List Nat} {o : Oper} {a : Nat → AV} {S : St} {x : Option AObj} {p : Option Prop} {v : AV} (h : step2 T rows o a S = .val p v) : step2 T rows o a (S ++ [x]) = .val p v := by
  unfold step2 at *
  cases ho : o.op <;> simp only [ho] at h ⊢ <;> try (exact h)
  case load t y =>
    split at h
    · split at h
      · rename_i i hi u hl; simp only [ald_mono hl]; exact h
      · cases h
    · cases h
  case unOp u t y => cases u <;> exact h
  case makeFunc f us cs => cases f <;> exact h
  case slice t y lo hi mx => cases mx <;> exact h
  case alloc t => split at h <;> cases h
  case box t y => split at h <;> cases h
  case store t y z =>
    exfalso
    split at h
    · split at h
      · split at h
        · split at h
          · cases h
          · split at h <;> cases h
        · cases h
      · cases h
    · cases h
  case fieldAddr t y f =>
    repeat' (split at h)
    all_goals first
      | (cases h; done)
      | (simp_all [at_app]; done)
  case indexAddr t y z =>
    repeat' (split at h)
    all_goals first
      | (cases h; done)
      | (simp_all [at_app]; done)
  case call c =>
    repeat' (split at h)
    all_goals first
      | (cases h; done)
      | (simp_all [at_app]; done)
      | (exfalso; unfold appX at h; (repeat' (split at h)); all_goals cases h)
  case buildSlice t n parts => (repeat' (split at h)); all_goals cases h
  case makeSlice t y z => (repeat' (split at h)); all_goals cases h
end
end Go.Fw
