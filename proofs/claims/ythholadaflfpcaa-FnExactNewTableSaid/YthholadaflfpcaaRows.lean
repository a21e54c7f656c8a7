/-
  No cell of these rows narrows 'for every input' (looked for: loops, veiled, ifaces, maps, wideKeys, modest, calm, conditions, laid).
  DERIVED. THE GIVEN ROWS OF THIS SEAT. 3 by the template 'for every input the law returns true; each argument reads behind the call as it read before'; 0 by the template 'total and deterministic' (their statements: YthholadaflfpcaaTotals.lean).
  GIVEN WITH THE SEED: the statements are not yours to turn. If you find one false, say at which input.
  Laid BY PROGRAM, IN A SANDBOX (cutbox-rows.mjs): the forced cells as the released guide's own fill.sh prints them over the translation 89ae66ab0d94fe61… (all of the seat's roots in one cut). By AI agents, Wed Nov 11 2026. No macro, syntax, notation, axiom, sorry.
-/
import Derived.Test.YthholadaflfpcaaChecked
import GoSem.Claim
import GoSem.ClaimJoined
import GoSem.ClaimMapViews
import Derived.JoinedTies
import Derived.KernelRfl
namespace Go.Proofs.Ythholadaflfpcaa
/- THE CELL 'sum', in the pinned program and in every row, IS THE sha256 OF THE DUMP (.gsa) THAT YthholadaflfpcaaProg.lean LOADS. Nothing in Lean hashes anything: it is a label: what it is worth is what the hold of that sum in a sandbox is worth. -/
noncomputable def Try.pinned : Pinned := { name := "ythholadaflfpcaa", sum := "89ae66ab0d94fe611fa21f08fae0cd6367084eb2d3d1438a978dd7a3be8f5f2c", checked := Try.checked }
namespace Rows
def none {H : Type} : Left H := { results := [], args := [] }

/-- 'laws.FnExactNewTable': WHATEVER THE INPUT: true; the input reads as it did. -/
def fnExactNewTableSpec : ChangeSpec := { name := "fnExactNewTable", fn := fun _ => fun
  | [d1, d2] => { results := [.lit (.bool true)], args := [d1, d2] }
  | _ => none }
def fnExactNewTableRow : OpenClaim := { program := "ythholadaflfpcaa", sum := "89ae66ab0d94fe611fa21f08fae0cd6367084eb2d3d1438a978dd7a3be8f5f2c", func := "loop.example/g00305/laws.FnExactNewTable", spec := "fnExactNewTable", unfollowed := true, recurses := true, apart := false }
def FnExactNewTableSaid : Prop := fnExactNewTableRow.holds Try.pinned (OpenSpec.ofChange fnExactNewTableSpec)

/-- ITS FALSE NEIGHBOUR: 'it returns false'. Refute it at one input. -/
def fnExactNewTableWrong : ChangeSpec := { name := "fnExactNewTable", fn := fun _ => fun
  | [d1, d2] => { results := [.lit (.bool false)], args := [d1, d2] }
  | _ => none }
def FnExactNewTableWrongFalsely : Prop := fnExactNewTableRow.holds Try.pinned (OpenSpec.ofChange fnExactNewTableWrong)

/-- 'laws.FnExactMergeGroups': WHATEVER THE INPUT: true; the input reads as it did. -/
def fnExactMergeGroupsSpec : ChangeSpec := { name := "fnExactMergeGroups", fn := fun _ => fun
  | [d1, d2] => { results := [.lit (.bool true)], args := [d1, d2] }
  | _ => none }
def fnExactMergeGroupsRow : OpenClaim := { program := "ythholadaflfpcaa", sum := "89ae66ab0d94fe611fa21f08fae0cd6367084eb2d3d1438a978dd7a3be8f5f2c", func := "loop.example/g00305/laws.FnExactMergeGroups", spec := "fnExactMergeGroups", unfollowed := true, recurses := true, apart := false }
def FnExactMergeGroupsSaid : Prop := fnExactMergeGroupsRow.holds Try.pinned (OpenSpec.ofChange fnExactMergeGroupsSpec)

/-- ITS FALSE NEIGHBOUR: 'it returns false'. Refute it at one input. -/
def fnExactMergeGroupsWrong : ChangeSpec := { name := "fnExactMergeGroups", fn := fun _ => fun
  | [d1, d2] => { results := [.lit (.bool false)], args := [d1, d2] }
  | _ => none }
def FnExactMergeGroupsWrongFalsely : Prop := fnExactMergeGroupsRow.holds Try.pinned (OpenSpec.ofChange fnExactMergeGroupsWrong)

/-- 'laws.FnExactStepSnap': WHATEVER THE INPUT: true; the input reads as it did. -/
def fnExactStepSnapSpec : ChangeSpec := { name := "fnExactStepSnap", fn := fun _ => fun
  | [d1, d2] => { results := [.lit (.bool true)], args := [d1, d2] }
  | _ => none }
def fnExactStepSnapRow : OpenClaim := { program := "ythholadaflfpcaa", sum := "89ae66ab0d94fe611fa21f08fae0cd6367084eb2d3d1438a978dd7a3be8f5f2c", func := "loop.example/g00305/laws.FnExactStepSnap", spec := "fnExactStepSnap", unfollowed := true, recurses := true, apart := false }
def FnExactStepSnapSaid : Prop := fnExactStepSnapRow.holds Try.pinned (OpenSpec.ofChange fnExactStepSnapSpec)

/-- ITS FALSE NEIGHBOUR: 'it returns false'. Refute it at one input. -/
def fnExactStepSnapWrong : ChangeSpec := { name := "fnExactStepSnap", fn := fun _ => fun
  | [d1, d2] => { results := [.lit (.bool false)], args := [d1, d2] }
  | _ => none }
def FnExactStepSnapWrongFalsely : Prop := fnExactStepSnapRow.holds Try.pinned (OpenSpec.ofChange fnExactStepSnapWrong)

/- THE SECOND FORM. 'bulk': how many values and letters a reading holds, each counted each time it is reached (what is shared counts as often as it is met; a slice's spare places count too). A statement '..UptoSaid' is the law's where the arguments, and the package variables that the reading takes, are together of bulk at most 1048576: NARROWER than '..Said'. Prove '..Said' where nothing that the law and all that it calls make is longer than what came in: it says more and counts as full. Else prove '..UptoSaid'. A law counts once. -/
mutual
def uptoBulk {H : Type} : DataW H → Nat
  | .lit (.string bytes) => bytes.length + 1
  | .lit _ => 1
  | .nil => 1
  | .ptr d => uptoBulk d + 1
  | .slice elems spare => uptoBulkAll elems + uptoBulkAll spare + 1
  | .agg parts => uptoBulkAll parts + 1
  | .iface _ d => uptoBulk d + 1
  | .map entries => uptoBulkEntries entries + 1
  | .held _ => 1
def uptoBulkAll {H : Type} : List (DataW H) → Nat
  | [] => 0
  | d :: r => uptoBulk d + uptoBulkAll r
def uptoBulkEntries {H : Type} : List (Lit × DataW H) → Nat
  | [] => 0
  | x :: r => uptoBulkEntry x + uptoBulkEntries r
def uptoBulkEntry {H : Type} : Lit × DataW H → Nat
  | (.string bytes, d) => bytes.length + uptoBulk d + 1
  | (_, d) => uptoBulk d + 1
 end
def uptoSmall : (H : Type) → List (DataW H) → Bool := fun _ ds => decide (uptoBulkAll ds ≤ 1048576)
def OpenSpec.upto (s : _root_.Go.ChangeSpec) : _root_.Go.OpenSpec := { _root_.Go.OpenSpec.ofChange s with cond := some uptoSmall }

/-- 'laws.FnExactNewTable', WHERE WHAT IT READS IS OF BULK AT MOST 1048576: true; the input reads as it did. -/
def fnExactNewTableUptoRow : OpenClaim := { program := "ythholadaflfpcaa", sum := "89ae66ab0d94fe611fa21f08fae0cd6367084eb2d3d1438a978dd7a3be8f5f2c", func := "loop.example/g00305/laws.FnExactNewTable", spec := "fnExactNewTable", unfollowed := true, recurses := true, apart := false, narrowed := true }
def FnExactNewTableUptoSaid : Prop := fnExactNewTableUptoRow.holds Try.pinned (OpenSpec.upto fnExactNewTableSpec)

/-- 'laws.FnExactMergeGroups', WHERE WHAT IT READS IS OF BULK AT MOST 1048576: true; the input reads as it did. -/
def fnExactMergeGroupsUptoRow : OpenClaim := { program := "ythholadaflfpcaa", sum := "89ae66ab0d94fe611fa21f08fae0cd6367084eb2d3d1438a978dd7a3be8f5f2c", func := "loop.example/g00305/laws.FnExactMergeGroups", spec := "fnExactMergeGroups", unfollowed := true, recurses := true, apart := false, narrowed := true }
def FnExactMergeGroupsUptoSaid : Prop := fnExactMergeGroupsUptoRow.holds Try.pinned (OpenSpec.upto fnExactMergeGroupsSpec)

/-- 'laws.FnExactStepSnap', WHERE WHAT IT READS IS OF BULK AT MOST 1048576: true; the input reads as it did. -/
def fnExactStepSnapUptoRow : OpenClaim := { program := "ythholadaflfpcaa", sum := "89ae66ab0d94fe611fa21f08fae0cd6367084eb2d3d1438a978dd7a3be8f5f2c", func := "loop.example/g00305/laws.FnExactStepSnap", spec := "fnExactStepSnap", unfollowed := true, recurses := true, apart := false, narrowed := true }
def FnExactStepSnapUptoSaid : Prop := fnExactStepSnapUptoRow.holds Try.pinned (OpenSpec.upto fnExactStepSnapSpec)

end Rows
end Go.Proofs.Ythholadaflfpcaa
