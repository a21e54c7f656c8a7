/-
  What the program's types tell, by value.
-/
import Derived.Test.YthholadaflfpcaaBase
namespace Go.Proofs.Ythholadaflfpcaa
open Go Go.Fw
abbrev Wt := List Int × Int
abbrev Gp := List Int × Int × Int
abbrev Tb := Int × List Wt
abbrev Dp := List Int × List Int
abbrev Pr := Int × Int × Bool
abbrev Wr := List Int × List Int × Bool
def vRowS (l : List (List Int)) : AV := .isl 1 l.length fun i => [ints (l.getD i [])]
def vBoolS (l : List Bool) : AV := .isl 1 l.length fun i => [.bool (l.getD i false)]
def vDependS (l : List Dp) : AV := .isl 2 l.length fun i => [ints (l.getD i ([], [])).1, ints (l.getD i ([], [])).2]
def vWeightedS (l : List Wt) : AV := .isl 2 l.length fun i => [ints (l.getD i ([], 0)).1, .int .i64 (l.getD i ([], 0)).2]
def vGroupS (l : List Gp) : AV := .isl 3 l.length fun i => [ints (l.getD i ([], 0, 0)).1, .int .i64 (l.getD i ([], 0, 0)).2.1, .int .i64 (l.getD i ([], 0, 0)).2.2]
def vTableS (l : List Tb) : AV := .isl 2 l.length fun i => [.int .i64 (l.getD i (0, [])).1, vWeightedS (l.getD i (0, [])).2]
def vProcS (l : List Pr) : AV := .isl 3 l.length fun i => [.int .i64 (l.getD i (0, 0, false)).1, .int .i64 (l.getD i (0, 0, false)).2.1, .bool (l.getD i (0, 0, false)).2.2]
def vWireS (l : List Wr) : AV := .isl 3 l.length fun i => [ints (l.getD i ([], [], false)).1, ints (l.getD i ([], [], false)).2.1, .bool (l.getD i ([], [], false)).2.2]
end Go.Proofs.Ythholadaflfpcaa
