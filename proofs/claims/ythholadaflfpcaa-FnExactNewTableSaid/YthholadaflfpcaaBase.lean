/-
  What all texts of this seat use.
-/
import Derived.Test.YthholadaflfpcaaFxJ
import Derived.Test.YthholadaflfpcaaTab
import Derived.Test.YthholadaflfpcaaChecked
namespace Go.Proofs.Ythholadaflfpcaa
open Go Go.Fw

theorem mixed : Try.prog.follows .mixedOrders = true := Checked.mixed Try.checked

end Go.Proofs.Ythholadaflfpcaa
