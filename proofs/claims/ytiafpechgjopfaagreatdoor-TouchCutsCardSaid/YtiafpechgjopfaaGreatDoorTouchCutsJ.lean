/-
  TouchCuts: the facts of its claim's form, by the kernel (in a text of its own: 9 GB).
-/
import Derived.Test.YtiafpechgjopfaaGreatDoorRows
import Derived.Test.YtiafpechgjopfaaGreatDoorProg
import Derived.JoinedOf
namespace Go.Proofs.YtiafpechgjopfaaGreatDoor.touchCuts
open Go Go.ChangeShapes Go.WideShapes Go.Proofs.YtiafpechgjopfaaGreatDoor
theorem jf : joinedFacts Tryz.prog 4 Tryz.f4 Rows.touchCutsSpec Rows.touchCutsRow = true := by kernel_rfl
end Go.Proofs.YtiafpechgjopfaaGreatDoor.touchCuts
