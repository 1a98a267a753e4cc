/-
  LangNil: the facts of its claim's form, by the kernel (in a text of its own: 9 GB).
-/
import Derived.Test.YtiafpechgjopfaaGreatDoorRows
import Derived.Test.YtiafpechgjopfaaGreatDoorProg
import Derived.JoinedOf
namespace Go.Proofs.YtiafpechgjopfaaGreatDoor.langNil
open Go Go.ChangeShapes Go.WideShapes Go.Proofs.YtiafpechgjopfaaGreatDoor
theorem jf : joinedFacts Tryz.prog 3 Tryz.f3 Rows.langNilSpec Rows.langNilRow = true := by kernel_rfl
end Go.Proofs.YtiafpechgjopfaaGreatDoor.langNil
