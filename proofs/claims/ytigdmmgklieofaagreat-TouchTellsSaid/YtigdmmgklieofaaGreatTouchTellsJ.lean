/-
  TouchTells: the facts of its claim's form, by the kernel (in a text of its own: 9 GB).
-/
import Derived.Test.YtigdmmgklieofaaGreatRows
import Derived.Test.YtigdmmgklieofaaGreatProg
import Derived.JoinedOf
namespace Go.Proofs.YtigdmmgklieofaaGreat.touchTells
open Go Go.ChangeShapes Go.WideShapes Go.Proofs.YtigdmmgklieofaaGreat
theorem jf : joinedFacts Tryz.prog 4 Tryz.f4 Rows.touchTellsSpec Rows.touchTellsRow = true := by kernel_rfl
end Go.Proofs.YtigdmmgklieofaaGreat.touchTells
