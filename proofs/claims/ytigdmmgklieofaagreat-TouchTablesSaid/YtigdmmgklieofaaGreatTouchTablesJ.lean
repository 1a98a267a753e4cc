/-
  TouchTables: the facts of its claim's form, by the kernel (in a text of its own: 9 GB).
-/
import Derived.Test.YtigdmmgklieofaaGreatRows
import Derived.Test.YtigdmmgklieofaaGreatProg
import Derived.JoinedOf
namespace Go.Proofs.YtigdmmgklieofaaGreat.touchTables
open Go Go.ChangeShapes Go.WideShapes Go.Proofs.YtigdmmgklieofaaGreat
theorem jf : joinedFacts Tryz.prog 5 Tryz.f5 Rows.touchTablesSpec Rows.touchTablesRow = true := by kernel_rfl
end Go.Proofs.YtigdmmgklieofaaGreat.touchTables
