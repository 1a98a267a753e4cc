/-
  The package spot over pure values: rows that may be nil.
-/
import Derived.Test.YtficeeaaaijgcaaAd
import Derived.Test.YtficeeaaaijgcaaLs
import Derived.Test.YtficeeaaaijgcaaLs
namespace Go.Proofs.Ytficeeaaaijgcaa
open Go Go.RowKit L
set_option linter.unusedVariables false
set_option linter.unusedSimpArgs false

def setCs (sets : List Rx) : List PV := sets.flatMap fun x => [W64 x.s0, W64 x.s1, W64 x.s2, W64 x.s3]
theorem setCs_len (sets : List Rx) : (setCs sets).length = sets.length * 4 := by
  induction sets with
  | nil => rfl
  | cons x l ih => simp only [setCs, List.flatMap_cons, List.length_append] at *; rw [ih]; simp; omega

theorem leafW (H : PHeap) (z : Int) : leafOk H (W64 z) = true := rfl
@[go_sem] theorem slI_cells (l : List Int) : (slI l).cells = [slI l] := rfl
@[go_sem] theorem slI_okC (H : PHeap) (l : List Int) : okC H (slI l) = true := rfl
@[go_sem] theorem slI_leaf (H : PHeap) (l : List Int) : leafOk H (slI l) = true := rfl
end Go.Proofs.Ytficeeaaaijgcaa
