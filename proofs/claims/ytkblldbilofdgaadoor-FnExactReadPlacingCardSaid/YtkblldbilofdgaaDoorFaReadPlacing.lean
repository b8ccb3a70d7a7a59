/-
  The closed facts of the row of FnExactReadPlacing.
-/
import Derived.Test.YtkblldbilofdgaaDoorRows
import Derived.Test.YtkblldbilofdgaaDoorRow
namespace Go.Proofs.YtkblldbilofdgaaDoor
namespace fnExactReadPlacing
theorem facts : joinedFacts Tryd.pinned.checked.prog 3 Tryd.f3 Rows.fnExactReadPlacingSpec Rows.fnExactReadPlacingRow = true := by kernel_rfl
end fnExactReadPlacing
end Go.Proofs.YtkblldbilofdgaaDoor
