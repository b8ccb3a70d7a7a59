/-
  The closed facts of the row of MedianOf.
-/
import Derived.Test.YtebmlcollanfhaaRows
import Derived.Test.YtebmlcollanfhaaRow
namespace Go.Proofs.Ytebmlcollanfhaa
namespace fnExactMedianOf
theorem facts : joinedFacts Try.pinned.checked.prog 6 Try.f6 Rows.fnExactMedianOfSpec Rows.fnExactMedianOfRow = true := by kernel_rfl
end fnExactMedianOf
end Go.Proofs.Ytebmlcollanfhaa
