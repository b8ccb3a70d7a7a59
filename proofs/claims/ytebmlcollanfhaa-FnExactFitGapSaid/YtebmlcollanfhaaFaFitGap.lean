/-
  The closed facts of the row of FitGap.
-/
import Derived.Test.YtebmlcollanfhaaRows
import Derived.Test.YtebmlcollanfhaaRow
namespace Go.Proofs.Ytebmlcollanfhaa
namespace fnExactFitGap
theorem facts : joinedFacts Try.pinned.checked.prog 10 Try.f10 Rows.fnExactFitGapSpec Rows.fnExactFitGapRow = true := by kernel_rfl
end fnExactFitGap
end Go.Proofs.Ytebmlcollanfhaa
