/-
  The closed facts of the row of StepBand.
-/
import Derived.Test.YtebmlcollanfhaaRows
import Derived.Test.YtebmlcollanfhaaRow
namespace Go.Proofs.Ytebmlcollanfhaa
namespace fnExactStepBand
theorem facts : joinedFacts Try.pinned.checked.prog 12 Try.f12 Rows.fnExactStepBandSpec Rows.fnExactStepBandRow = true := by kernel_rfl
end fnExactStepBand
end Go.Proofs.Ytebmlcollanfhaa
