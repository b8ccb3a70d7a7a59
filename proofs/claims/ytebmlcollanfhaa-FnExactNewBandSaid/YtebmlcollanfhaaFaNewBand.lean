/-
  The closed facts of the row of NewBand.
-/
import Derived.Test.YtebmlcollanfhaaRows
import Derived.Test.YtebmlcollanfhaaRow
namespace Go.Proofs.Ytebmlcollanfhaa
namespace fnExactNewBand
theorem facts : joinedFacts Try.pinned.checked.prog 4 Try.f4 Rows.fnExactNewBandSpec Rows.fnExactNewBandRow = true := by kernel_rfl
end fnExactNewBand
end Go.Proofs.Ytebmlcollanfhaa
