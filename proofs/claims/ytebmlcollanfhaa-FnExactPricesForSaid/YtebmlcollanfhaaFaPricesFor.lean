/-
  The closed facts of the row of PricesFor.
-/
import Derived.Test.YtebmlcollanfhaaRows
import Derived.Test.YtebmlcollanfhaaRow
namespace Go.Proofs.Ytebmlcollanfhaa
namespace fnExactPricesFor
theorem facts : joinedFacts Try.pinned.checked.prog 3 Try.f3 Rows.fnExactPricesForSpec Rows.fnExactPricesForRow = true := by kernel_rfl
end fnExactPricesFor
end Go.Proofs.Ytebmlcollanfhaa
