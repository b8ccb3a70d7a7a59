/-
  The closed facts of the row of StartFor.
-/
import Derived.Test.YtebmlcollanfhaaRows
import Derived.Test.YtebmlcollanfhaaRow
namespace Go.Proofs.Ytebmlcollanfhaa
namespace fnExactStartFor
theorem facts : joinedFacts Try.pinned.checked.prog 8 Try.f8 Rows.fnExactStartForSpec Rows.fnExactStartForRow = true := by kernel_rfl
end fnExactStartFor
end Go.Proofs.Ytebmlcollanfhaa
