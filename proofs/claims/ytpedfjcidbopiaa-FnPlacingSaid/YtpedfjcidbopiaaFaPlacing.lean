/-
  The closed facts of the row of FnPlacing.
-/
import Derived.Test.YtpedfjcidbopiaaRows
import Derived.Test.YtpedfjcidbopiaaRow
namespace Go.Proofs.Ytpedfjcidbopiaa
namespace fnPlacing
theorem facts : joinedFacts Try.pinned.checked.prog 3 Try.f3 Rows.fnPlacingSpec Rows.fnPlacingRow = true := by kernel_rfl
end fnPlacing
end Go.Proofs.Ytpedfjcidbopiaa
