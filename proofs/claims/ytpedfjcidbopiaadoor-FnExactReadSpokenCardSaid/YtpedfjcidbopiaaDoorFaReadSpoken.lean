/-
  The closed facts of the row of FnExactReadSpoken.
-/
import Derived.Test.YtpedfjcidbopiaaDoorRows
import Derived.Test.YtpedfjcidbopiaaDoorRow
namespace Go.Proofs.YtpedfjcidbopiaaDoor
namespace fnExactReadSpoken
theorem facts : joinedFacts Tryd.pinned.checked.prog 5 Tryd.f5 Rows.fnExactReadSpokenSpec Rows.fnExactReadSpokenRow = true := by kernel_rfl
end fnExactReadSpoken
end Go.Proofs.YtpedfjcidbopiaaDoor
