/-
  The closed facts of the row of FnExactRowOfBand.
-/
import Derived.Test.YtpedfjcidbopiaaDoorRows
import Derived.Test.YtpedfjcidbopiaaDoorRow
namespace Go.Proofs.YtpedfjcidbopiaaDoor
namespace fnExactRowOfBand
theorem facts : joinedFacts Tryd.pinned.checked.prog 7 Tryd.f7 Rows.fnExactRowOfBandSpec Rows.fnExactRowOfBandRow = true := by kernel_rfl
end fnExactRowOfBand
end Go.Proofs.YtpedfjcidbopiaaDoor
