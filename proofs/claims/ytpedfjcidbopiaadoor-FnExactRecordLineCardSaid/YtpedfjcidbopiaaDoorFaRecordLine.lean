/-
  The closed facts of the row of FnExactRecordLine.
-/
import Derived.Test.YtpedfjcidbopiaaDoorRows
import Derived.Test.YtpedfjcidbopiaaDoorRow
namespace Go.Proofs.YtpedfjcidbopiaaDoor
namespace fnExactRecordLine
theorem facts : joinedFacts Tryd.pinned.checked.prog 4 Tryd.f4 Rows.fnExactRecordLineSpec Rows.fnExactRecordLineRow = true := by kernel_rfl
end fnExactRecordLine
end Go.Proofs.YtpedfjcidbopiaaDoor
