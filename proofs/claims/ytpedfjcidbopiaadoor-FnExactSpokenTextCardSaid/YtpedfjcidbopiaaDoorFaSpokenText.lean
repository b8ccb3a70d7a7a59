/-
  The closed facts of the row of FnExactSpokenText.
-/
import Derived.Test.YtpedfjcidbopiaaDoorRows
import Derived.Test.YtpedfjcidbopiaaDoorRow
namespace Go.Proofs.YtpedfjcidbopiaaDoor
namespace fnExactSpokenText
theorem facts : joinedFacts Tryd.pinned.checked.prog 3 Tryd.f3 Rows.fnExactSpokenTextSpec Rows.fnExactSpokenTextRow = true := by kernel_rfl
end fnExactSpokenText
end Go.Proofs.YtpedfjcidbopiaaDoor
