/-
  The closed facts of the row of FnExactPlacingText.
-/
import Derived.Test.YtpedfjcidbopiaaDoorRows
import Derived.Test.YtpedfjcidbopiaaDoorRow
namespace Go.Proofs.YtpedfjcidbopiaaDoor
namespace fnExactPlacingText
theorem facts : joinedFacts Tryd.pinned.checked.prog 6 Tryd.f6 Rows.fnExactPlacingTextSpec Rows.fnExactPlacingTextRow = true := by kernel_rfl
end fnExactPlacingText
end Go.Proofs.YtpedfjcidbopiaaDoor
