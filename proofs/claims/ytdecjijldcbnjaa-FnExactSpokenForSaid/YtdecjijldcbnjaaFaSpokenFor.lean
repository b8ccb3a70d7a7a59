/-
  The closed facts of the row of SpokenFor.
-/
import Derived.Test.YtdecjijldcbnjaaRows
import Derived.Test.YtdecjijldcbnjaaRow
namespace Go.Proofs.Ytdecjijldcbnjaa
namespace fnExactSpokenFor
theorem facts : joinedFacts Try.pinned.checked.prog 5 Try.f5 Rows.fnExactSpokenForSpec Rows.fnExactSpokenForRow = true := by kernel_rfl
end fnExactSpokenFor
end Go.Proofs.Ytdecjijldcbnjaa
