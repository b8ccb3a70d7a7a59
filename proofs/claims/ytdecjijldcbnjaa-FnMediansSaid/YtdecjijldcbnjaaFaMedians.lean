/-
  The closed facts of the row of FnMedians.
-/
import Derived.Test.YtdecjijldcbnjaaRows
import Derived.Test.YtdecjijldcbnjaaRow
namespace Go.Proofs.Ytdecjijldcbnjaa
namespace fnMedians
theorem facts : joinedFacts Try.pinned.checked.prog 6 Try.f6 Rows.fnMediansSpec Rows.fnMediansRow = true := by kernel_rfl
end fnMedians
end Go.Proofs.Ytdecjijldcbnjaa
