/-
  The closed facts of the row of FnSwaps.
-/
import Derived.Test.YtdecjijldcbnjaaRows
import Derived.Test.YtdecjijldcbnjaaRow
namespace Go.Proofs.Ytdecjijldcbnjaa
namespace fnSwaps
theorem facts : joinedFacts Try.pinned.checked.prog 3 Try.f3 Rows.fnSwapsSpec Rows.fnSwapsRow = true := by kernel_rfl
end fnSwaps
end Go.Proofs.Ytdecjijldcbnjaa
