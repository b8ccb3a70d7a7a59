/-
  The closed facts of the row of DoBand.
-/
import Derived.Test.YtdecjijldcbnjaaRows
import Derived.Test.YtdecjijldcbnjaaRow
namespace Go.Proofs.Ytdecjijldcbnjaa
namespace fnExactDoBand
theorem facts : joinedFacts Try.pinned.checked.prog 9 Try.f9 Rows.fnExactDoBandSpec Rows.fnExactDoBandRow = true := by kernel_rfl
end fnExactDoBand
end Go.Proofs.Ytdecjijldcbnjaa
