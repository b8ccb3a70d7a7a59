/-
  The closed facts of the row of TouchSaid.
-/
import Derived.Test.YtdecjijldcbnjaaRows
import Derived.Test.YtdecjijldcbnjaaRow
namespace Go.Proofs.Ytdecjijldcbnjaa
namespace fnExactTouchSaid
theorem facts : joinedFacts Try.pinned.checked.prog 10 Try.f10 Rows.fnExactTouchSaidSpec Rows.fnExactTouchSaidRow = true := by kernel_rfl
end fnExactTouchSaid
end Go.Proofs.Ytdecjijldcbnjaa
