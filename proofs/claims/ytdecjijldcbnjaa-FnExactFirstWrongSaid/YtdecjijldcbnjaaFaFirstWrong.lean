/-
  The closed facts of the row of FirstWrong.
-/
import Derived.Test.YtdecjijldcbnjaaRows
import Derived.Test.YtdecjijldcbnjaaRow
namespace Go.Proofs.Ytdecjijldcbnjaa
namespace fnExactFirstWrong
theorem facts : joinedFacts Try.pinned.checked.prog 7 Try.f7 Rows.fnExactFirstWrongSpec Rows.fnExactFirstWrongRow = true := by kernel_rfl
end fnExactFirstWrong
end Go.Proofs.Ytdecjijldcbnjaa
