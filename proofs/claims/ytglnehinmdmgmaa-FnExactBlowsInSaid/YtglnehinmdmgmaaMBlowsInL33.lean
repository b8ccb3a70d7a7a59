import Derived.Test.YtglnehinmdmgmaaRows
import Derived.Test.YtglnehinmdmgmaaMBlowsInL05
/-
  The closed facts of the row of BlowsIn.
-/
namespace Go.Proofs.Ytglnehinmdmgmaa
namespace fnExactBlowsIn
theorem facts : joinedFacts Try.pinned.checked.prog 3 Try.f3 Rows.fnExactBlowsInSpec Rows.fnExactBlowsInRow = true := by kernel_rfl
end fnExactBlowsIn
end Go.Proofs.Ytglnehinmdmgmaa
