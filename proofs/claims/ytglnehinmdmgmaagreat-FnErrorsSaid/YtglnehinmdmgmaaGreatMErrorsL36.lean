import Derived.Test.YtglnehinmdmgmaaGreatRows
import Derived.Test.YtglnehinmdmgmaaGreatMErrorsL01
/-
  The closed facts of the row of FnErrors.
-/
namespace Go.Proofs.YtglnehinmdmgmaaGreat
namespace fnErrors
theorem facts : joinedFacts Tryz.pinned.checked.prog 3 Tryz.f3 Rows.fnErrorsSpec Rows.fnErrorsRow = true := by kernel_rfl
end fnErrors
end Go.Proofs.YtglnehinmdmgmaaGreat
