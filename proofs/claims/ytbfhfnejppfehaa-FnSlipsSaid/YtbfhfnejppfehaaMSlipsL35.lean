import Derived.Test.YtbfhfnejppfehaaRows
import Derived.Test.YtbfhfnejppfehaaMSlipsL03
/-
  The closed facts of the row of FnSlips.
-/
namespace Go.Proofs.Ytbfhfnejppfehaa
namespace fnSlips
theorem facts : joinedFacts Try.pinned.checked.prog 3 Try.f3 Rows.fnSlipsSpec Rows.fnSlipsRow = true := by kernel_rfl
end fnSlips
end Go.Proofs.Ytbfhfnejppfehaa
