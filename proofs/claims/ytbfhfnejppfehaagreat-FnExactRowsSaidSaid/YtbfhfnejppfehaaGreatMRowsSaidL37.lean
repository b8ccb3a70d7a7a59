import Derived.Test.YtbfhfnejppfehaaGreatRows
import Derived.Test.YtbfhfnejppfehaaGreatMRowsSaidL03
/-
  The closed facts of the row of RowsSaid.
-/
namespace Go.Proofs.YtbfhfnejppfehaaGreat
namespace fnExactRowsSaid
theorem facts : joinedFacts Tryz.pinned.checked.prog 4 Tryz.f4 Rows.fnExactRowsSaidSpec Rows.fnExactRowsSaidRow = true := by kernel_rfl
end fnExactRowsSaid
end Go.Proofs.YtbfhfnejppfehaaGreat
