import Derived.Test.YtbfhfnejppfehaaGreatDoorRows
import Derived.Test.YtbfhfnejppfehaaGreatDoorMPlayBandL01
/-
  The closed facts of the row of PlayBand.
-/
namespace Go.Proofs.YtbfhfnejppfehaaGreatDoor
namespace fnExactPlayBand
theorem facts : joinedFacts Tryz.pinned.checked.prog 5 Tryz.f5 Rows.fnExactPlayBandSpec Rows.fnExactPlayBandRow = true := by kernel_rfl
end fnExactPlayBand
end Go.Proofs.YtbfhfnejppfehaaGreatDoor
