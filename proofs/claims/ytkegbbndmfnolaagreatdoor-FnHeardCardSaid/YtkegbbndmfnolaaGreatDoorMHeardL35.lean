import Derived.Test.YtkegbbndmfnolaaGreatDoorRows
import Derived.Test.YtkegbbndmfnolaaGreatDoorMHeardL01
/-
  The closed facts of the row of FnHeard.
-/
namespace Go.Proofs.YtkegbbndmfnolaaGreatDoor
namespace fnHeard
theorem facts : joinedFacts Tryz.pinned.checked.prog 4 Tryz.f4 Rows.fnHeardSpec Rows.fnHeardRow = true := by kernel_rfl
end fnHeard
end Go.Proofs.YtkegbbndmfnolaaGreatDoor
