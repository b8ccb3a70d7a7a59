import Derived.Test.YtkegbbndmfnolaaGreatDoorRows
import Derived.Test.YtkegbbndmfnolaaGreatDoorMBandsL01
/-
 The closed facts of the row of FnBands.
-/
namespace Go.Proofs.YtkegbbndmfnolaaGreatDoor
namespace fnBands
theorem facts : joinedFacts Tryz.pinned.checked.prog 3 Tryz.f3 Rows.fnBandsSpec Rows.fnBandsRow = true := by kernel_rfl
end fnBands
end Go.Proofs.YtkegbbndmfnolaaGreatDoor
