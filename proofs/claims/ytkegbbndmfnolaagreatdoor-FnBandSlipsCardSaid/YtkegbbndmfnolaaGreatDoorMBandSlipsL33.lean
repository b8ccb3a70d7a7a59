import Derived.Test.YtkegbbndmfnolaaGreatDoorRows
import Derived.Test.YtkegbbndmfnolaaGreatDoorMBandSlipsL01
/-
  The closed facts of the row of FnBandSlips.
-/
namespace Go.Proofs.YtkegbbndmfnolaaGreatDoor
namespace fnBandSlips
theorem facts : joinedFacts Tryz.pinned.checked.prog 5 Tryz.f5 Rows.fnBandSlipsSpec Rows.fnBandSlipsRow = true := by kernel_rfl
end fnBandSlips
end Go.Proofs.YtkegbbndmfnolaaGreatDoor
