import Derived.Test.YtkegbbndmfnolaaGreatRows
import Derived.Test.YtkegbbndmfnolaaGreatMSpokenL01
/-
  The closed facts of the row of FnSpoken.
-/
namespace Go.Proofs.YtkegbbndmfnolaaGreat
namespace fnSpoken
theorem facts : joinedFacts Tryz.pinned.checked.prog 4 Tryz.f4 Rows.fnSpokenSpec Rows.fnSpokenRow = true := by kernel_rfl
end fnSpoken
end Go.Proofs.YtkegbbndmfnolaaGreat
