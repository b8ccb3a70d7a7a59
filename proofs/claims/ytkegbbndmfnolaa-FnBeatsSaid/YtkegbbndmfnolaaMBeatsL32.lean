import Derived.Test.YtkegbbndmfnolaaRows
import Derived.Test.YtkegbbndmfnolaaMBeatsL02
/-
  The closed facts of the row of FnBeats.
-/
namespace Go.Proofs.Ytkegbbndmfnolaa
namespace fnBeats
theorem facts : joinedFacts Try.pinned.checked.prog 4 Try.f4 Rows.fnBeatsSpec Rows.fnBeatsRow = true := by kernel_rfl
end fnBeats
end Go.Proofs.Ytkegbbndmfnolaa
