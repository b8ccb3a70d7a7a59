/-
  The closed facts of the row of FitBeat.
-/
import Derived.Test.YtebmlcollanfhaaRows
import Derived.Test.YtebmlcollanfhaaRow
namespace Go.Proofs.Ytebmlcollanfhaa
namespace fnExactFitBeat
theorem facts : joinedFacts Try.pinned.checked.prog 11 Try.f11 Rows.fnExactFitBeatSpec Rows.fnExactFitBeatRow = true := by kernel_rfl
end fnExactFitBeat
end Go.Proofs.Ytebmlcollanfhaa
