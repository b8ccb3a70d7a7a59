import Derived.Test.YtbfhfnejppfehaaDoorRows
import Derived.Test.YtbfhfnejppfehaaDoorMGainL04
/-
  The closed facts of the row of FnGain.
-/
namespace Go.Proofs.YtbfhfnejppfehaaDoor
namespace fnGain
theorem facts : joinedFacts Tryd.pinned.checked.prog 4 Tryd.f4 Rows.fnGainSpec Rows.fnGainRow = true := by kernel_rfl
end fnGain
end Go.Proofs.YtbfhfnejppfehaaDoor
