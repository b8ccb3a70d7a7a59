import Derived.Test.YtbfhfnejppfehaaDoorRows
import Derived.Test.YtbfhfnejppfehaaDoorMRingTouchL01
/-
  The closed facts of the row of RingTouch.
-/
namespace Go.Proofs.YtbfhfnejppfehaaDoor
namespace fnExactRingTouch
theorem facts : joinedFacts Tryd.pinned.checked.prog 3 Tryd.f3 Rows.fnExactRingTouchSpec Rows.fnExactRingTouchRow = true := by kernel_rfl
end fnExactRingTouch
end Go.Proofs.YtbfhfnejppfehaaDoor
