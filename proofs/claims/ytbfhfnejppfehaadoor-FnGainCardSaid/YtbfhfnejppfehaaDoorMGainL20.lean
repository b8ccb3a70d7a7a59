import Derived.Test.YtbfhfnejppfehaaDoorRows
import Derived.Test.YtbfhfnejppfehaaDoorMGainL04
/-
  The closed facts of the row of PricesFor.
-/
namespace Go.Proofs.YtbfhfnejppfehaaDoor
end Go.Proofs.YtbfhfnejppfehaaDoor
