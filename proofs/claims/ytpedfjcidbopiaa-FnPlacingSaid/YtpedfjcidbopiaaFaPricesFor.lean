/-
  The closed facts of the row of PricesFor.
-/
import Derived.Test.YtpedfjcidbopiaaRows
import Derived.Test.YtpedfjcidbopiaaRow
namespace Go.Proofs.Ytpedfjcidbopiaa
end Go.Proofs.Ytpedfjcidbopiaa
