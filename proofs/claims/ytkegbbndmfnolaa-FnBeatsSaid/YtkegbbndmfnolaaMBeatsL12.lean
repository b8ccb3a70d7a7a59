import Derived.Test.YtkegbbndmfnolaaRows
import Derived.Test.YtkegbbndmfnolaaMBeatsL02
/-
  The closed facts of the row of FitBeat.
-/
namespace Go.Proofs.Ytkegbbndmfnolaa
end Go.Proofs.Ytkegbbndmfnolaa
