import Derived.Test.YtbfhfnejppfehaaDoorMGainL16
import Derived.Test.YtbfhfnejppfehaaDoorMGainL18
import Derived.StillTailTactics
/-
  The least prices: contract of the program.
-/
namespace Go.Proofs.YtbfhfnejppfehaaDoor
open Go.RowKit
set_option linter.unusedVariables false
set_option linter.unusedSimpArgs false
set_option maxRecDepth 100000

theorem allIn_of {q : List Int} {m : Nat} (h : q.length = m) (hb : ∀ i, i < m → 0 ≤ q.getD i 0 ∧ q.getD i 0 ≤ 63) : allIn q 0 1000 := fun s hs => by
  obtain ⟨i, hi, rfl⟩ := List.getElem_of_mem hs
  have := hb i (by omega)
  rw [getD_get hi] at this
  unfold inB; omega



end Go.Proofs.YtbfhfnejppfehaaDoor
