/-
  Contracts of the helper functions that the laws use for lists of Int.
-/
import Derived.Test.YtpedfjcidbopiaaRows
import Derived.Test.YtpedfjcidbopiaaMark
import Derived.Test.YtpedfjcidbopiaaOpen
import Derived.StillTailTactics
import Derived.Deep.RegionHeld3
namespace Go.Proofs.Ytpedfjcidbopiaa
open Go.RowKit Go.ChangeShapes Go.WideShapes
set_option linter.unusedVariables false
set_option linter.unusedSimpArgs false
set_option maxRecDepth 100000


def encInt (x : Int) : List Value := [.int .i64 x]
theorem encInt_len (x : Int) : (encInt x).length = 1 := rfl
def Int_small (lim : Int) (x : Int) : Prop := True
theorem Int_info : (Try.prog.info? 3).map (fun i => (i.zero, i.size, i.bytes)) = some (some (.int .i64 0), 1, 8) := by kernel_rfl

/-- What the marks make of a list of so many elements. -/
def markIntL (m q : Nat) : List Int := (List.range m).map fun i : Nat => (((q + i : Nat) : Int) : Int)
theorem markIntL_len (m q : Nat) : (markIntL m q).length = m := by simp [markIntL]
theorem markIntL_at (m q i : Nat) (hi : i < (markIntL m q).length) : (markIntL m q)[i] = (((q + i : Nat) : Int) : Int) := by simp [markIntL]
end Go.Proofs.Ytpedfjcidbopiaa