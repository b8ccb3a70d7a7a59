/-
  Contracts of the helper functions that the laws use for lists of String.
-/
import Derived.Test.YtkblldbilofdgaaDoorRows
import Derived.Test.YtkblldbilofdgaaDoorMark
import Derived.Test.YtkblldbilofdgaaDoorOpen
import Derived.StillTailTactics
import Derived.Deep.RegionHeld3
namespace Go.Proofs.YtkblldbilofdgaaDoor
open Go.RowKit Go.ChangeShapes Go.WideShapes
set_option linter.unusedVariables false
set_option linter.unusedSimpArgs false
set_option maxRecDepth 100000


def encString (x : ByteArray) : List Value := [.string x]
theorem encString_len (x : ByteArray) : (encString x).length = 1 := rfl
def String_small (lim : Int) (x : ByteArray) : Prop := (x.size : Int) ≤ lim
theorem String_info : (Tryd.prog.info? 9).map (fun i => (i.zero, i.size, i.bytes)) = some (some (.string ⟨#[]⟩), 1, 16) := by kernel_rfl

/-- What the marks make of a list of so many elements. -/
def markStringL (m q : Nat) : List ByteArray := (List.range m).map fun i : Nat => ((markT (q + i)) : ByteArray)
theorem markStringL_len (m q : Nat) : (markStringL m q).length = m := by simp [markStringL]
theorem markStringL_at (m q i : Nat) (hi : i < (markStringL m q).length) : (markStringL m q)[i] = ((markT (q + i)) : ByteArray) := by simp [markStringL]
end Go.Proofs.YtkblldbilofdgaaDoor