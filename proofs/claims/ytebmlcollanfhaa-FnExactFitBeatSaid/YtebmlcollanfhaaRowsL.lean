/-
  Contracts: lists of rows (both sides); two lists of rows of one length and stage.
-/
import Derived.Test.YtebmlcollanfhaaL1c
import Derived.Test.YtebmlcollanfhaaTyString
namespace Go.Proofs.Ytebmlcollanfhaa
open Go.RowKit
set_option linter.unusedVariables false
set_option linter.unusedSimpArgs false
set_option maxRecDepth 100000

/-- The size of a list's first row. -/
def sz0 (l : List ByteArray) : Nat := match l with | [] => 0 | x :: _ => x.size
theorem sz0_eq (l : List ByteArray) (h : 0 < l.length) : sz0 l = l[0].size := by
  cases l with
  | nil => simp at h
  | cons x l => rfl
/-- A list of rows of one stage. -/
def rowsP (l : List ByteArray) : Prop := l.length ≤ 800 ∧ ∀ (i : Nat) (hi : i < l.length), isRow l[i] ∧ l[i].size = sz0 l


end Go.Proofs.Ytebmlcollanfhaa
