import Derived.Test.YtglnehinmdmgmaaGreatRows
import Derived.Test.YtglnehinmdmgmaaGreatMErrorsL01
import Derived.StillTailTactics
import Derived.Deep.RegionHeld3
/-
  Contracts of the helper functions that the laws use for lists of Blow.
-/
namespace Go.Proofs.YtglnehinmdmgmaaGreat
open Go.RowKit Go.ChangeShapes Go.WideShapes
set_option linter.unusedVariables false
set_option linter.unusedSimpArgs false
set_option maxRecDepth 100000


structure Blw where
  row : Int
  place : Int
  at_ : Int

def Blw.enc (x : Blw) : List Value := [.int .i64 x.row, .int .i64 x.place, .int .i64 x.at_]
theorem Blw_enc_len (x : Blw) : (Blw.enc x).length = 3 := rfl
def Blow_small (lim : Int) (x : Blw) : Prop := True
theorem Blow_info : (Tryz.prog.info? 43).map (fun i => (i.zero, i.size, i.bytes)) = some (some (.agg #[.int .i64 0, .int .i64 0, .int .i64 0]), 3, 24) := by kernel_rfl

/-- What the marks make of a list of so many elements. -/
def markBlowL (m q : Nat) : List Blw := (List.range m).map fun i : Nat => (⟨((q + i * 3 : Nat) : Int), ((q + i * 3 + 1 : Nat) : Int), ((q + i * 3 + 2 : Nat) : Int)⟩ : Blw)
end Go.Proofs.YtglnehinmdmgmaaGreat