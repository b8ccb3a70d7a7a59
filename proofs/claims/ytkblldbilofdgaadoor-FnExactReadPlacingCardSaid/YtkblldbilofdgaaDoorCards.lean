/-
  DERIVED. GIVEN WITH THE SEED: THE CARDS: each row of YtkblldbilofdgaaDoorRows.lean that lists a variable, with what it lists TIED to the program's text (the seventh form; the later family's looks); each row that meets fmt, with fmt's text TOLD by the authors' own Lean function (tested against real Go, not proved from fmt's source: count such statements apart). THE CARD IS WHAT COUNTS. Prove the row's statement (the work); the ties are given (YtkblldbilofdgaaDoorTie.lean); close each card by the builder's one call (the guide's Derived/Test/ToyasCard.lean, 'card_holds'). Laid BY PROGRAM, IN A SANDBOX (cutbox-door.mjs). By AI agents, Wed Nov 11 2026. No macro, syntax, notation, axiom, sorry.
-/
import Derived.Test.YtkblldbilofdgaaDoorRows
import GoSem.ClaimSeven
namespace Go.Proofs.YtkblldbilofdgaaDoor
namespace Rows

/-- THE TIED CARD OF 'laws.FnExactReadPlacing'. -/
def fnExactReadPlacingCard : Claim7 := { stood := { row := fnExactReadPlacingRow, standIns := [], harness := (true, "e91a3c7c89a735fc6790b2c587fcbe23081ef100aa01b0a350f8c33b15be2bc5"), looks := false }, kinds := [], alts := [], laidByText := true, laidKinds := [.data, .data, .data, .data, .pinned], laidTests := true, laidLooks := .later }
def FnExactReadPlacingCardSaid : Prop := Claim7.holds Tryd.pinned (.plain (OpenSpec.ofChange fnExactReadPlacingSpec)) fnExactReadPlacingCard

/-- THE SECOND FORM's CARD OF 'laws.FnExactReadPlacing'. -/
def fnExactReadPlacingUptoCard : Claim7 := { stood := { row := fnExactReadPlacingUptoRow, standIns := [], harness := (true, "e91a3c7c89a735fc6790b2c587fcbe23081ef100aa01b0a350f8c33b15be2bc5"), looks := false }, kinds := [], alts := [], laidByText := true, laidKinds := [.data, .data, .data, .data, .pinned], laidTests := true, laidLooks := .later }
def FnExactReadPlacingUptoCardSaid : Prop := Claim7.holds Tryd.pinned (.plain (OpenSpec.upto fnExactReadPlacingSpec)) fnExactReadPlacingUptoCard
end Rows
end Go.Proofs.YtkblldbilofdgaaDoor
