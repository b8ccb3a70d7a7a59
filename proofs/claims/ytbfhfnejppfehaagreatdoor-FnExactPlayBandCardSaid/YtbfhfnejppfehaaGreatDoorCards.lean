/-
  DERIVED. GIVEN WITH THE SEED: THE CARDS: each row of YtbfhfnejppfehaaGreatDoorRows.lean that lists a variable, with what it lists TIED to the program's text (the seventh form; the later family's looks); each row that meets fmt, with fmt's text TOLD by the authors' own Lean function (tested against real Go, not proved from fmt's source: count such statements apart). THE CARD IS WHAT COUNTS. Prove the row's statement (the work); the ties are given (YtbfhfnejppfehaaGreatDoorTie.lean); close each card by the builder's one call (the guide's Derived/Test/ToyasCard.lean, 'card_holds'). Laid BY PROGRAM, IN A SANDBOX (cutbox-door.mjs). By AI agents, Wed Nov 11 2026. No macro, syntax, notation, axiom, sorry.
-/
import Derived.Test.YtbfhfnejppfehaaGreatDoorRows
import GoSem.ClaimSeven
namespace Go.Proofs.YtbfhfnejppfehaaGreatDoor
namespace Rows

/-- THE TIED CARD OF 'laws.FnBands'. -/
def fnBandsCard : Claim7 := { stood := { row := fnBandsRow, standIns := [], harness := (true, "8ea8722d9bec10e40dd518fc551386b0131c2808448e8c77b75e0d0b3d94450e"), looks := false }, kinds := [], alts := [], laidByText := true, laidKinds := [.data, .data, .data], laidTests := true, laidLooks := .later }
def FnBandsCardSaid : Prop := Claim7.holds Tryz.pinned (.plain (OpenSpec.ofChange fnBandsSpec)) fnBandsCard

/-- THE TIED CARD OF 'laws.FnHeard'. -/
def fnHeardCard : Claim7 := { stood := { row := fnHeardRow, standIns := [], harness := (true, "8ea8722d9bec10e40dd518fc551386b0131c2808448e8c77b75e0d0b3d94450e"), looks := false }, kinds := [], alts := [], laidByText := true, laidKinds := [.data, .data, .data, .data, .pinned], laidTests := true, laidLooks := .later }
def FnHeardCardSaid : Prop := Claim7.holds Tryz.pinned (.plain (OpenSpec.ofChange fnHeardSpec)) fnHeardCard

/-- THE TIED CARD OF 'laws.FnExactPlayBand'. -/
def fnExactPlayBandCard : Claim7 := { stood := { row := fnExactPlayBandRow, standIns := [], harness := (true, "8ea8722d9bec10e40dd518fc551386b0131c2808448e8c77b75e0d0b3d94450e"), looks := false }, kinds := [], alts := [], laidByText := true, laidKinds := [.data, .data, .data], laidTests := true, laidLooks := .later }
def FnExactPlayBandCardSaid : Prop := Claim7.holds Tryz.pinned (.plain (OpenSpec.ofChange fnExactPlayBandSpec)) fnExactPlayBandCard

/-- THE TIED CARD OF 'laws.FnBandSlips'. -/
def fnBandSlipsCard : Claim7 := { stood := { row := fnBandSlipsRow, standIns := [], harness := (true, "8ea8722d9bec10e40dd518fc551386b0131c2808448e8c77b75e0d0b3d94450e"), looks := false }, kinds := [], alts := [], laidByText := true, laidKinds := [.data, .data, .data], laidTests := true, laidLooks := .later }
def FnBandSlipsCardSaid : Prop := Claim7.holds Tryz.pinned (.plain (OpenSpec.ofChange fnBandSlipsSpec)) fnBandSlipsCard

/-- THE SECOND FORM's CARD OF 'laws.FnBands'. -/
def fnBandsUptoCard : Claim7 := { stood := { row := fnBandsUptoRow, standIns := [], harness := (true, "8ea8722d9bec10e40dd518fc551386b0131c2808448e8c77b75e0d0b3d94450e"), looks := false }, kinds := [], alts := [], laidByText := true, laidKinds := [.data, .data, .data], laidTests := true, laidLooks := .later }
def FnBandsUptoCardSaid : Prop := Claim7.holds Tryz.pinned (.plain (OpenSpec.upto fnBandsSpec)) fnBandsUptoCard

/-- THE SECOND FORM's CARD OF 'laws.FnHeard'. -/
def fnHeardUptoCard : Claim7 := { stood := { row := fnHeardUptoRow, standIns := [], harness := (true, "8ea8722d9bec10e40dd518fc551386b0131c2808448e8c77b75e0d0b3d94450e"), looks := false }, kinds := [], alts := [], laidByText := true, laidKinds := [.data, .data, .data, .data, .pinned], laidTests := true, laidLooks := .later }
def FnHeardUptoCardSaid : Prop := Claim7.holds Tryz.pinned (.plain (OpenSpec.upto fnHeardSpec)) fnHeardUptoCard

/-- THE SECOND FORM's CARD OF 'laws.FnExactPlayBand'. -/
def fnExactPlayBandUptoCard : Claim7 := { stood := { row := fnExactPlayBandUptoRow, standIns := [], harness := (true, "8ea8722d9bec10e40dd518fc551386b0131c2808448e8c77b75e0d0b3d94450e"), looks := false }, kinds := [], alts := [], laidByText := true, laidKinds := [.data, .data, .data], laidTests := true, laidLooks := .later }
def FnExactPlayBandUptoCardSaid : Prop := Claim7.holds Tryz.pinned (.plain (OpenSpec.upto fnExactPlayBandSpec)) fnExactPlayBandUptoCard

/-- THE SECOND FORM's CARD OF 'laws.FnBandSlips'. -/
def fnBandSlipsUptoCard : Claim7 := { stood := { row := fnBandSlipsUptoRow, standIns := [], harness := (true, "8ea8722d9bec10e40dd518fc551386b0131c2808448e8c77b75e0d0b3d94450e"), looks := false }, kinds := [], alts := [], laidByText := true, laidKinds := [.data, .data, .data], laidTests := true, laidLooks := .later }
def FnBandSlipsUptoCardSaid : Prop := Claim7.holds Tryz.pinned (.plain (OpenSpec.upto fnBandSlipsSpec)) fnBandSlipsUptoCard
end Rows
end Go.Proofs.YtbfhfnejppfehaaGreatDoor
