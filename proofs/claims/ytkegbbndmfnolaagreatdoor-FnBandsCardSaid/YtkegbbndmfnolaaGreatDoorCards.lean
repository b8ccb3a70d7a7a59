/-
  DERIVED. GIVEN WITH THE SEED: THE CARDS: each row of YtkegbbndmfnolaaGreatDoorRows.lean that lists a variable, with what it lists TIED to the program's text (the seventh form; the later family's looks); each row that meets fmt, with fmt's text TOLD by the authors' own Lean function (tested against real Go, not proved from fmt's source: count such statements apart). THE CARD IS WHAT COUNTS. Prove the row's statement (the work); the ties are given (YtkegbbndmfnolaaGreatDoorTie.lean); close each card by the builder's one call (the guide's Derived/Test/ToyasCard.lean, 'card_holds'). Laid BY PROGRAM, IN A SANDBOX (cutbox-door.mjs). By AI agents, Wed Nov 11 2026. No macro, syntax, notation, axiom, sorry.
-/
import Derived.Test.YtkegbbndmfnolaaGreatDoorRows
import GoSem.ClaimSeven
namespace Go.Proofs.YtkegbbndmfnolaaGreatDoor
namespace Rows

/-- THE TIED CARD OF 'laws.FnBands'. -/
def fnBandsCard : Claim7 := { stood := { row := fnBandsRow, standIns := [], harness := (true, "c9dff07b3bdef47f20fb2973a65faf6ce1f9196787a7a18bb3eee8ad2dabd9d8"), looks := false }, kinds := [], alts := [], laidByText := true, laidKinds := [.data, .data, .data], laidTests := true, laidLooks := .later }
def FnBandsCardSaid : Prop := Claim7.holds Tryz.pinned (.plain (OpenSpec.ofChange fnBandsSpec)) fnBandsCard

/-- THE TIED CARD OF 'laws.FnHeard'. -/
def fnHeardCard : Claim7 := { stood := { row := fnHeardRow, standIns := [], harness := (true, "c9dff07b3bdef47f20fb2973a65faf6ce1f9196787a7a18bb3eee8ad2dabd9d8"), looks := false }, kinds := [], alts := [], laidByText := true, laidKinds := [.data, .data, .data, .data, .pinned], laidTests := true, laidLooks := .later }
def FnHeardCardSaid : Prop := Claim7.holds Tryz.pinned (.plain (OpenSpec.ofChange fnHeardSpec)) fnHeardCard

/-- THE TIED CARD OF 'laws.FnBandSlips'. -/
def fnBandSlipsCard : Claim7 := { stood := { row := fnBandSlipsRow, standIns := [], harness := (true, "c9dff07b3bdef47f20fb2973a65faf6ce1f9196787a7a18bb3eee8ad2dabd9d8"), looks := false }, kinds := [], alts := [], laidByText := true, laidKinds := [.data, .data, .data], laidTests := true, laidLooks := .later }
def FnBandSlipsCardSaid : Prop := Claim7.holds Tryz.pinned (.plain (OpenSpec.ofChange fnBandSlipsSpec)) fnBandSlipsCard

/-- THE SECOND FORM's CARD OF 'laws.FnBands'. -/
def fnBandsUptoCard : Claim7 := { stood := { row := fnBandsUptoRow, standIns := [], harness := (true, "c9dff07b3bdef47f20fb2973a65faf6ce1f9196787a7a18bb3eee8ad2dabd9d8"), looks := false }, kinds := [], alts := [], laidByText := true, laidKinds := [.data, .data, .data], laidTests := true, laidLooks := .later }
def FnBandsUptoCardSaid : Prop := Claim7.holds Tryz.pinned (.plain (OpenSpec.upto fnBandsSpec)) fnBandsUptoCard

/-- THE SECOND FORM's CARD OF 'laws.FnHeard'. -/
def fnHeardUptoCard : Claim7 := { stood := { row := fnHeardUptoRow, standIns := [], harness := (true, "c9dff07b3bdef47f20fb2973a65faf6ce1f9196787a7a18bb3eee8ad2dabd9d8"), looks := false }, kinds := [], alts := [], laidByText := true, laidKinds := [.data, .data, .data, .data, .pinned], laidTests := true, laidLooks := .later }
def FnHeardUptoCardSaid : Prop := Claim7.holds Tryz.pinned (.plain (OpenSpec.upto fnHeardSpec)) fnHeardUptoCard

/-- THE SECOND FORM's CARD OF 'laws.FnBandSlips'. -/
def fnBandSlipsUptoCard : Claim7 := { stood := { row := fnBandSlipsUptoRow, standIns := [], harness := (true, "c9dff07b3bdef47f20fb2973a65faf6ce1f9196787a7a18bb3eee8ad2dabd9d8"), looks := false }, kinds := [], alts := [], laidByText := true, laidKinds := [.data, .data, .data], laidTests := true, laidLooks := .later }
def FnBandSlipsUptoCardSaid : Prop := Claim7.holds Tryz.pinned (.plain (OpenSpec.upto fnBandSlipsSpec)) fnBandSlipsUptoCard
end Rows
end Go.Proofs.YtkegbbndmfnolaaGreatDoor
