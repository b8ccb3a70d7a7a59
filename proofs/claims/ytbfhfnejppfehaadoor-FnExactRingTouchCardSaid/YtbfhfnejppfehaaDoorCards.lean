/-
  DERIVED. GIVEN WITH THE SEED: THE CARDS: each row of YtbfhfnejppfehaaDoorRows.lean that lists a variable, with what it lists TIED to the program's text (the seventh form; the later family's looks); each row that meets fmt, with fmt's text TOLD by the authors' own Lean function (tested against real Go, not proved from fmt's source: count such statements apart). THE CARD IS WHAT COUNTS. Prove the row's statement (the work); the ties are given (YtbfhfnejppfehaaDoorTie.lean); close each card by the builder's one call (the guide's Derived/Test/ToyasCard.lean, 'card_holds'). Laid BY PROGRAM, IN A SANDBOX (cutbox-door.mjs). By AI agents, Wed Nov 11 2026. No macro, syntax, notation, axiom, sorry.
-/
import Derived.Test.YtbfhfnejppfehaaDoorRows
import GoSem.ClaimSeven
namespace Go.Proofs.YtbfhfnejppfehaaDoor
namespace Rows

/-- THE TIED CARD OF 'laws.FnExactRingTouch'. -/
def fnExactRingTouchCard : Claim7 := { stood := { row := fnExactRingTouchRow, standIns := [], harness := (true, "22eada7432c92aaa50ed3d218d6b17cca8d55101b5a36205df56ea99271da9eb"), looks := false }, kinds := [], alts := [], laidByText := true, laidKinds := [.data, .data, .data], laidTests := true, laidLooks := .later }
def FnExactRingTouchCardSaid : Prop := Claim7.holds Tryd.pinned (.plain (OpenSpec.ofChange fnExactRingTouchSpec)) fnExactRingTouchCard

/-- THE TIED CARD OF 'laws.FnGain'. -/
def fnGainCard : Claim7 := { stood := { row := fnGainRow, standIns := [], harness := (true, "22eada7432c92aaa50ed3d218d6b17cca8d55101b5a36205df56ea99271da9eb"), looks := false }, kinds := [], alts := [], laidByText := true, laidKinds := [.data, .data, .data, .data, .pinned], laidTests := true, laidLooks := .later }
def FnGainCardSaid : Prop := Claim7.holds Tryd.pinned (.plain (OpenSpec.ofChange fnGainSpec)) fnGainCard

/-- THE SECOND FORM's CARD OF 'laws.FnExactRingTouch'. -/
def fnExactRingTouchUptoCard : Claim7 := { stood := { row := fnExactRingTouchUptoRow, standIns := [], harness := (true, "22eada7432c92aaa50ed3d218d6b17cca8d55101b5a36205df56ea99271da9eb"), looks := false }, kinds := [], alts := [], laidByText := true, laidKinds := [.data, .data, .data], laidTests := true, laidLooks := .later }
def FnExactRingTouchUptoCardSaid : Prop := Claim7.holds Tryd.pinned (.plain (OpenSpec.upto fnExactRingTouchSpec)) fnExactRingTouchUptoCard

/-- THE SECOND FORM's CARD OF 'laws.FnGain'. -/
def fnGainUptoCard : Claim7 := { stood := { row := fnGainUptoRow, standIns := [], harness := (true, "22eada7432c92aaa50ed3d218d6b17cca8d55101b5a36205df56ea99271da9eb"), looks := false }, kinds := [], alts := [], laidByText := true, laidKinds := [.data, .data, .data, .data, .pinned], laidTests := true, laidLooks := .later }
def FnGainUptoCardSaid : Prop := Claim7.holds Tryd.pinned (.plain (OpenSpec.upto fnGainSpec)) fnGainUptoCard
end Rows
end Go.Proofs.YtbfhfnejppfehaaDoor
