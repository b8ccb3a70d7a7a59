/-
  DERIVED. GIVEN WITH THE SEED: THE CARDS: each row of YtpedfjcidbopiaaDoorRows.lean that lists a variable, with what it lists TIED to the program's text (the seventh form; the later family's looks); each row that meets fmt, with fmt's text TOLD by the authors' own Lean function (tested against real Go, not proved from fmt's source: count such statements apart). THE CARD IS WHAT COUNTS. Prove the row's statement (the work); the ties are given (YtpedfjcidbopiaaDoorTie.lean); close each card by the builder's one call (the guide's Derived/Test/ToyasCard.lean, 'card_holds'). Laid BY PROGRAM, IN A SANDBOX (cutbox-door.mjs). By AI agents, Wed Nov 11 2026. No macro, syntax, notation, axiom, sorry.
-/
import Derived.Test.YtpedfjcidbopiaaDoorRows
import GoSem.ClaimSeven
namespace Go.Proofs.YtpedfjcidbopiaaDoor
namespace Rows

/-- THE TIED CARD OF 'laws.FnExactSpokenText'. -/
def fnExactSpokenTextCard : Claim7 := { stood := { row := fnExactSpokenTextRow, standIns := [], harness := (true, "8fdb6f0415f5832eb9ac773a81c0808de358d28ce214618cbc1653be8f2d6dc7"), looks := false }, kinds := [], alts := [], laidByText := true, laidKinds := [.data, .data, .data], laidTests := true, laidLooks := .later }
def FnExactSpokenTextCardSaid : Prop := Claim7.holds Tryd.pinned (.plain (OpenSpec.ofChange fnExactSpokenTextSpec)) fnExactSpokenTextCard

/-- THE TIED CARD OF 'laws.FnExactRecordLine'. -/
def fnExactRecordLineCard : Claim7 := { stood := { row := fnExactRecordLineRow, standIns := [], harness := (true, "8fdb6f0415f5832eb9ac773a81c0808de358d28ce214618cbc1653be8f2d6dc7"), looks := false }, kinds := [], alts := [], laidByText := true, laidKinds := [.data, .data, .data], laidTests := true, laidLooks := .later }
def FnExactRecordLineCardSaid : Prop := Claim7.holds Tryd.pinned (.plain (OpenSpec.ofChange fnExactRecordLineSpec)) fnExactRecordLineCard

/-- THE TIED CARD OF 'laws.FnExactReadSpoken'. -/
def fnExactReadSpokenCard : Claim7 := { stood := { row := fnExactReadSpokenRow, standIns := [], harness := (true, "8fdb6f0415f5832eb9ac773a81c0808de358d28ce214618cbc1653be8f2d6dc7"), looks := false }, kinds := [], alts := [], laidByText := true, laidKinds := [.data, .pinned], laidTests := true, laidLooks := .later }
def FnExactReadSpokenCardSaid : Prop := Claim7.holds Tryd.pinned (.plain (OpenSpec.ofChange fnExactReadSpokenSpec)) fnExactReadSpokenCard

/-- THE TIED CARD OF 'laws.FnExactPlacingText'. -/
def fnExactPlacingTextCard : Claim7 := { stood := { row := fnExactPlacingTextRow, standIns := [], harness := (true, "8fdb6f0415f5832eb9ac773a81c0808de358d28ce214618cbc1653be8f2d6dc7"), looks := false }, kinds := [], alts := [], laidByText := true, laidKinds := [.data, .data, .data], laidTests := true, laidLooks := .later }
def FnExactPlacingTextCardSaid : Prop := Claim7.holds Tryd.pinned (.plain (OpenSpec.ofChange fnExactPlacingTextSpec)) fnExactPlacingTextCard

/-- THE TIED CARD OF 'laws.FnExactRowOfBand'. -/
def fnExactRowOfBandCard : Claim7 := { stood := { row := fnExactRowOfBandRow, standIns := [], harness := (true, "8fdb6f0415f5832eb9ac773a81c0808de358d28ce214618cbc1653be8f2d6dc7"), looks := false }, kinds := [], alts := [], laidByText := true, laidKinds := [.data, .data, .data], laidTests := true, laidLooks := .later }
def FnExactRowOfBandCardSaid : Prop := Claim7.holds Tryd.pinned (.plain (OpenSpec.ofChange fnExactRowOfBandSpec)) fnExactRowOfBandCard

/-- THE TIED CARD OF 'laws.FnExactRingTouch'. -/
def fnExactRingTouchCard : Claim7 := { stood := { row := fnExactRingTouchRow, standIns := [], harness := (true, "8fdb6f0415f5832eb9ac773a81c0808de358d28ce214618cbc1653be8f2d6dc7"), looks := false }, kinds := [], alts := [], laidByText := true, laidKinds := [.data, .data, .data], laidTests := true, laidLooks := .later }
def FnExactRingTouchCardSaid : Prop := Claim7.holds Tryd.pinned (.plain (OpenSpec.ofChange fnExactRingTouchSpec)) fnExactRingTouchCard

/-- THE TIED CARD OF 'laws.FnGain'. -/
def fnGainCard : Claim7 := { stood := { row := fnGainRow, standIns := [], harness := (true, "8fdb6f0415f5832eb9ac773a81c0808de358d28ce214618cbc1653be8f2d6dc7"), looks := false }, kinds := [], alts := [], laidByText := true, laidKinds := [.data, .data, .data, .data, .pinned], laidTests := true, laidLooks := .later }
def FnGainCardSaid : Prop := Claim7.holds Tryd.pinned (.plain (OpenSpec.ofChange fnGainSpec)) fnGainCard

/-- THE SECOND FORM's CARD OF 'laws.FnExactSpokenText'. -/
def fnExactSpokenTextUptoCard : Claim7 := { stood := { row := fnExactSpokenTextUptoRow, standIns := [], harness := (true, "8fdb6f0415f5832eb9ac773a81c0808de358d28ce214618cbc1653be8f2d6dc7"), looks := false }, kinds := [], alts := [], laidByText := true, laidKinds := [.data, .data, .data], laidTests := true, laidLooks := .later }
def FnExactSpokenTextUptoCardSaid : Prop := Claim7.holds Tryd.pinned (.plain (OpenSpec.upto fnExactSpokenTextSpec)) fnExactSpokenTextUptoCard

/-- THE SECOND FORM's CARD OF 'laws.FnExactRecordLine'. -/
def fnExactRecordLineUptoCard : Claim7 := { stood := { row := fnExactRecordLineUptoRow, standIns := [], harness := (true, "8fdb6f0415f5832eb9ac773a81c0808de358d28ce214618cbc1653be8f2d6dc7"), looks := false }, kinds := [], alts := [], laidByText := true, laidKinds := [.data, .data, .data], laidTests := true, laidLooks := .later }
def FnExactRecordLineUptoCardSaid : Prop := Claim7.holds Tryd.pinned (.plain (OpenSpec.upto fnExactRecordLineSpec)) fnExactRecordLineUptoCard

/-- THE SECOND FORM's CARD OF 'laws.FnExactReadSpoken'. -/
def fnExactReadSpokenUptoCard : Claim7 := { stood := { row := fnExactReadSpokenUptoRow, standIns := [], harness := (true, "8fdb6f0415f5832eb9ac773a81c0808de358d28ce214618cbc1653be8f2d6dc7"), looks := false }, kinds := [], alts := [], laidByText := true, laidKinds := [.data, .pinned], laidTests := true, laidLooks := .later }
def FnExactReadSpokenUptoCardSaid : Prop := Claim7.holds Tryd.pinned (.plain (OpenSpec.upto fnExactReadSpokenSpec)) fnExactReadSpokenUptoCard

/-- THE SECOND FORM's CARD OF 'laws.FnExactPlacingText'. -/
def fnExactPlacingTextUptoCard : Claim7 := { stood := { row := fnExactPlacingTextUptoRow, standIns := [], harness := (true, "8fdb6f0415f5832eb9ac773a81c0808de358d28ce214618cbc1653be8f2d6dc7"), looks := false }, kinds := [], alts := [], laidByText := true, laidKinds := [.data, .data, .data], laidTests := true, laidLooks := .later }
def FnExactPlacingTextUptoCardSaid : Prop := Claim7.holds Tryd.pinned (.plain (OpenSpec.upto fnExactPlacingTextSpec)) fnExactPlacingTextUptoCard

/-- THE SECOND FORM's CARD OF 'laws.FnExactRowOfBand'. -/
def fnExactRowOfBandUptoCard : Claim7 := { stood := { row := fnExactRowOfBandUptoRow, standIns := [], harness := (true, "8fdb6f0415f5832eb9ac773a81c0808de358d28ce214618cbc1653be8f2d6dc7"), looks := false }, kinds := [], alts := [], laidByText := true, laidKinds := [.data, .data, .data], laidTests := true, laidLooks := .later }
def FnExactRowOfBandUptoCardSaid : Prop := Claim7.holds Tryd.pinned (.plain (OpenSpec.upto fnExactRowOfBandSpec)) fnExactRowOfBandUptoCard

/-- THE SECOND FORM's CARD OF 'laws.FnExactRingTouch'. -/
def fnExactRingTouchUptoCard : Claim7 := { stood := { row := fnExactRingTouchUptoRow, standIns := [], harness := (true, "8fdb6f0415f5832eb9ac773a81c0808de358d28ce214618cbc1653be8f2d6dc7"), looks := false }, kinds := [], alts := [], laidByText := true, laidKinds := [.data, .data, .data], laidTests := true, laidLooks := .later }
def FnExactRingTouchUptoCardSaid : Prop := Claim7.holds Tryd.pinned (.plain (OpenSpec.upto fnExactRingTouchSpec)) fnExactRingTouchUptoCard

/-- THE SECOND FORM's CARD OF 'laws.FnGain'. -/
def fnGainUptoCard : Claim7 := { stood := { row := fnGainUptoRow, standIns := [], harness := (true, "8fdb6f0415f5832eb9ac773a81c0808de358d28ce214618cbc1653be8f2d6dc7"), looks := false }, kinds := [], alts := [], laidByText := true, laidKinds := [.data, .data, .data, .data, .pinned], laidTests := true, laidLooks := .later }
def FnGainUptoCardSaid : Prop := Claim7.holds Tryd.pinned (.plain (OpenSpec.upto fnGainSpec)) fnGainUptoCard
end Rows
end Go.Proofs.YtpedfjcidbopiaaDoor
