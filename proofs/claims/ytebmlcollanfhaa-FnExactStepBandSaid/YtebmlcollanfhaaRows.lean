/-
  No cell of these rows narrows 'for every input' (looked for: loops, veiled, ifaces, maps, wideKeys, modest, calm, conditions, laid).
  DERIVED. THE GIVEN ROWS OF THIS SEAT. 12 by the template 'for every input the law returns true; each argument reads behind the call as it read before'; 0 by the template 'total and deterministic' (their statements: YtebmlcollanfhaaTotals.lean).
  GIVEN WITH THE SEED: the statements are not yours to turn. If you find one false, say at which input.
  Laid BY PROGRAM, IN A SANDBOX (cutbox-rows.mjs): the forced cells as the released guide's own fill.sh prints them over the translation bd2e2a1b13c2df42… (all of the seat's roots in one cut). By AI agents, Wed Nov 11 2026. No macro, syntax, notation, axiom, sorry.
-/
import Derived.Test.YtebmlcollanfhaaChecked
import GoSem.Claim
import GoSem.ClaimJoined
import GoSem.ClaimMapViews
import Derived.JoinedTies
import Derived.KernelRfl
namespace Go.Proofs.Ytebmlcollanfhaa
/- THE CELL 'sum', in the pinned program and in every row, IS THE sha256 OF THE DUMP (.gsa) THAT YtebmlcollanfhaaProg.lean LOADS. Nothing in Lean hashes anything: it is a label: what it is worth is what the hold of that sum in a sandbox is worth. -/
noncomputable def Try.pinned : Pinned := { name := "ytebmlcollanfhaa", sum := "bd2e2a1b13c2df4289200192e3d198fdd36b5e422a07659ac402bfed1788d7af", checked := Try.checked }
namespace Rows
def none {H : Type} : Left H := { results := [], args := [] }

/-- 'laws.FnExactPricesFor': WHATEVER THE INPUT: true; the input reads as it did. -/
def fnExactPricesForSpec : ChangeSpec := { name := "fnExactPricesFor", fn := fun _ => fun
  | [d1, d2] => { results := [.lit (.bool true)], args := [d1, d2] }
  | _ => none }
def fnExactPricesForRow : OpenClaim := { program := "ytebmlcollanfhaa", sum := "bd2e2a1b13c2df4289200192e3d198fdd36b5e422a07659ac402bfed1788d7af", func := "loop.example/g00894/laws.FnExactPricesFor", spec := "fnExactPricesFor", unfollowed := true, recurses := true, plainKeys := false, apart := false }
def FnExactPricesForSaid : Prop := fnExactPricesForRow.holds Try.pinned (OpenSpec.ofChange fnExactPricesForSpec)

/-- ITS FALSE NEIGHBOUR: 'it returns false'. Refute it at one input. -/
def fnExactPricesForWrong : ChangeSpec := { name := "fnExactPricesFor", fn := fun _ => fun
  | [d1, d2] => { results := [.lit (.bool false)], args := [d1, d2] }
  | _ => none }
def FnExactPricesForWrongFalsely : Prop := fnExactPricesForRow.holds Try.pinned (OpenSpec.ofChange fnExactPricesForWrong)

/-- 'laws.FnExactNewBand': WHATEVER THE INPUT: true; the input reads as it did. -/
def fnExactNewBandSpec : ChangeSpec := { name := "fnExactNewBand", fn := fun _ => fun
  | [d1, d2] => { results := [.lit (.bool true)], args := [d1, d2] }
  | _ => none }
def fnExactNewBandRow : OpenClaim := { program := "ytebmlcollanfhaa", sum := "bd2e2a1b13c2df4289200192e3d198fdd36b5e422a07659ac402bfed1788d7af", func := "loop.example/g00894/laws.FnExactNewBand", spec := "fnExactNewBand", plainKeys := false, apart := false }
def FnExactNewBandSaid : Prop := fnExactNewBandRow.holds Try.pinned (OpenSpec.ofChange fnExactNewBandSpec)

/-- ITS FALSE NEIGHBOUR: 'it returns false'. Refute it at one input. -/
def fnExactNewBandWrong : ChangeSpec := { name := "fnExactNewBand", fn := fun _ => fun
  | [d1, d2] => { results := [.lit (.bool false)], args := [d1, d2] }
  | _ => none }
def FnExactNewBandWrongFalsely : Prop := fnExactNewBandRow.holds Try.pinned (OpenSpec.ofChange fnExactNewBandWrong)

/-- 'laws.FnSwaps': WHATEVER THE INPUT: true; the input reads as it did. -/
def fnSwapsSpec : ChangeSpec := { name := "fnSwaps", fn := fun _ => fun
  | [d1, d2] => { results := [.lit (.bool true)], args := [d1, d2] }
  | _ => none }
def fnSwapsRow : OpenClaim := { program := "ytebmlcollanfhaa", sum := "bd2e2a1b13c2df4289200192e3d198fdd36b5e422a07659ac402bfed1788d7af", func := "loop.example/g00894/laws.FnSwaps", spec := "fnSwaps", plainKeys := false, apart := false }
def FnSwapsSaid : Prop := fnSwapsRow.holds Try.pinned (OpenSpec.ofChange fnSwapsSpec)

/-- ITS FALSE NEIGHBOUR: 'it returns false'. Refute it at one input. -/
def fnSwapsWrong : ChangeSpec := { name := "fnSwaps", fn := fun _ => fun
  | [d1, d2] => { results := [.lit (.bool false)], args := [d1, d2] }
  | _ => none }
def FnSwapsWrongFalsely : Prop := fnSwapsRow.holds Try.pinned (OpenSpec.ofChange fnSwapsWrong)

/-- 'laws.FnExactMedianOf': WHATEVER THE INPUT: true; the input reads as it did. -/
def fnExactMedianOfSpec : ChangeSpec := { name := "fnExactMedianOf", fn := fun _ => fun
  | [d1, d2] => { results := [.lit (.bool true)], args := [d1, d2] }
  | _ => none }
def fnExactMedianOfRow : OpenClaim := { program := "ytebmlcollanfhaa", sum := "bd2e2a1b13c2df4289200192e3d198fdd36b5e422a07659ac402bfed1788d7af", func := "loop.example/g00894/laws.FnExactMedianOf", spec := "fnExactMedianOf", unfollowed := true, recurses := true, plainKeys := false, apart := false }
def FnExactMedianOfSaid : Prop := fnExactMedianOfRow.holds Try.pinned (OpenSpec.ofChange fnExactMedianOfSpec)

/-- ITS FALSE NEIGHBOUR: 'it returns false'. Refute it at one input. -/
def fnExactMedianOfWrong : ChangeSpec := { name := "fnExactMedianOf", fn := fun _ => fun
  | [d1, d2] => { results := [.lit (.bool false)], args := [d1, d2] }
  | _ => none }
def FnExactMedianOfWrongFalsely : Prop := fnExactMedianOfRow.holds Try.pinned (OpenSpec.ofChange fnExactMedianOfWrong)

/-- 'laws.FnExactSpokenFor': WHATEVER THE INPUT: true; the input reads as it did. -/
def fnExactSpokenForSpec : ChangeSpec := { name := "fnExactSpokenFor", fn := fun _ => fun
  | [d1, d2, d3, d4] => { results := [.lit (.bool true)], args := [d1, d2, d3, d4] }
  | _ => none }
def fnExactSpokenForRow : OpenClaim := { program := "ytebmlcollanfhaa", sum := "bd2e2a1b13c2df4289200192e3d198fdd36b5e422a07659ac402bfed1788d7af", func := "loop.example/g00894/laws.FnExactSpokenFor", spec := "fnExactSpokenFor", plainKeys := false, apart := false }
def FnExactSpokenForSaid : Prop := fnExactSpokenForRow.holds Try.pinned (OpenSpec.ofChange fnExactSpokenForSpec)

/-- ITS FALSE NEIGHBOUR: 'it returns false'. Refute it at one input. -/
def fnExactSpokenForWrong : ChangeSpec := { name := "fnExactSpokenFor", fn := fun _ => fun
  | [d1, d2, d3, d4] => { results := [.lit (.bool false)], args := [d1, d2, d3, d4] }
  | _ => none }
def FnExactSpokenForWrongFalsely : Prop := fnExactSpokenForRow.holds Try.pinned (OpenSpec.ofChange fnExactSpokenForWrong)

/-- 'laws.FnExactStartFor': WHATEVER THE INPUT: true; the input reads as it did. -/
def fnExactStartForSpec : ChangeSpec := { name := "fnExactStartFor", fn := fun _ => fun
  | [d1, d2, d3, d4] => { results := [.lit (.bool true)], args := [d1, d2, d3, d4] }
  | _ => none }
def fnExactStartForRow : OpenClaim := { program := "ytebmlcollanfhaa", sum := "bd2e2a1b13c2df4289200192e3d198fdd36b5e422a07659ac402bfed1788d7af", func := "loop.example/g00894/laws.FnExactStartFor", spec := "fnExactStartFor", recurses := true, plainKeys := false, apart := false }
def FnExactStartForSaid : Prop := fnExactStartForRow.holds Try.pinned (OpenSpec.ofChange fnExactStartForSpec)

/-- ITS FALSE NEIGHBOUR: 'it returns false'. Refute it at one input. -/
def fnExactStartForWrong : ChangeSpec := { name := "fnExactStartFor", fn := fun _ => fun
  | [d1, d2, d3, d4] => { results := [.lit (.bool false)], args := [d1, d2, d3, d4] }
  | _ => none }
def FnExactStartForWrongFalsely : Prop := fnExactStartForRow.holds Try.pinned (OpenSpec.ofChange fnExactStartForWrong)

/-- 'laws.FnExactFirstWrong': WHATEVER THE INPUT: true; the input reads as it did. -/
def fnExactFirstWrongSpec : ChangeSpec := { name := "fnExactFirstWrong", fn := fun _ => fun
  | [d1, d2, d3, d4, d5] => { results := [.lit (.bool true)], args := [d1, d2, d3, d4, d5] }
  | _ => none }
def fnExactFirstWrongRow : OpenClaim := { program := "ytebmlcollanfhaa", sum := "bd2e2a1b13c2df4289200192e3d198fdd36b5e422a07659ac402bfed1788d7af", func := "loop.example/g00894/laws.FnExactFirstWrong", spec := "fnExactFirstWrong", plainKeys := false, apart := false }
def FnExactFirstWrongSaid : Prop := fnExactFirstWrongRow.holds Try.pinned (OpenSpec.ofChange fnExactFirstWrongSpec)

/-- ITS FALSE NEIGHBOUR: 'it returns false'. Refute it at one input. -/
def fnExactFirstWrongWrong : ChangeSpec := { name := "fnExactFirstWrong", fn := fun _ => fun
  | [d1, d2, d3, d4, d5] => { results := [.lit (.bool false)], args := [d1, d2, d3, d4, d5] }
  | _ => none }
def FnExactFirstWrongWrongFalsely : Prop := fnExactFirstWrongRow.holds Try.pinned (OpenSpec.ofChange fnExactFirstWrongWrong)

/-- 'laws.FnExactFitGap': WHATEVER THE INPUT: true; the input reads as it did. -/
def fnExactFitGapSpec : ChangeSpec := { name := "fnExactFitGap", fn := fun _ => fun
  | [d1, d2, d3, d4, d5] => { results := [.lit (.bool true)], args := [d1, d2, d3, d4, d5] }
  | _ => none }
def fnExactFitGapRow : OpenClaim := { program := "ytebmlcollanfhaa", sum := "bd2e2a1b13c2df4289200192e3d198fdd36b5e422a07659ac402bfed1788d7af", func := "loop.example/g00894/laws.FnExactFitGap", spec := "fnExactFitGap", recurses := true, plainKeys := false, apart := false }
def FnExactFitGapSaid : Prop := fnExactFitGapRow.holds Try.pinned (OpenSpec.ofChange fnExactFitGapSpec)

/-- ITS FALSE NEIGHBOUR: 'it returns false'. Refute it at one input. -/
def fnExactFitGapWrong : ChangeSpec := { name := "fnExactFitGap", fn := fun _ => fun
  | [d1, d2, d3, d4, d5] => { results := [.lit (.bool false)], args := [d1, d2, d3, d4, d5] }
  | _ => none }
def FnExactFitGapWrongFalsely : Prop := fnExactFitGapRow.holds Try.pinned (OpenSpec.ofChange fnExactFitGapWrong)

/-- 'laws.FnExactFitBeat': WHATEVER THE INPUT: true; the input reads as it did. -/
def fnExactFitBeatSpec : ChangeSpec := { name := "fnExactFitBeat", fn := fun _ => fun
  | [d1, d2, d3, d4, d5] => { results := [.lit (.bool true)], args := [d1, d2, d3, d4, d5] }
  | _ => none }
def fnExactFitBeatRow : OpenClaim := { program := "ytebmlcollanfhaa", sum := "bd2e2a1b13c2df4289200192e3d198fdd36b5e422a07659ac402bfed1788d7af", func := "loop.example/g00894/laws.FnExactFitBeat", spec := "fnExactFitBeat", recurses := true, plainKeys := false, apart := false }
def FnExactFitBeatSaid : Prop := fnExactFitBeatRow.holds Try.pinned (OpenSpec.ofChange fnExactFitBeatSpec)

/-- ITS FALSE NEIGHBOUR: 'it returns false'. Refute it at one input. -/
def fnExactFitBeatWrong : ChangeSpec := { name := "fnExactFitBeat", fn := fun _ => fun
  | [d1, d2, d3, d4, d5] => { results := [.lit (.bool false)], args := [d1, d2, d3, d4, d5] }
  | _ => none }
def FnExactFitBeatWrongFalsely : Prop := fnExactFitBeatRow.holds Try.pinned (OpenSpec.ofChange fnExactFitBeatWrong)

/-- 'laws.FnExactStepBand': WHATEVER THE INPUT: true; the input reads as it did. -/
def fnExactStepBandSpec : ChangeSpec := { name := "fnExactStepBand", fn := fun _ => fun
  | [d] => { results := [.lit (.bool true)], args := [d] }
  | _ => none }
def fnExactStepBandRow : OpenClaim := { program := "ytebmlcollanfhaa", sum := "bd2e2a1b13c2df4289200192e3d198fdd36b5e422a07659ac402bfed1788d7af", func := "loop.example/g00894/laws.FnExactStepBand", spec := "fnExactStepBand", plainKeys := false, apart := false }
def FnExactStepBandSaid : Prop := fnExactStepBandRow.holds Try.pinned (OpenSpec.ofChange fnExactStepBandSpec)

/-- ITS FALSE NEIGHBOUR: 'it returns false'. Refute it at one input. -/
def fnExactStepBandWrong : ChangeSpec := { name := "fnExactStepBand", fn := fun _ => fun
  | [d] => { results := [.lit (.bool false)], args := [d] }
  | _ => none }
def FnExactStepBandWrongFalsely : Prop := fnExactStepBandRow.holds Try.pinned (OpenSpec.ofChange fnExactStepBandWrong)

/-- 'laws.FnExactDoBand': WHATEVER THE INPUT: true; the input reads as it did. -/
def fnExactDoBandSpec : ChangeSpec := { name := "fnExactDoBand", fn := fun _ => fun
  | [d1, d2] => { results := [.lit (.bool true)], args := [d1, d2] }
  | _ => none }
def fnExactDoBandRow : OpenClaim := { program := "ytebmlcollanfhaa", sum := "bd2e2a1b13c2df4289200192e3d198fdd36b5e422a07659ac402bfed1788d7af", func := "loop.example/g00894/laws.FnExactDoBand", spec := "fnExactDoBand", plainKeys := false, apart := false }
def FnExactDoBandSaid : Prop := fnExactDoBandRow.holds Try.pinned (OpenSpec.ofChange fnExactDoBandSpec)

/-- ITS FALSE NEIGHBOUR: 'it returns false'. Refute it at one input. -/
def fnExactDoBandWrong : ChangeSpec := { name := "fnExactDoBand", fn := fun _ => fun
  | [d1, d2] => { results := [.lit (.bool false)], args := [d1, d2] }
  | _ => none }
def FnExactDoBandWrongFalsely : Prop := fnExactDoBandRow.holds Try.pinned (OpenSpec.ofChange fnExactDoBandWrong)

/-- 'laws.FnExactTouchSaid': WHATEVER THE INPUT: true; the input reads as it did. -/
def fnExactTouchSaidSpec : ChangeSpec := { name := "fnExactTouchSaid", fn := fun _ => fun
  | [d1, d2, d3] => { results := [.lit (.bool true)], args := [d1, d2, d3] }
  | _ => none }
def fnExactTouchSaidRow : OpenClaim := { program := "ytebmlcollanfhaa", sum := "bd2e2a1b13c2df4289200192e3d198fdd36b5e422a07659ac402bfed1788d7af", func := "loop.example/g00894/laws.FnExactTouchSaid", spec := "fnExactTouchSaid", inPlace := ["internal/abi.NoEscape", "internal/bytealg.MakeNoZero"], plainKeys := false, apart := false }
def FnExactTouchSaidSaid : Prop := fnExactTouchSaidRow.holds Try.pinned (OpenSpec.ofChange fnExactTouchSaidSpec)

/-- ITS FALSE NEIGHBOUR: 'it returns false'. Refute it at one input. -/
def fnExactTouchSaidWrong : ChangeSpec := { name := "fnExactTouchSaid", fn := fun _ => fun
  | [d1, d2, d3] => { results := [.lit (.bool false)], args := [d1, d2, d3] }
  | _ => none }
def FnExactTouchSaidWrongFalsely : Prop := fnExactTouchSaidRow.holds Try.pinned (OpenSpec.ofChange fnExactTouchSaidWrong)

/- THE SECOND FORM. 'bulk': how many values and letters a reading holds, each counted each time it is reached (what is shared counts as often as it is met; a slice's spare places count too). A statement '..UptoSaid' is the law's where the arguments, and the package variables that the reading takes, are together of bulk at most 1048576: NARROWER than '..Said'. Prove '..Said' where nothing that the law and all that it calls make is longer than what came in: it says more and counts as full. Else prove '..UptoSaid'. A law counts once. -/
mutual
def uptoBulk {H : Type} : DataW H → Nat
  | .lit (.string bytes) => bytes.length + 1
  | .lit _ => 1
  | .nil => 1
  | .ptr d => uptoBulk d + 1
  | .slice elems spare => uptoBulkAll elems + uptoBulkAll spare + 1
  | .agg parts => uptoBulkAll parts + 1
  | .iface _ d => uptoBulk d + 1
  | .map entries => uptoBulkEntries entries + 1
  | .held _ => 1
def uptoBulkAll {H : Type} : List (DataW H) → Nat
  | [] => 0
  | d :: r => uptoBulk d + uptoBulkAll r
def uptoBulkEntries {H : Type} : List (Lit × DataW H) → Nat
  | [] => 0
  | x :: r => uptoBulkEntry x + uptoBulkEntries r
def uptoBulkEntry {H : Type} : Lit × DataW H → Nat
  | (.string bytes, d) => bytes.length + uptoBulk d + 1
  | (_, d) => uptoBulk d + 1
 end
def uptoSmall : (H : Type) → List (DataW H) → Bool := fun _ ds => decide (uptoBulkAll ds ≤ 1048576)
def OpenSpec.upto (s : _root_.Go.ChangeSpec) : _root_.Go.OpenSpec := { _root_.Go.OpenSpec.ofChange s with cond := some uptoSmall }

/-- 'laws.FnExactPricesFor', WHERE WHAT IT READS IS OF BULK AT MOST 1048576: true; the input reads as it did. -/
def fnExactPricesForUptoRow : OpenClaim := { program := "ytebmlcollanfhaa", sum := "bd2e2a1b13c2df4289200192e3d198fdd36b5e422a07659ac402bfed1788d7af", func := "loop.example/g00894/laws.FnExactPricesFor", spec := "fnExactPricesFor", unfollowed := true, recurses := true, plainKeys := false, apart := false, narrowed := true }
def FnExactPricesForUptoSaid : Prop := fnExactPricesForUptoRow.holds Try.pinned (OpenSpec.upto fnExactPricesForSpec)

/-- 'laws.FnExactNewBand', WHERE WHAT IT READS IS OF BULK AT MOST 1048576: true; the input reads as it did. -/
def fnExactNewBandUptoRow : OpenClaim := { program := "ytebmlcollanfhaa", sum := "bd2e2a1b13c2df4289200192e3d198fdd36b5e422a07659ac402bfed1788d7af", func := "loop.example/g00894/laws.FnExactNewBand", spec := "fnExactNewBand", plainKeys := false, apart := false, narrowed := true }
def FnExactNewBandUptoSaid : Prop := fnExactNewBandUptoRow.holds Try.pinned (OpenSpec.upto fnExactNewBandSpec)

/-- 'laws.FnSwaps', WHERE WHAT IT READS IS OF BULK AT MOST 1048576: true; the input reads as it did. -/
def fnSwapsUptoRow : OpenClaim := { program := "ytebmlcollanfhaa", sum := "bd2e2a1b13c2df4289200192e3d198fdd36b5e422a07659ac402bfed1788d7af", func := "loop.example/g00894/laws.FnSwaps", spec := "fnSwaps", plainKeys := false, apart := false, narrowed := true }
def FnSwapsUptoSaid : Prop := fnSwapsUptoRow.holds Try.pinned (OpenSpec.upto fnSwapsSpec)

/-- 'laws.FnExactMedianOf', WHERE WHAT IT READS IS OF BULK AT MOST 1048576: true; the input reads as it did. -/
def fnExactMedianOfUptoRow : OpenClaim := { program := "ytebmlcollanfhaa", sum := "bd2e2a1b13c2df4289200192e3d198fdd36b5e422a07659ac402bfed1788d7af", func := "loop.example/g00894/laws.FnExactMedianOf", spec := "fnExactMedianOf", unfollowed := true, recurses := true, plainKeys := false, apart := false, narrowed := true }
def FnExactMedianOfUptoSaid : Prop := fnExactMedianOfUptoRow.holds Try.pinned (OpenSpec.upto fnExactMedianOfSpec)

/-- 'laws.FnExactSpokenFor', WHERE WHAT IT READS IS OF BULK AT MOST 1048576: true; the input reads as it did. -/
def fnExactSpokenForUptoRow : OpenClaim := { program := "ytebmlcollanfhaa", sum := "bd2e2a1b13c2df4289200192e3d198fdd36b5e422a07659ac402bfed1788d7af", func := "loop.example/g00894/laws.FnExactSpokenFor", spec := "fnExactSpokenFor", plainKeys := false, apart := false, narrowed := true }
def FnExactSpokenForUptoSaid : Prop := fnExactSpokenForUptoRow.holds Try.pinned (OpenSpec.upto fnExactSpokenForSpec)

/-- 'laws.FnExactStartFor', WHERE WHAT IT READS IS OF BULK AT MOST 1048576: true; the input reads as it did. -/
def fnExactStartForUptoRow : OpenClaim := { program := "ytebmlcollanfhaa", sum := "bd2e2a1b13c2df4289200192e3d198fdd36b5e422a07659ac402bfed1788d7af", func := "loop.example/g00894/laws.FnExactStartFor", spec := "fnExactStartFor", recurses := true, plainKeys := false, apart := false, narrowed := true }
def FnExactStartForUptoSaid : Prop := fnExactStartForUptoRow.holds Try.pinned (OpenSpec.upto fnExactStartForSpec)

/-- 'laws.FnExactFirstWrong', WHERE WHAT IT READS IS OF BULK AT MOST 1048576: true; the input reads as it did. -/
def fnExactFirstWrongUptoRow : OpenClaim := { program := "ytebmlcollanfhaa", sum := "bd2e2a1b13c2df4289200192e3d198fdd36b5e422a07659ac402bfed1788d7af", func := "loop.example/g00894/laws.FnExactFirstWrong", spec := "fnExactFirstWrong", plainKeys := false, apart := false, narrowed := true }
def FnExactFirstWrongUptoSaid : Prop := fnExactFirstWrongUptoRow.holds Try.pinned (OpenSpec.upto fnExactFirstWrongSpec)

/-- 'laws.FnExactFitGap', WHERE WHAT IT READS IS OF BULK AT MOST 1048576: true; the input reads as it did. -/
def fnExactFitGapUptoRow : OpenClaim := { program := "ytebmlcollanfhaa", sum := "bd2e2a1b13c2df4289200192e3d198fdd36b5e422a07659ac402bfed1788d7af", func := "loop.example/g00894/laws.FnExactFitGap", spec := "fnExactFitGap", recurses := true, plainKeys := false, apart := false, narrowed := true }
def FnExactFitGapUptoSaid : Prop := fnExactFitGapUptoRow.holds Try.pinned (OpenSpec.upto fnExactFitGapSpec)

/-- 'laws.FnExactFitBeat', WHERE WHAT IT READS IS OF BULK AT MOST 1048576: true; the input reads as it did. -/
def fnExactFitBeatUptoRow : OpenClaim := { program := "ytebmlcollanfhaa", sum := "bd2e2a1b13c2df4289200192e3d198fdd36b5e422a07659ac402bfed1788d7af", func := "loop.example/g00894/laws.FnExactFitBeat", spec := "fnExactFitBeat", recurses := true, plainKeys := false, apart := false, narrowed := true }
def FnExactFitBeatUptoSaid : Prop := fnExactFitBeatUptoRow.holds Try.pinned (OpenSpec.upto fnExactFitBeatSpec)

/-- 'laws.FnExactStepBand', WHERE WHAT IT READS IS OF BULK AT MOST 1048576: true; the input reads as it did. -/
def fnExactStepBandUptoRow : OpenClaim := { program := "ytebmlcollanfhaa", sum := "bd2e2a1b13c2df4289200192e3d198fdd36b5e422a07659ac402bfed1788d7af", func := "loop.example/g00894/laws.FnExactStepBand", spec := "fnExactStepBand", plainKeys := false, apart := false, narrowed := true }
def FnExactStepBandUptoSaid : Prop := fnExactStepBandUptoRow.holds Try.pinned (OpenSpec.upto fnExactStepBandSpec)

/-- 'laws.FnExactDoBand', WHERE WHAT IT READS IS OF BULK AT MOST 1048576: true; the input reads as it did. -/
def fnExactDoBandUptoRow : OpenClaim := { program := "ytebmlcollanfhaa", sum := "bd2e2a1b13c2df4289200192e3d198fdd36b5e422a07659ac402bfed1788d7af", func := "loop.example/g00894/laws.FnExactDoBand", spec := "fnExactDoBand", plainKeys := false, apart := false, narrowed := true }
def FnExactDoBandUptoSaid : Prop := fnExactDoBandUptoRow.holds Try.pinned (OpenSpec.upto fnExactDoBandSpec)

/-- 'laws.FnExactTouchSaid', WHERE WHAT IT READS IS OF BULK AT MOST 1048576: true; the input reads as it did. -/
def fnExactTouchSaidUptoRow : OpenClaim := { program := "ytebmlcollanfhaa", sum := "bd2e2a1b13c2df4289200192e3d198fdd36b5e422a07659ac402bfed1788d7af", func := "loop.example/g00894/laws.FnExactTouchSaid", spec := "fnExactTouchSaid", inPlace := ["internal/abi.NoEscape", "internal/bytealg.MakeNoZero"], plainKeys := false, apart := false, narrowed := true }
def FnExactTouchSaidUptoSaid : Prop := fnExactTouchSaidUptoRow.holds Try.pinned (OpenSpec.upto fnExactTouchSaidSpec)

end Rows
end Go.Proofs.Ytebmlcollanfhaa
