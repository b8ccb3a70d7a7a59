/-
  No cell of these rows narrows 'for every input' (looked for: loops, veiled, ifaces, maps, wideKeys, modest, calm, conditions, laid).
  DERIVED. THE GIVEN ROWS OF THIS SEAT. 12 by the template 'for every input the law returns true; each argument reads behind the call as it read before'; 0 by the template 'total and deterministic' (their statements: YtkmakmbdfeojcaaTotals.lean).
  GIVEN WITH THE SEED: the statements are not yours to turn. If you find one false, say at which input.
  Laid BY PROGRAM, IN A SANDBOX (cutbox-rows.mjs): the forced cells as the released guide's own fill.sh prints them over the translation 519592d2847a1986… (all of the seat's roots in one cut). By AI agents, Wed Nov 11 2026. No macro, syntax, notation, axiom, sorry.
-/
import Derived.Test.YtkmakmbdfeojcaaChecked
import GoSem.Claim
import GoSem.ClaimJoined
import GoSem.ClaimMapViews
import Derived.JoinedTies
import Derived.KernelRfl
namespace Go.Proofs.Ytkmakmbdfeojcaa
/- THE CELL 'sum', in the pinned program and in every row, IS THE sha256 OF THE DUMP (.gsa) THAT YtkmakmbdfeojcaaProg.lean LOADS. Nothing in Lean hashes anything: it is a label: what it is worth is what the hold of that sum in a sandbox is worth. -/
noncomputable def Try.pinned : Pinned := { name := "ytkmakmbdfeojcaa", sum := "519592d2847a19868d4377c0804c1920fdfdb99f2dfec637749bd1b773738a2a", checked := Try.checked }
namespace Rows
def none {H : Type} : Left H := { results := [], args := [] }

/-- 'laws.FnExactDriftOf': WHATEVER THE INPUT: true; the input reads as it did. -/
def fnExactDriftOfSpec : ChangeSpec := { name := "fnExactDriftOf", fn := fun _ => fun
  | [d1, d2] => { results := [.lit (.bool true)], args := [d1, d2] }
  | _ => none }
def fnExactDriftOfRow : OpenClaim := { program := "ytkmakmbdfeojcaa", sum := "519592d2847a19868d4377c0804c1920fdfdb99f2dfec637749bd1b773738a2a", func := "loop.example/g00894/laws.FnExactDriftOf", spec := "fnExactDriftOf", apart := false }
def FnExactDriftOfSaid : Prop := fnExactDriftOfRow.holds Try.pinned (OpenSpec.ofChange fnExactDriftOfSpec)

/-- ITS FALSE NEIGHBOUR: 'it returns false'. Refute it at one input. -/
def fnExactDriftOfWrong : ChangeSpec := { name := "fnExactDriftOf", fn := fun _ => fun
  | [d1, d2] => { results := [.lit (.bool false)], args := [d1, d2] }
  | _ => none }
def FnExactDriftOfWrongFalsely : Prop := fnExactDriftOfRow.holds Try.pinned (OpenSpec.ofChange fnExactDriftOfWrong)

/-- 'laws.FnExactGoodRecord': WHATEVER THE INPUT: true; the input reads as it did. -/
def fnExactGoodRecordSpec : ChangeSpec := { name := "fnExactGoodRecord", fn := fun _ => fun
  | [d] => { results := [.lit (.bool true)], args := [d] }
  | _ => none }
def fnExactGoodRecordRow : OpenClaim := { program := "ytkmakmbdfeojcaa", sum := "519592d2847a19868d4377c0804c1920fdfdb99f2dfec637749bd1b773738a2a", func := "loop.example/g00894/laws.FnExactGoodRecord", spec := "fnExactGoodRecord", apart := false }
def FnExactGoodRecordSaid : Prop := fnExactGoodRecordRow.holds Try.pinned (OpenSpec.ofChange fnExactGoodRecordSpec)

/-- ITS FALSE NEIGHBOUR: 'it returns false'. Refute it at one input. -/
def fnExactGoodRecordWrong : ChangeSpec := { name := "fnExactGoodRecord", fn := fun _ => fun
  | [d] => { results := [.lit (.bool false)], args := [d] }
  | _ => none }
def FnExactGoodRecordWrongFalsely : Prop := fnExactGoodRecordRow.holds Try.pinned (OpenSpec.ofChange fnExactGoodRecordWrong)

/-- 'laws.FnExactGoodSpoken': WHATEVER THE INPUT: true; the input reads as it did. -/
def fnExactGoodSpokenSpec : ChangeSpec := { name := "fnExactGoodSpoken", fn := fun _ => fun
  | [d] => { results := [.lit (.bool true)], args := [d] }
  | _ => none }
def fnExactGoodSpokenRow : OpenClaim := { program := "ytkmakmbdfeojcaa", sum := "519592d2847a19868d4377c0804c1920fdfdb99f2dfec637749bd1b773738a2a", func := "loop.example/g00894/laws.FnExactGoodSpoken", spec := "fnExactGoodSpoken", apart := false }
def FnExactGoodSpokenSaid : Prop := fnExactGoodSpokenRow.holds Try.pinned (OpenSpec.ofChange fnExactGoodSpokenSpec)

/-- ITS FALSE NEIGHBOUR: 'it returns false'. Refute it at one input. -/
def fnExactGoodSpokenWrong : ChangeSpec := { name := "fnExactGoodSpoken", fn := fun _ => fun
  | [d] => { results := [.lit (.bool false)], args := [d] }
  | _ => none }
def FnExactGoodSpokenWrongFalsely : Prop := fnExactGoodSpokenRow.holds Try.pinned (OpenSpec.ofChange fnExactGoodSpokenWrong)

/-- 'laws.FnExactWrongBells': WHATEVER THE INPUT: true; the input reads as it did. -/
def fnExactWrongBellsSpec : ChangeSpec := { name := "fnExactWrongBells", fn := fun _ => fun
  | [d1, d2] => { results := [.lit (.bool true)], args := [d1, d2] }
  | _ => none }
def fnExactWrongBellsRow : OpenClaim := { program := "ytkmakmbdfeojcaa", sum := "519592d2847a19868d4377c0804c1920fdfdb99f2dfec637749bd1b773738a2a", func := "loop.example/g00894/laws.FnExactWrongBells", spec := "fnExactWrongBells", apart := false }
def FnExactWrongBellsSaid : Prop := fnExactWrongBellsRow.holds Try.pinned (OpenSpec.ofChange fnExactWrongBellsSpec)

/-- ITS FALSE NEIGHBOUR: 'it returns false'. Refute it at one input. -/
def fnExactWrongBellsWrong : ChangeSpec := { name := "fnExactWrongBells", fn := fun _ => fun
  | [d1, d2] => { results := [.lit (.bool false)], args := [d1, d2] }
  | _ => none }
def FnExactWrongBellsWrongFalsely : Prop := fnExactWrongBellsRow.holds Try.pinned (OpenSpec.ofChange fnExactWrongBellsWrong)

/-- 'laws.FnExactFirstSlip': WHATEVER THE INPUT: true; the input reads as it did. -/
def fnExactFirstSlipSpec : ChangeSpec := { name := "fnExactFirstSlip", fn := fun _ => fun
  | [d1, d2] => { results := [.lit (.bool true)], args := [d1, d2] }
  | _ => none }
def fnExactFirstSlipRow : OpenClaim := { program := "ytkmakmbdfeojcaa", sum := "519592d2847a19868d4377c0804c1920fdfdb99f2dfec637749bd1b773738a2a", func := "loop.example/g00894/laws.FnExactFirstSlip", spec := "fnExactFirstSlip", apart := false }
def FnExactFirstSlipSaid : Prop := fnExactFirstSlipRow.holds Try.pinned (OpenSpec.ofChange fnExactFirstSlipSpec)

/-- ITS FALSE NEIGHBOUR: 'it returns false'. Refute it at one input. -/
def fnExactFirstSlipWrong : ChangeSpec := { name := "fnExactFirstSlip", fn := fun _ => fun
  | [d1, d2] => { results := [.lit (.bool false)], args := [d1, d2] }
  | _ => none }
def FnExactFirstSlipWrongFalsely : Prop := fnExactFirstSlipRow.holds Try.pinned (OpenSpec.ofChange fnExactFirstSlipWrong)

/-- 'laws.FnExactSideSwaps': WHATEVER THE INPUT: true; the input reads as it did. -/
def fnExactSideSwapsSpec : ChangeSpec := { name := "fnExactSideSwaps", fn := fun _ => fun
  | [d1, d2] => { results := [.lit (.bool true)], args := [d1, d2] }
  | _ => none }
def fnExactSideSwapsRow : OpenClaim := { program := "ytkmakmbdfeojcaa", sum := "519592d2847a19868d4377c0804c1920fdfdb99f2dfec637749bd1b773738a2a", func := "loop.example/g00894/laws.FnExactSideSwaps", spec := "fnExactSideSwaps", apart := false }
def FnExactSideSwapsSaid : Prop := fnExactSideSwapsRow.holds Try.pinned (OpenSpec.ofChange fnExactSideSwapsSpec)

/-- ITS FALSE NEIGHBOUR: 'it returns false'. Refute it at one input. -/
def fnExactSideSwapsWrong : ChangeSpec := { name := "fnExactSideSwaps", fn := fun _ => fun
  | [d1, d2] => { results := [.lit (.bool false)], args := [d1, d2] }
  | _ => none }
def FnExactSideSwapsWrongFalsely : Prop := fnExactSideSwapsRow.holds Try.pinned (OpenSpec.ofChange fnExactSideSwapsWrong)

/-- 'laws.FnExactGoodPeople': WHATEVER THE INPUT: true; the input reads as it did. -/
def fnExactGoodPeopleSpec : ChangeSpec := { name := "fnExactGoodPeople", fn := fun _ => fun
  | [d1, d2] => { results := [.lit (.bool true)], args := [d1, d2] }
  | _ => none }
def fnExactGoodPeopleRow : OpenClaim := { program := "ytkmakmbdfeojcaa", sum := "519592d2847a19868d4377c0804c1920fdfdb99f2dfec637749bd1b773738a2a", func := "loop.example/g00894/laws.FnExactGoodPeople", spec := "fnExactGoodPeople", unfollowed := true, recurses := true, apart := false }
def FnExactGoodPeopleSaid : Prop := fnExactGoodPeopleRow.holds Try.pinned (OpenSpec.ofChange fnExactGoodPeopleSpec)

/-- ITS FALSE NEIGHBOUR: 'it returns false'. Refute it at one input. -/
def fnExactGoodPeopleWrong : ChangeSpec := { name := "fnExactGoodPeople", fn := fun _ => fun
  | [d1, d2] => { results := [.lit (.bool false)], args := [d1, d2] }
  | _ => none }
def FnExactGoodPeopleWrongFalsely : Prop := fnExactGoodPeopleRow.holds Try.pinned (OpenSpec.ofChange fnExactGoodPeopleWrong)

/-- 'laws.FnExactGoodSlips': WHATEVER THE INPUT: true; the input reads as it did. -/
def fnExactGoodSlipsSpec : ChangeSpec := { name := "fnExactGoodSlips", fn := fun _ => fun
  | [d1, d2] => { results := [.lit (.bool true)], args := [d1, d2] }
  | _ => none }
def fnExactGoodSlipsRow : OpenClaim := { program := "ytkmakmbdfeojcaa", sum := "519592d2847a19868d4377c0804c1920fdfdb99f2dfec637749bd1b773738a2a", func := "loop.example/g00894/laws.FnExactGoodSlips", spec := "fnExactGoodSlips", apart := false }
def FnExactGoodSlipsSaid : Prop := fnExactGoodSlipsRow.holds Try.pinned (OpenSpec.ofChange fnExactGoodSlipsSpec)

/-- ITS FALSE NEIGHBOUR: 'it returns false'. Refute it at one input. -/
def fnExactGoodSlipsWrong : ChangeSpec := { name := "fnExactGoodSlips", fn := fun _ => fun
  | [d1, d2] => { results := [.lit (.bool false)], args := [d1, d2] }
  | _ => none }
def FnExactGoodSlipsWrongFalsely : Prop := fnExactGoodSlipsRow.holds Try.pinned (OpenSpec.ofChange fnExactGoodSlipsWrong)

/-- 'laws.FnExactLeastSwaps': WHATEVER THE INPUT: true; the input reads as it did. -/
def fnExactLeastSwapsSpec : ChangeSpec := { name := "fnExactLeastSwaps", fn := fun _ => fun
  | [d1, d2] => { results := [.lit (.bool true)], args := [d1, d2] }
  | _ => none }
def fnExactLeastSwapsRow : OpenClaim := { program := "ytkmakmbdfeojcaa", sum := "519592d2847a19868d4377c0804c1920fdfdb99f2dfec637749bd1b773738a2a", func := "loop.example/g00894/laws.FnExactLeastSwaps", spec := "fnExactLeastSwaps", apart := false }
def FnExactLeastSwapsSaid : Prop := fnExactLeastSwapsRow.holds Try.pinned (OpenSpec.ofChange fnExactLeastSwapsSpec)

/-- ITS FALSE NEIGHBOUR: 'it returns false'. Refute it at one input. -/
def fnExactLeastSwapsWrong : ChangeSpec := { name := "fnExactLeastSwaps", fn := fun _ => fun
  | [d1, d2] => { results := [.lit (.bool false)], args := [d1, d2] }
  | _ => none }
def FnExactLeastSwapsWrongFalsely : Prop := fnExactLeastSwapsRow.holds Try.pinned (OpenSpec.ofChange fnExactLeastSwapsWrong)

/-- 'laws.FnExactSaidAt': WHATEVER THE INPUT: true; the input reads as it did. -/
def fnExactSaidAtSpec : ChangeSpec := { name := "fnExactSaidAt", fn := fun _ => fun
  | [d1, d2] => { results := [.lit (.bool true)], args := [d1, d2] }
  | _ => none }
def fnExactSaidAtRow : OpenClaim := { program := "ytkmakmbdfeojcaa", sum := "519592d2847a19868d4377c0804c1920fdfdb99f2dfec637749bd1b773738a2a", func := "loop.example/g00894/laws.FnExactSaidAt", spec := "fnExactSaidAt", apart := false }
def FnExactSaidAtSaid : Prop := fnExactSaidAtRow.holds Try.pinned (OpenSpec.ofChange fnExactSaidAtSpec)

/-- ITS FALSE NEIGHBOUR: 'it returns false'. Refute it at one input. -/
def fnExactSaidAtWrong : ChangeSpec := { name := "fnExactSaidAt", fn := fun _ => fun
  | [d1, d2] => { results := [.lit (.bool false)], args := [d1, d2] }
  | _ => none }
def FnExactSaidAtWrongFalsely : Prop := fnExactSaidAtRow.holds Try.pinned (OpenSpec.ofChange fnExactSaidAtWrong)

/-- 'laws.FnExactGoodPlacing': WHATEVER THE INPUT: true; the input reads as it did. -/
def fnExactGoodPlacingSpec : ChangeSpec := { name := "fnExactGoodPlacing", fn := fun _ => fun
  | [d1, d2, d3] => { results := [.lit (.bool true)], args := [d1, d2, d3] }
  | _ => none }
def fnExactGoodPlacingRow : OpenClaim := { program := "ytkmakmbdfeojcaa", sum := "519592d2847a19868d4377c0804c1920fdfdb99f2dfec637749bd1b773738a2a", func := "loop.example/g00894/laws.FnExactGoodPlacing", spec := "fnExactGoodPlacing", unfollowed := true, recurses := true, apart := false }
def FnExactGoodPlacingSaid : Prop := fnExactGoodPlacingRow.holds Try.pinned (OpenSpec.ofChange fnExactGoodPlacingSpec)

/-- ITS FALSE NEIGHBOUR: 'it returns false'. Refute it at one input. -/
def fnExactGoodPlacingWrong : ChangeSpec := { name := "fnExactGoodPlacing", fn := fun _ => fun
  | [d1, d2, d3] => { results := [.lit (.bool false)], args := [d1, d2, d3] }
  | _ => none }
def FnExactGoodPlacingWrongFalsely : Prop := fnExactGoodPlacingRow.holds Try.pinned (OpenSpec.ofChange fnExactGoodPlacingWrong)

/-- 'laws.FnExactSlipSpans': WHATEVER THE INPUT: true; the input reads as it did. -/
def fnExactSlipSpansSpec : ChangeSpec := { name := "fnExactSlipSpans", fn := fun _ => fun
  | [d1, d2] => { results := [.lit (.bool true)], args := [d1, d2] }
  | _ => none }
def fnExactSlipSpansRow : OpenClaim := { program := "ytkmakmbdfeojcaa", sum := "519592d2847a19868d4377c0804c1920fdfdb99f2dfec637749bd1b773738a2a", func := "loop.example/g00894/laws.FnExactSlipSpans", spec := "fnExactSlipSpans", apart := false }
def FnExactSlipSpansSaid : Prop := fnExactSlipSpansRow.holds Try.pinned (OpenSpec.ofChange fnExactSlipSpansSpec)

/-- ITS FALSE NEIGHBOUR: 'it returns false'. Refute it at one input. -/
def fnExactSlipSpansWrong : ChangeSpec := { name := "fnExactSlipSpans", fn := fun _ => fun
  | [d1, d2] => { results := [.lit (.bool false)], args := [d1, d2] }
  | _ => none }
def FnExactSlipSpansWrongFalsely : Prop := fnExactSlipSpansRow.holds Try.pinned (OpenSpec.ofChange fnExactSlipSpansWrong)

/- THE SECOND FORM. 'bulk': how many values and letters a reading holds, each counted each time it is reached (what is shared counts as often as it is met; a slice's spare places count too). A statement '..UptoSaid' is the law's where the arguments, and the package variables that the reading takes, are together of bulk at most 1048576: NARROWER than '..Said'. Prove '..Said' where nothing that the law and all that it calls make is longer than what came in: it says more and counts as full. Else prove '..UptoSaid'. A law counts once. -/
mutual
def uptoBulk {H : Type} : DataW H → Nat
  | .lit (.string bytes) => bytes.length + 1
  | .lit _ => 1
  | .nil => 1
  | .ptr d => uptoBulk d + 1
  | .slice elems spare => uptoBulkAll elems + uptoBulkAll spare + 1
  | .agg parts => uptoBulkAll parts + 1
  | .iface _ d => uptoBulk d + 1
  | .map entries => uptoBulkEntries entries + 1
  | .held _ => 1
def uptoBulkAll {H : Type} : List (DataW H) → Nat
  | [] => 0
  | d :: r => uptoBulk d + uptoBulkAll r
def uptoBulkEntries {H : Type} : List (Lit × DataW H) → Nat
  | [] => 0
  | x :: r => uptoBulkEntry x + uptoBulkEntries r
def uptoBulkEntry {H : Type} : Lit × DataW H → Nat
  | (.string bytes, d) => bytes.length + uptoBulk d + 1
  | (_, d) => uptoBulk d + 1
 end
def uptoSmall : (H : Type) → List (DataW H) → Bool := fun _ ds => decide (uptoBulkAll ds ≤ 1048576)
def OpenSpec.upto (s : _root_.Go.ChangeSpec) : _root_.Go.OpenSpec := { _root_.Go.OpenSpec.ofChange s with cond := some uptoSmall }

/-- 'laws.FnExactDriftOf', WHERE WHAT IT READS IS OF BULK AT MOST 1048576: true; the input reads as it did. -/
def fnExactDriftOfUptoRow : OpenClaim := { program := "ytkmakmbdfeojcaa", sum := "519592d2847a19868d4377c0804c1920fdfdb99f2dfec637749bd1b773738a2a", func := "loop.example/g00894/laws.FnExactDriftOf", spec := "fnExactDriftOf", apart := false, narrowed := true }
def FnExactDriftOfUptoSaid : Prop := fnExactDriftOfUptoRow.holds Try.pinned (OpenSpec.upto fnExactDriftOfSpec)

/-- 'laws.FnExactGoodRecord', WHERE WHAT IT READS IS OF BULK AT MOST 1048576: true; the input reads as it did. -/
def fnExactGoodRecordUptoRow : OpenClaim := { program := "ytkmakmbdfeojcaa", sum := "519592d2847a19868d4377c0804c1920fdfdb99f2dfec637749bd1b773738a2a", func := "loop.example/g00894/laws.FnExactGoodRecord", spec := "fnExactGoodRecord", apart := false, narrowed := true }
def FnExactGoodRecordUptoSaid : Prop := fnExactGoodRecordUptoRow.holds Try.pinned (OpenSpec.upto fnExactGoodRecordSpec)

/-- 'laws.FnExactGoodSpoken', WHERE WHAT IT READS IS OF BULK AT MOST 1048576: true; the input reads as it did. -/
def fnExactGoodSpokenUptoRow : OpenClaim := { program := "ytkmakmbdfeojcaa", sum := "519592d2847a19868d4377c0804c1920fdfdb99f2dfec637749bd1b773738a2a", func := "loop.example/g00894/laws.FnExactGoodSpoken", spec := "fnExactGoodSpoken", apart := false, narrowed := true }
def FnExactGoodSpokenUptoSaid : Prop := fnExactGoodSpokenUptoRow.holds Try.pinned (OpenSpec.upto fnExactGoodSpokenSpec)

/-- 'laws.FnExactWrongBells', WHERE WHAT IT READS IS OF BULK AT MOST 1048576: true; the input reads as it did. -/
def fnExactWrongBellsUptoRow : OpenClaim := { program := "ytkmakmbdfeojcaa", sum := "519592d2847a19868d4377c0804c1920fdfdb99f2dfec637749bd1b773738a2a", func := "loop.example/g00894/laws.FnExactWrongBells", spec := "fnExactWrongBells", apart := false, narrowed := true }
def FnExactWrongBellsUptoSaid : Prop := fnExactWrongBellsUptoRow.holds Try.pinned (OpenSpec.upto fnExactWrongBellsSpec)

/-- 'laws.FnExactFirstSlip', WHERE WHAT IT READS IS OF BULK AT MOST 1048576: true; the input reads as it did. -/
def fnExactFirstSlipUptoRow : OpenClaim := { program := "ytkmakmbdfeojcaa", sum := "519592d2847a19868d4377c0804c1920fdfdb99f2dfec637749bd1b773738a2a", func := "loop.example/g00894/laws.FnExactFirstSlip", spec := "fnExactFirstSlip", apart := false, narrowed := true }
def FnExactFirstSlipUptoSaid : Prop := fnExactFirstSlipUptoRow.holds Try.pinned (OpenSpec.upto fnExactFirstSlipSpec)

/-- 'laws.FnExactSideSwaps', WHERE WHAT IT READS IS OF BULK AT MOST 1048576: true; the input reads as it did. -/
def fnExactSideSwapsUptoRow : OpenClaim := { program := "ytkmakmbdfeojcaa", sum := "519592d2847a19868d4377c0804c1920fdfdb99f2dfec637749bd1b773738a2a", func := "loop.example/g00894/laws.FnExactSideSwaps", spec := "fnExactSideSwaps", apart := false, narrowed := true }
def FnExactSideSwapsUptoSaid : Prop := fnExactSideSwapsUptoRow.holds Try.pinned (OpenSpec.upto fnExactSideSwapsSpec)

/-- 'laws.FnExactGoodPeople', WHERE WHAT IT READS IS OF BULK AT MOST 1048576: true; the input reads as it did. -/
def fnExactGoodPeopleUptoRow : OpenClaim := { program := "ytkmakmbdfeojcaa", sum := "519592d2847a19868d4377c0804c1920fdfdb99f2dfec637749bd1b773738a2a", func := "loop.example/g00894/laws.FnExactGoodPeople", spec := "fnExactGoodPeople", unfollowed := true, recurses := true, apart := false, narrowed := true }
def FnExactGoodPeopleUptoSaid : Prop := fnExactGoodPeopleUptoRow.holds Try.pinned (OpenSpec.upto fnExactGoodPeopleSpec)

/-- 'laws.FnExactGoodSlips', WHERE WHAT IT READS IS OF BULK AT MOST 1048576: true; the input reads as it did. -/
def fnExactGoodSlipsUptoRow : OpenClaim := { program := "ytkmakmbdfeojcaa", sum := "519592d2847a19868d4377c0804c1920fdfdb99f2dfec637749bd1b773738a2a", func := "loop.example/g00894/laws.FnExactGoodSlips", spec := "fnExactGoodSlips", apart := false, narrowed := true }
def FnExactGoodSlipsUptoSaid : Prop := fnExactGoodSlipsUptoRow.holds Try.pinned (OpenSpec.upto fnExactGoodSlipsSpec)

/-- 'laws.FnExactLeastSwaps', WHERE WHAT IT READS IS OF BULK AT MOST 1048576: true; the input reads as it did. -/
def fnExactLeastSwapsUptoRow : OpenClaim := { program := "ytkmakmbdfeojcaa", sum := "519592d2847a19868d4377c0804c1920fdfdb99f2dfec637749bd1b773738a2a", func := "loop.example/g00894/laws.FnExactLeastSwaps", spec := "fnExactLeastSwaps", apart := false, narrowed := true }
def FnExactLeastSwapsUptoSaid : Prop := fnExactLeastSwapsUptoRow.holds Try.pinned (OpenSpec.upto fnExactLeastSwapsSpec)

/-- 'laws.FnExactSaidAt', WHERE WHAT IT READS IS OF BULK AT MOST 1048576: true; the input reads as it did. -/
def fnExactSaidAtUptoRow : OpenClaim := { program := "ytkmakmbdfeojcaa", sum := "519592d2847a19868d4377c0804c1920fdfdb99f2dfec637749bd1b773738a2a", func := "loop.example/g00894/laws.FnExactSaidAt", spec := "fnExactSaidAt", apart := false, narrowed := true }
def FnExactSaidAtUptoSaid : Prop := fnExactSaidAtUptoRow.holds Try.pinned (OpenSpec.upto fnExactSaidAtSpec)

/-- 'laws.FnExactGoodPlacing', WHERE WHAT IT READS IS OF BULK AT MOST 1048576: true; the input reads as it did. -/
def fnExactGoodPlacingUptoRow : OpenClaim := { program := "ytkmakmbdfeojcaa", sum := "519592d2847a19868d4377c0804c1920fdfdb99f2dfec637749bd1b773738a2a", func := "loop.example/g00894/laws.FnExactGoodPlacing", spec := "fnExactGoodPlacing", unfollowed := true, recurses := true, apart := false, narrowed := true }
def FnExactGoodPlacingUptoSaid : Prop := fnExactGoodPlacingUptoRow.holds Try.pinned (OpenSpec.upto fnExactGoodPlacingSpec)

/-- 'laws.FnExactSlipSpans', WHERE WHAT IT READS IS OF BULK AT MOST 1048576: true; the input reads as it did. -/
def fnExactSlipSpansUptoRow : OpenClaim := { program := "ytkmakmbdfeojcaa", sum := "519592d2847a19868d4377c0804c1920fdfdb99f2dfec637749bd1b773738a2a", func := "loop.example/g00894/laws.FnExactSlipSpans", spec := "fnExactSlipSpans", apart := false, narrowed := true }
def FnExactSlipSpansUptoSaid : Prop := fnExactSlipSpansUptoRow.holds Try.pinned (OpenSpec.upto fnExactSlipSpansSpec)

end Rows
end Go.Proofs.Ytkmakmbdfeojcaa
