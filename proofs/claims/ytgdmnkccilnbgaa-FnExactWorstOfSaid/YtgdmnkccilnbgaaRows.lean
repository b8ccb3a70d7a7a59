/-
  No cell of these rows narrows 'for every input' (looked for: loops, veiled, ifaces, maps, wideKeys, modest, calm, conditions, laid).
  DERIVED. THE GIVEN ROWS OF THIS SEAT. 7 by the template 'for every input the law returns true; each argument reads behind the call as it read before'; 0 by the template 'total and deterministic' (their statements: YtgdmnkccilnbgaaTotals.lean).
  GIVEN WITH THE SEED: the statements are not yours to turn. If you find one false, say at which input.
  Laid BY PROGRAM, IN A SANDBOX (cutbox-rows.mjs): the forced cells as the released guide's own fill.sh prints them over the translation 33196d153424ee02… (all of the seat's roots in one cut). By AI agents, Wed Nov 11 2026. No macro, syntax, notation, axiom, sorry.
-/
import Derived.Test.YtgdmnkccilnbgaaChecked
import GoSem.Claim
import GoSem.ClaimJoined
import GoSem.ClaimMapViews
import Derived.JoinedTies
import Derived.KernelRfl
namespace Go.Proofs.Ytgdmnkccilnbgaa
/- THE CELL 'sum', in the pinned program and in every row, IS THE sha256 OF THE DUMP (.gsa) THAT YtgdmnkccilnbgaaProg.lean LOADS. Nothing in Lean hashes anything: it is a label: what it is worth is what the hold of that sum in a sandbox is worth. -/
noncomputable def Try.pinned : Pinned := { name := "ytgdmnkccilnbgaa", sum := "33196d153424ee02b0dd276dc07a2025ea17ed2d75317696282289c82cbd4d7e", checked := Try.checked }
namespace Rows
def none {H : Type} : Left H := { results := [], args := [] }

/-- 'laws.FnExactWorstOf': WHATEVER THE INPUT: true; the input reads as it did. -/
def fnExactWorstOfSpec : ChangeSpec := { name := "fnExactWorstOf", fn := fun _ => fun
  | [d1, d2, d3] => { results := [.lit (.bool true)], args := [d1, d2, d3] }
  | _ => none }
def fnExactWorstOfRow : OpenClaim := { program := "ytgdmnkccilnbgaa", sum := "33196d153424ee02b0dd276dc07a2025ea17ed2d75317696282289c82cbd4d7e", func := "loop.example/g00894/laws.FnExactWorstOf", spec := "fnExactWorstOf", plainKeys := false, apart := false }
def FnExactWorstOfSaid : Prop := fnExactWorstOfRow.holds Try.pinned (OpenSpec.ofChange fnExactWorstOfSpec)

/-- ITS FALSE NEIGHBOUR: 'it returns false'. Refute it at one input. -/
def fnExactWorstOfWrong : ChangeSpec := { name := "fnExactWorstOf", fn := fun _ => fun
  | [d1, d2, d3] => { results := [.lit (.bool false)], args := [d1, d2, d3] }
  | _ => none }
def FnExactWorstOfWrongFalsely : Prop := fnExactWorstOfRow.holds Try.pinned (OpenSpec.ofChange fnExactWorstOfWrong)

/-- 'laws.FnExactMedianOf': WHATEVER THE INPUT: true; the input reads as it did. -/
def fnExactMedianOfSpec : ChangeSpec := { name := "fnExactMedianOf", fn := fun _ => fun
  | [d1, d2] => { results := [.lit (.bool true)], args := [d1, d2] }
  | _ => none }
def fnExactMedianOfRow : OpenClaim := { program := "ytgdmnkccilnbgaa", sum := "33196d153424ee02b0dd276dc07a2025ea17ed2d75317696282289c82cbd4d7e", func := "loop.example/g00894/laws.FnExactMedianOf", spec := "fnExactMedianOf", unfollowed := true, recurses := true, plainKeys := false, apart := false }
def FnExactMedianOfSaid : Prop := fnExactMedianOfRow.holds Try.pinned (OpenSpec.ofChange fnExactMedianOfSpec)

/-- ITS FALSE NEIGHBOUR: 'it returns false'. Refute it at one input. -/
def fnExactMedianOfWrong : ChangeSpec := { name := "fnExactMedianOf", fn := fun _ => fun
  | [d1, d2] => { results := [.lit (.bool false)], args := [d1, d2] }
  | _ => none }
def FnExactMedianOfWrongFalsely : Prop := fnExactMedianOfRow.holds Try.pinned (OpenSpec.ofChange fnExactMedianOfWrong)

/-- 'laws.FnExactWrongIn': WHATEVER THE INPUT: true; the input reads as it did. -/
def fnExactWrongInSpec : ChangeSpec := { name := "fnExactWrongIn", fn := fun _ => fun
  | [d] => { results := [.lit (.bool true)], args := [d] }
  | _ => none }
def fnExactWrongInRow : OpenClaim := { program := "ytgdmnkccilnbgaa", sum := "33196d153424ee02b0dd276dc07a2025ea17ed2d75317696282289c82cbd4d7e", func := "loop.example/g00894/laws.FnExactWrongIn", spec := "fnExactWrongIn", plainKeys := false, apart := false }
def FnExactWrongInSaid : Prop := fnExactWrongInRow.holds Try.pinned (OpenSpec.ofChange fnExactWrongInSpec)

/-- ITS FALSE NEIGHBOUR: 'it returns false'. Refute it at one input. -/
def fnExactWrongInWrong : ChangeSpec := { name := "fnExactWrongIn", fn := fun _ => fun
  | [d] => { results := [.lit (.bool false)], args := [d] }
  | _ => none }
def FnExactWrongInWrongFalsely : Prop := fnExactWrongInRow.holds Try.pinned (OpenSpec.ofChange fnExactWrongInWrong)

/-- 'laws.FnExactSpokenFor': WHATEVER THE INPUT: true; the input reads as it did. -/
def fnExactSpokenForSpec : ChangeSpec := { name := "fnExactSpokenFor", fn := fun _ => fun
  | [d1, d2, d3, d4] => { results := [.lit (.bool true)], args := [d1, d2, d3, d4] }
  | _ => none }
def fnExactSpokenForRow : OpenClaim := { program := "ytgdmnkccilnbgaa", sum := "33196d153424ee02b0dd276dc07a2025ea17ed2d75317696282289c82cbd4d7e", func := "loop.example/g00894/laws.FnExactSpokenFor", spec := "fnExactSpokenFor", plainKeys := false, apart := false }
def FnExactSpokenForSaid : Prop := fnExactSpokenForRow.holds Try.pinned (OpenSpec.ofChange fnExactSpokenForSpec)

/-- ITS FALSE NEIGHBOUR: 'it returns false'. Refute it at one input. -/
def fnExactSpokenForWrong : ChangeSpec := { name := "fnExactSpokenFor", fn := fun _ => fun
  | [d1, d2, d3, d4] => { results := [.lit (.bool false)], args := [d1, d2, d3, d4] }
  | _ => none }
def FnExactSpokenForWrongFalsely : Prop := fnExactSpokenForRow.holds Try.pinned (OpenSpec.ofChange fnExactSpokenForWrong)

/-- 'laws.FnExactPutRight': WHATEVER THE INPUT: true; the input reads as it did. -/
def fnExactPutRightSpec : ChangeSpec := { name := "fnExactPutRight", fn := fun _ => fun
  | [d] => { results := [.lit (.bool true)], args := [d] }
  | _ => none }
def fnExactPutRightRow : OpenClaim := { program := "ytgdmnkccilnbgaa", sum := "33196d153424ee02b0dd276dc07a2025ea17ed2d75317696282289c82cbd4d7e", func := "loop.example/g00894/laws.FnExactPutRight", spec := "fnExactPutRight", plainKeys := false, apart := false }
def FnExactPutRightSaid : Prop := fnExactPutRightRow.holds Try.pinned (OpenSpec.ofChange fnExactPutRightSpec)

/-- ITS FALSE NEIGHBOUR: 'it returns false'. Refute it at one input. -/
def fnExactPutRightWrong : ChangeSpec := { name := "fnExactPutRight", fn := fun _ => fun
  | [d] => { results := [.lit (.bool false)], args := [d] }
  | _ => none }
def FnExactPutRightWrongFalsely : Prop := fnExactPutRightRow.holds Try.pinned (OpenSpec.ofChange fnExactPutRightWrong)

/-- 'laws.FnExactStartFor': WHATEVER THE INPUT: true; the input reads as it did. -/
def fnExactStartForSpec : ChangeSpec := { name := "fnExactStartFor", fn := fun _ => fun
  | [d1, d2, d3, d4] => { results := [.lit (.bool true)], args := [d1, d2, d3, d4] }
  | _ => none }
def fnExactStartForRow : OpenClaim := { program := "ytgdmnkccilnbgaa", sum := "33196d153424ee02b0dd276dc07a2025ea17ed2d75317696282289c82cbd4d7e", func := "loop.example/g00894/laws.FnExactStartFor", spec := "fnExactStartFor", recurses := true, plainKeys := false, apart := false }
def FnExactStartForSaid : Prop := fnExactStartForRow.holds Try.pinned (OpenSpec.ofChange fnExactStartForSpec)

/-- ITS FALSE NEIGHBOUR: 'it returns false'. Refute it at one input. -/
def fnExactStartForWrong : ChangeSpec := { name := "fnExactStartFor", fn := fun _ => fun
  | [d1, d2, d3, d4] => { results := [.lit (.bool false)], args := [d1, d2, d3, d4] }
  | _ => none }
def FnExactStartForWrongFalsely : Prop := fnExactStartForRow.holds Try.pinned (OpenSpec.ofChange fnExactStartForWrong)

/-- 'laws.FnExactFirstWrong': WHATEVER THE INPUT: true; the input reads as it did. -/
def fnExactFirstWrongSpec : ChangeSpec := { name := "fnExactFirstWrong", fn := fun _ => fun
  | [d1, d2, d3, d4, d5] => { results := [.lit (.bool true)], args := [d1, d2, d3, d4, d5] }
  | _ => none }
def fnExactFirstWrongRow : OpenClaim := { program := "ytgdmnkccilnbgaa", sum := "33196d153424ee02b0dd276dc07a2025ea17ed2d75317696282289c82cbd4d7e", func := "loop.example/g00894/laws.FnExactFirstWrong", spec := "fnExactFirstWrong", plainKeys := false, apart := false }
def FnExactFirstWrongSaid : Prop := fnExactFirstWrongRow.holds Try.pinned (OpenSpec.ofChange fnExactFirstWrongSpec)

/-- ITS FALSE NEIGHBOUR: 'it returns false'. Refute it at one input. -/
def fnExactFirstWrongWrong : ChangeSpec := { name := "fnExactFirstWrong", fn := fun _ => fun
  | [d1, d2, d3, d4, d5] => { results := [.lit (.bool false)], args := [d1, d2, d3, d4, d5] }
  | _ => none }
def FnExactFirstWrongWrongFalsely : Prop := fnExactFirstWrongRow.holds Try.pinned (OpenSpec.ofChange fnExactFirstWrongWrong)

/- THE SECOND FORM. 'bulk': how many values and letters a reading holds, each counted each time it is reached (what is shared counts as often as it is met; a slice's spare places count too). A statement '..UptoSaid' is the law's where the arguments, and the package variables that the reading takes, are together of bulk at most 1048576: NARROWER than '..Said'. Prove '..Said' where nothing that the law and all that it calls make is longer than what came in: it says more and counts as full. Else prove '..UptoSaid'. A law counts once. -/
mutual
def uptoBulk {H : Type} : DataW H → Nat
  | .lit (.string bytes) => bytes.length + 1
  | .lit _ => 1
  | .nil => 1
  | .ptr d => uptoBulk d + 1
  | .slice elems spare => uptoBulkAll elems + uptoBulkAll spare + 1
  | .agg parts => uptoBulkAll parts + 1
  | .iface _ d => uptoBulk d + 1
  | .map entries => uptoBulkEntries entries + 1
  | .held _ => 1
def uptoBulkAll {H : Type} : List (DataW H) → Nat
  | [] => 0
  | d :: r => uptoBulk d + uptoBulkAll r
def uptoBulkEntries {H : Type} : List (Lit × DataW H) → Nat
  | [] => 0
  | x :: r => uptoBulkEntry x + uptoBulkEntries r
def uptoBulkEntry {H : Type} : Lit × DataW H → Nat
  | (.string bytes, d) => bytes.length + uptoBulk d + 1
  | (_, d) => uptoBulk d + 1
 end
def uptoSmall : (H : Type) → List (DataW H) → Bool := fun _ ds => decide (uptoBulkAll ds ≤ 1048576)
def OpenSpec.upto (s : _root_.Go.ChangeSpec) : _root_.Go.OpenSpec := { _root_.Go.OpenSpec.ofChange s with cond := some uptoSmall }

/-- 'laws.FnExactWorstOf', WHERE WHAT IT READS IS OF BULK AT MOST 1048576: true; the input reads as it did. -/
def fnExactWorstOfUptoRow : OpenClaim := { program := "ytgdmnkccilnbgaa", sum := "33196d153424ee02b0dd276dc07a2025ea17ed2d75317696282289c82cbd4d7e", func := "loop.example/g00894/laws.FnExactWorstOf", spec := "fnExactWorstOf", plainKeys := false, apart := false, narrowed := true }
def FnExactWorstOfUptoSaid : Prop := fnExactWorstOfUptoRow.holds Try.pinned (OpenSpec.upto fnExactWorstOfSpec)

/-- 'laws.FnExactMedianOf', WHERE WHAT IT READS IS OF BULK AT MOST 1048576: true; the input reads as it did. -/
def fnExactMedianOfUptoRow : OpenClaim := { program := "ytgdmnkccilnbgaa", sum := "33196d153424ee02b0dd276dc07a2025ea17ed2d75317696282289c82cbd4d7e", func := "loop.example/g00894/laws.FnExactMedianOf", spec := "fnExactMedianOf", unfollowed := true, recurses := true, plainKeys := false, apart := false, narrowed := true }
def FnExactMedianOfUptoSaid : Prop := fnExactMedianOfUptoRow.holds Try.pinned (OpenSpec.upto fnExactMedianOfSpec)

/-- 'laws.FnExactWrongIn', WHERE WHAT IT READS IS OF BULK AT MOST 1048576: true; the input reads as it did. -/
def fnExactWrongInUptoRow : OpenClaim := { program := "ytgdmnkccilnbgaa", sum := "33196d153424ee02b0dd276dc07a2025ea17ed2d75317696282289c82cbd4d7e", func := "loop.example/g00894/laws.FnExactWrongIn", spec := "fnExactWrongIn", plainKeys := false, apart := false, narrowed := true }
def FnExactWrongInUptoSaid : Prop := fnExactWrongInUptoRow.holds Try.pinned (OpenSpec.upto fnExactWrongInSpec)

/-- 'laws.FnExactSpokenFor', WHERE WHAT IT READS IS OF BULK AT MOST 1048576: true; the input reads as it did. -/
def fnExactSpokenForUptoRow : OpenClaim := { program := "ytgdmnkccilnbgaa", sum := "33196d153424ee02b0dd276dc07a2025ea17ed2d75317696282289c82cbd4d7e", func := "loop.example/g00894/laws.FnExactSpokenFor", spec := "fnExactSpokenFor", plainKeys := false, apart := false, narrowed := true }
def FnExactSpokenForUptoSaid : Prop := fnExactSpokenForUptoRow.holds Try.pinned (OpenSpec.upto fnExactSpokenForSpec)

/-- 'laws.FnExactPutRight', WHERE WHAT IT READS IS OF BULK AT MOST 1048576: true; the input reads as it did. -/
def fnExactPutRightUptoRow : OpenClaim := { program := "ytgdmnkccilnbgaa", sum := "33196d153424ee02b0dd276dc07a2025ea17ed2d75317696282289c82cbd4d7e", func := "loop.example/g00894/laws.FnExactPutRight", spec := "fnExactPutRight", plainKeys := false, apart := false, narrowed := true }
def FnExactPutRightUptoSaid : Prop := fnExactPutRightUptoRow.holds Try.pinned (OpenSpec.upto fnExactPutRightSpec)

/-- 'laws.FnExactStartFor', WHERE WHAT IT READS IS OF BULK AT MOST 1048576: true; the input reads as it did. -/
def fnExactStartForUptoRow : OpenClaim := { program := "ytgdmnkccilnbgaa", sum := "33196d153424ee02b0dd276dc07a2025ea17ed2d75317696282289c82cbd4d7e", func := "loop.example/g00894/laws.FnExactStartFor", spec := "fnExactStartFor", recurses := true, plainKeys := false, apart := false, narrowed := true }
def FnExactStartForUptoSaid : Prop := fnExactStartForUptoRow.holds Try.pinned (OpenSpec.upto fnExactStartForSpec)

/-- 'laws.FnExactFirstWrong', WHERE WHAT IT READS IS OF BULK AT MOST 1048576: true; the input reads as it did. -/
def fnExactFirstWrongUptoRow : OpenClaim := { program := "ytgdmnkccilnbgaa", sum := "33196d153424ee02b0dd276dc07a2025ea17ed2d75317696282289c82cbd4d7e", func := "loop.example/g00894/laws.FnExactFirstWrong", spec := "fnExactFirstWrong", plainKeys := false, apart := false, narrowed := true }
def FnExactFirstWrongUptoSaid : Prop := fnExactFirstWrongUptoRow.holds Try.pinned (OpenSpec.upto fnExactFirstWrongSpec)

end Rows
end Go.Proofs.Ytgdmnkccilnbgaa
