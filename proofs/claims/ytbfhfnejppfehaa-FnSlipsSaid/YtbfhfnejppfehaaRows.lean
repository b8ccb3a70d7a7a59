/-
  No cell of these rows narrows 'for every input' (looked for: loops, veiled, ifaces, maps, wideKeys, modest, calm, conditions, laid).
  DERIVED. THE GIVEN ROWS OF THIS SEAT. 3 by the template 'for every input the law returns true; each argument reads behind the call as it read before'; 0 by the template 'total and deterministic' (their statements: YtbfhfnejppfehaaTotals.lean).
  GIVEN WITH THE SEED: the statements are not yours to turn. If you find one false, say at which input.
  Laid BY PROGRAM, IN A SANDBOX (cutbox-rows.mjs): the forced cells as the released guide's own fill.sh prints them over the translation d035acb13b0f8f12… (all of the seat's roots in one cut). By AI agents, Wed Nov 11 2026. No macro, syntax, notation, axiom, sorry.
-/
import Derived.Test.YtbfhfnejppfehaaChecked
import GoSem.Claim
import GoSem.ClaimJoined
import GoSem.ClaimMapViews
import Derived.JoinedTies
import Derived.KernelRfl
namespace Go.Proofs.Ytbfhfnejppfehaa
/- THE CELL 'sum', in the pinned program and in every row, IS THE sha256 OF THE DUMP (.gsa) THAT YtbfhfnejppfehaaProg.lean LOADS. Nothing in Lean hashes anything: it is a label: what it is worth is what the hold of that sum in a sandbox is worth. -/
noncomputable def Try.pinned : Pinned := { name := "ytbfhfnejppfehaa", sum := "d035acb13b0f8f123d73afc331cb34faa145a96f2d345a28bfa44ae4b6d426a6", checked := Try.checked }
namespace Rows
def none {H : Type} : Left H := { results := [], args := [] }

/-- 'laws.FnSlips': WHATEVER THE INPUT: true; the input reads as it did. -/
def fnSlipsSpec : ChangeSpec := { name := "fnSlips", fn := fun _ => fun
  | [d1, d2] => { results := [.lit (.bool true)], args := [d1, d2] }
  | _ => none }
def fnSlipsRow : OpenClaim := { program := "ytbfhfnejppfehaa", sum := "d035acb13b0f8f123d73afc331cb34faa145a96f2d345a28bfa44ae4b6d426a6", func := "loop.example/g00894/laws.FnSlips", spec := "fnSlips", recurses := true, plainKeys := false, apart := false }
def FnSlipsSaid : Prop := fnSlipsRow.holds Try.pinned (OpenSpec.ofChange fnSlipsSpec)

/-- ITS FALSE NEIGHBOUR: 'it returns false'. Refute it at one input. -/
def fnSlipsWrong : ChangeSpec := { name := "fnSlips", fn := fun _ => fun
  | [d1, d2] => { results := [.lit (.bool false)], args := [d1, d2] }
  | _ => none }
def FnSlipsWrongFalsely : Prop := fnSlipsRow.holds Try.pinned (OpenSpec.ofChange fnSlipsWrong)

/-- 'laws.FnExactBlowsIn': WHATEVER THE INPUT: true; the input reads as it did. -/
def fnExactBlowsInSpec : ChangeSpec := { name := "fnExactBlowsIn", fn := fun _ => fun
  | [d1, d2, d3, d4] => { results := [.lit (.bool true)], args := [d1, d2, d3, d4] }
  | _ => none }
def fnExactBlowsInRow : OpenClaim := { program := "ytbfhfnejppfehaa", sum := "d035acb13b0f8f123d73afc331cb34faa145a96f2d345a28bfa44ae4b6d426a6", func := "loop.example/g00894/laws.FnExactBlowsIn", spec := "fnExactBlowsIn", unfollowed := true, recurses := true, plainKeys := false, apart := false }
def FnExactBlowsInSaid : Prop := fnExactBlowsInRow.holds Try.pinned (OpenSpec.ofChange fnExactBlowsInSpec)

/-- ITS FALSE NEIGHBOUR: 'it returns false'. Refute it at one input. -/
def fnExactBlowsInWrong : ChangeSpec := { name := "fnExactBlowsIn", fn := fun _ => fun
  | [d1, d2, d3, d4] => { results := [.lit (.bool false)], args := [d1, d2, d3, d4] }
  | _ => none }
def FnExactBlowsInWrongFalsely : Prop := fnExactBlowsInRow.holds Try.pinned (OpenSpec.ofChange fnExactBlowsInWrong)

/-- 'laws.FnBeats': WHATEVER THE INPUT: true; the input reads as it did. -/
def fnBeatsSpec : ChangeSpec := { name := "fnBeats", fn := fun _ => fun
  | [d1, d2] => { results := [.lit (.bool true)], args := [d1, d2] }
  | _ => none }
def fnBeatsRow : OpenClaim := { program := "ytbfhfnejppfehaa", sum := "d035acb13b0f8f123d73afc331cb34faa145a96f2d345a28bfa44ae4b6d426a6", func := "loop.example/g00894/laws.FnBeats", spec := "fnBeats", recurses := true, plainKeys := false, apart := false }
def FnBeatsSaid : Prop := fnBeatsRow.holds Try.pinned (OpenSpec.ofChange fnBeatsSpec)

/-- ITS FALSE NEIGHBOUR: 'it returns false'. Refute it at one input. -/
def fnBeatsWrong : ChangeSpec := { name := "fnBeats", fn := fun _ => fun
  | [d1, d2] => { results := [.lit (.bool false)], args := [d1, d2] }
  | _ => none }
def FnBeatsWrongFalsely : Prop := fnBeatsRow.holds Try.pinned (OpenSpec.ofChange fnBeatsWrong)

/- THE SECOND FORM. 'bulk': how many values and letters a reading holds, each counted each time it is reached (what is shared counts as often as it is met; a slice's spare places count too). A statement '..UptoSaid' is the law's where the arguments, and the package variables that the reading takes, are together of bulk at most 1048576: NARROWER than '..Said'. Prove '..Said' where nothing that the law and all that it calls make is longer than what came in: it says more and counts as full. Else prove '..UptoSaid'. A law counts once. -/
mutual
def uptoBulk {H : Type} : DataW H → Nat
  | .lit (.string bytes) => bytes.length + 1
  | .lit _ => 1
  | .nil => 1
  | .ptr d => uptoBulk d + 1
  | .slice elems spare => uptoBulkAll elems + uptoBulkAll spare + 1
  | .agg parts => uptoBulkAll parts + 1
  | .iface _ d => uptoBulk d + 1
  | .map entries => uptoBulkEntries entries + 1
  | .held _ => 1
def uptoBulkAll {H : Type} : List (DataW H) → Nat
  | [] => 0
  | d :: r => uptoBulk d + uptoBulkAll r
def uptoBulkEntries {H : Type} : List (Lit × DataW H) → Nat
  | [] => 0
  | x :: r => uptoBulkEntry x + uptoBulkEntries r
def uptoBulkEntry {H : Type} : Lit × DataW H → Nat
  | (.string bytes, d) => bytes.length + uptoBulk d + 1
  | (_, d) => uptoBulk d + 1
 end
def uptoSmall : (H : Type) → List (DataW H) → Bool := fun _ ds => decide (uptoBulkAll ds ≤ 1048576)
def OpenSpec.upto (s : _root_.Go.ChangeSpec) : _root_.Go.OpenSpec := { _root_.Go.OpenSpec.ofChange s with cond := some uptoSmall }

/-- 'laws.FnSlips', WHERE WHAT IT READS IS OF BULK AT MOST 1048576: true; the input reads as it did. -/
def fnSlipsUptoRow : OpenClaim := { program := "ytbfhfnejppfehaa", sum := "d035acb13b0f8f123d73afc331cb34faa145a96f2d345a28bfa44ae4b6d426a6", func := "loop.example/g00894/laws.FnSlips", spec := "fnSlips", recurses := true, plainKeys := false, apart := false, narrowed := true }
def FnSlipsUptoSaid : Prop := fnSlipsUptoRow.holds Try.pinned (OpenSpec.upto fnSlipsSpec)

/-- 'laws.FnExactBlowsIn', WHERE WHAT IT READS IS OF BULK AT MOST 1048576: true; the input reads as it did. -/
def fnExactBlowsInUptoRow : OpenClaim := { program := "ytbfhfnejppfehaa", sum := "d035acb13b0f8f123d73afc331cb34faa145a96f2d345a28bfa44ae4b6d426a6", func := "loop.example/g00894/laws.FnExactBlowsIn", spec := "fnExactBlowsIn", unfollowed := true, recurses := true, plainKeys := false, apart := false, narrowed := true }
def FnExactBlowsInUptoSaid : Prop := fnExactBlowsInUptoRow.holds Try.pinned (OpenSpec.upto fnExactBlowsInSpec)

/-- 'laws.FnBeats', WHERE WHAT IT READS IS OF BULK AT MOST 1048576: true; the input reads as it did. -/
def fnBeatsUptoRow : OpenClaim := { program := "ytbfhfnejppfehaa", sum := "d035acb13b0f8f123d73afc331cb34faa145a96f2d345a28bfa44ae4b6d426a6", func := "loop.example/g00894/laws.FnBeats", spec := "fnBeats", recurses := true, plainKeys := false, apart := false, narrowed := true }
def FnBeatsUptoSaid : Prop := fnBeatsUptoRow.holds Try.pinned (OpenSpec.upto fnBeatsSpec)

end Rows
end Go.Proofs.Ytbfhfnejppfehaa
