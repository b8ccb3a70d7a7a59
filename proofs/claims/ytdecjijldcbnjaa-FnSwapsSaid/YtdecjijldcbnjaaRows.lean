/-
  No cell of these rows narrows 'for every input' (looked for: loops, veiled, ifaces, maps, wideKeys, modest, calm, conditions, laid).
  DERIVED. THE GIVEN ROWS OF THIS SEAT. 8 by the template 'for every input the law returns true; each argument reads behind the call as it read before'; 0 by the template 'total and deterministic' (their statements: YtdecjijldcbnjaaTotals.lean).
  GIVEN WITH THE SEED: the statements are not yours to turn. If you find one false, say at which input.
  Laid BY PROGRAM, IN A SANDBOX (cutbox-rows.mjs): the forced cells as the released guide's own fill.sh prints them over the translation 8d45fefc66b85ec5… (all of the seat's roots in one cut). By AI agents, Wed Nov 11 2026. No macro, syntax, notation, axiom, sorry.
-/
import Derived.Test.YtdecjijldcbnjaaChecked
import GoSem.Claim
import GoSem.ClaimJoined
import GoSem.ClaimMapViews
import Derived.JoinedTies
import Derived.KernelRfl
namespace Go.Proofs.Ytdecjijldcbnjaa
/- THE CELL 'sum', in the pinned program and in every row, IS THE sha256 OF THE DUMP (.gsa) THAT YtdecjijldcbnjaaProg.lean LOADS. Nothing in Lean hashes anything: it is a label: what it is worth is what the hold of that sum in a sandbox is worth. -/
noncomputable def Try.pinned : Pinned := { name := "ytdecjijldcbnjaa", sum := "8d45fefc66b85ec5fbb9d7b3df0d2effe88a2ad585ff1b73200ae80ffc0d35b9", checked := Try.checked }
namespace Rows
def none {H : Type} : Left H := { results := [], args := [] }

/-- 'laws.FnSwaps': WHATEVER THE INPUT: true; the input reads as it did. -/
def fnSwapsSpec : ChangeSpec := { name := "fnSwaps", fn := fun _ => fun
  | [d1, d2] => { results := [.lit (.bool true)], args := [d1, d2] }
  | _ => none }
def fnSwapsRow : OpenClaim := { program := "ytdecjijldcbnjaa", sum := "8d45fefc66b85ec5fbb9d7b3df0d2effe88a2ad585ff1b73200ae80ffc0d35b9", func := "loop.example/g00894/laws.FnSwaps", spec := "fnSwaps", apart := false }
def FnSwapsSaid : Prop := fnSwapsRow.holds Try.pinned (OpenSpec.ofChange fnSwapsSpec)

/-- ITS FALSE NEIGHBOUR: 'it returns false'. Refute it at one input. -/
def fnSwapsWrong : ChangeSpec := { name := "fnSwaps", fn := fun _ => fun
  | [d1, d2] => { results := [.lit (.bool false)], args := [d1, d2] }
  | _ => none }
def FnSwapsWrongFalsely : Prop := fnSwapsRow.holds Try.pinned (OpenSpec.ofChange fnSwapsWrong)

/-- 'laws.FnPlacing': WHATEVER THE INPUT: true; the input reads as it did. -/
def fnPlacingSpec : ChangeSpec := { name := "fnPlacing", fn := fun _ => fun
  | [d1, d2] => { results := [.lit (.bool true)], args := [d1, d2] }
  | _ => none }
def fnPlacingRow : OpenClaim := { program := "ytdecjijldcbnjaa", sum := "8d45fefc66b85ec5fbb9d7b3df0d2effe88a2ad585ff1b73200ae80ffc0d35b9", func := "loop.example/g00894/laws.FnPlacing", spec := "fnPlacing", unfollowed := true, recurses := true, apart := false }
def FnPlacingSaid : Prop := fnPlacingRow.holds Try.pinned (OpenSpec.ofChange fnPlacingSpec)

/-- ITS FALSE NEIGHBOUR: 'it returns false'. Refute it at one input. -/
def fnPlacingWrong : ChangeSpec := { name := "fnPlacing", fn := fun _ => fun
  | [d1, d2] => { results := [.lit (.bool false)], args := [d1, d2] }
  | _ => none }
def FnPlacingWrongFalsely : Prop := fnPlacingRow.holds Try.pinned (OpenSpec.ofChange fnPlacingWrong)

/-- 'laws.FnExactSpokenFor': WHATEVER THE INPUT: true; the input reads as it did. -/
def fnExactSpokenForSpec : ChangeSpec := { name := "fnExactSpokenFor", fn := fun _ => fun
  | [d1, d2, d3, d4] => { results := [.lit (.bool true)], args := [d1, d2, d3, d4] }
  | _ => none }
def fnExactSpokenForRow : OpenClaim := { program := "ytdecjijldcbnjaa", sum := "8d45fefc66b85ec5fbb9d7b3df0d2effe88a2ad585ff1b73200ae80ffc0d35b9", func := "loop.example/g00894/laws.FnExactSpokenFor", spec := "fnExactSpokenFor", apart := false }
def FnExactSpokenForSaid : Prop := fnExactSpokenForRow.holds Try.pinned (OpenSpec.ofChange fnExactSpokenForSpec)

/-- ITS FALSE NEIGHBOUR: 'it returns false'. Refute it at one input. -/
def fnExactSpokenForWrong : ChangeSpec := { name := "fnExactSpokenFor", fn := fun _ => fun
  | [d1, d2, d3, d4] => { results := [.lit (.bool false)], args := [d1, d2, d3, d4] }
  | _ => none }
def FnExactSpokenForWrongFalsely : Prop := fnExactSpokenForRow.holds Try.pinned (OpenSpec.ofChange fnExactSpokenForWrong)

/-- 'laws.FnMedians': WHATEVER THE INPUT: true; the input reads as it did. -/
def fnMediansSpec : ChangeSpec := { name := "fnMedians", fn := fun _ => fun
  | [d1, d2] => { results := [.lit (.bool true)], args := [d1, d2] }
  | _ => none }
def fnMediansRow : OpenClaim := { program := "ytdecjijldcbnjaa", sum := "8d45fefc66b85ec5fbb9d7b3df0d2effe88a2ad585ff1b73200ae80ffc0d35b9", func := "loop.example/g00894/laws.FnMedians", spec := "fnMedians", unfollowed := true, recurses := true, apart := false }
def FnMediansSaid : Prop := fnMediansRow.holds Try.pinned (OpenSpec.ofChange fnMediansSpec)

/-- ITS FALSE NEIGHBOUR: 'it returns false'. Refute it at one input. -/
def fnMediansWrong : ChangeSpec := { name := "fnMedians", fn := fun _ => fun
  | [d1, d2] => { results := [.lit (.bool false)], args := [d1, d2] }
  | _ => none }
def FnMediansWrongFalsely : Prop := fnMediansRow.holds Try.pinned (OpenSpec.ofChange fnMediansWrong)

/-- 'laws.FnExactFirstWrong': WHATEVER THE INPUT: true; the input reads as it did. -/
def fnExactFirstWrongSpec : ChangeSpec := { name := "fnExactFirstWrong", fn := fun _ => fun
  | [d1, d2, d3, d4, d5] => { results := [.lit (.bool true)], args := [d1, d2, d3, d4, d5] }
  | _ => none }
def fnExactFirstWrongRow : OpenClaim := { program := "ytdecjijldcbnjaa", sum := "8d45fefc66b85ec5fbb9d7b3df0d2effe88a2ad585ff1b73200ae80ffc0d35b9", func := "loop.example/g00894/laws.FnExactFirstWrong", spec := "fnExactFirstWrong", apart := false }
def FnExactFirstWrongSaid : Prop := fnExactFirstWrongRow.holds Try.pinned (OpenSpec.ofChange fnExactFirstWrongSpec)

/-- ITS FALSE NEIGHBOUR: 'it returns false'. Refute it at one input. -/
def fnExactFirstWrongWrong : ChangeSpec := { name := "fnExactFirstWrong", fn := fun _ => fun
  | [d1, d2, d3, d4, d5] => { results := [.lit (.bool false)], args := [d1, d2, d3, d4, d5] }
  | _ => none }
def FnExactFirstWrongWrongFalsely : Prop := fnExactFirstWrongRow.holds Try.pinned (OpenSpec.ofChange fnExactFirstWrongWrong)

/-- 'laws.FnSlips': WHATEVER THE INPUT: true; the input reads as it did. -/
def fnSlipsSpec : ChangeSpec := { name := "fnSlips", fn := fun _ => fun
  | [d1, d2] => { results := [.lit (.bool true)], args := [d1, d2] }
  | _ => none }
def fnSlipsRow : OpenClaim := { program := "ytdecjijldcbnjaa", sum := "8d45fefc66b85ec5fbb9d7b3df0d2effe88a2ad585ff1b73200ae80ffc0d35b9", func := "loop.example/g00894/laws.FnSlips", spec := "fnSlips", recurses := true, apart := false }
def FnSlipsSaid : Prop := fnSlipsRow.holds Try.pinned (OpenSpec.ofChange fnSlipsSpec)

/-- ITS FALSE NEIGHBOUR: 'it returns false'. Refute it at one input. -/
def fnSlipsWrong : ChangeSpec := { name := "fnSlips", fn := fun _ => fun
  | [d1, d2] => { results := [.lit (.bool false)], args := [d1, d2] }
  | _ => none }
def FnSlipsWrongFalsely : Prop := fnSlipsRow.holds Try.pinned (OpenSpec.ofChange fnSlipsWrong)

/-- 'laws.FnExactDoBand': WHATEVER THE INPUT: true; the input reads as it did. -/
def fnExactDoBandSpec : ChangeSpec := { name := "fnExactDoBand", fn := fun _ => fun
  | [d1, d2] => { results := [.lit (.bool true)], args := [d1, d2] }
  | _ => none }
def fnExactDoBandRow : OpenClaim := { program := "ytdecjijldcbnjaa", sum := "8d45fefc66b85ec5fbb9d7b3df0d2effe88a2ad585ff1b73200ae80ffc0d35b9", func := "loop.example/g00894/laws.FnExactDoBand", spec := "fnExactDoBand", apart := false }
def FnExactDoBandSaid : Prop := fnExactDoBandRow.holds Try.pinned (OpenSpec.ofChange fnExactDoBandSpec)

/-- ITS FALSE NEIGHBOUR: 'it returns false'. Refute it at one input. -/
def fnExactDoBandWrong : ChangeSpec := { name := "fnExactDoBand", fn := fun _ => fun
  | [d1, d2] => { results := [.lit (.bool false)], args := [d1, d2] }
  | _ => none }
def FnExactDoBandWrongFalsely : Prop := fnExactDoBandRow.holds Try.pinned (OpenSpec.ofChange fnExactDoBandWrong)

/-- 'laws.FnExactTouchSaid': WHATEVER THE INPUT: true; the input reads as it did. -/
def fnExactTouchSaidSpec : ChangeSpec := { name := "fnExactTouchSaid", fn := fun _ => fun
  | [d1, d2, d3] => { results := [.lit (.bool true)], args := [d1, d2, d3] }
  | _ => none }
def fnExactTouchSaidRow : OpenClaim := { program := "ytdecjijldcbnjaa", sum := "8d45fefc66b85ec5fbb9d7b3df0d2effe88a2ad585ff1b73200ae80ffc0d35b9", func := "loop.example/g00894/laws.FnExactTouchSaid", spec := "fnExactTouchSaid", inPlace := ["internal/abi.NoEscape", "internal/bytealg.MakeNoZero"], apart := false }
def FnExactTouchSaidSaid : Prop := fnExactTouchSaidRow.holds Try.pinned (OpenSpec.ofChange fnExactTouchSaidSpec)

/-- ITS FALSE NEIGHBOUR: 'it returns false'. Refute it at one input. -/
def fnExactTouchSaidWrong : ChangeSpec := { name := "fnExactTouchSaid", fn := fun _ => fun
  | [d1, d2, d3] => { results := [.lit (.bool false)], args := [d1, d2, d3] }
  | _ => none }
def FnExactTouchSaidWrongFalsely : Prop := fnExactTouchSaidRow.holds Try.pinned (OpenSpec.ofChange fnExactTouchSaidWrong)

/- THE SECOND FORM. 'bulk': how many values and letters a reading holds, each counted each time it is reached (what is shared counts as often as it is met; a slice's spare places count too). A statement '..UptoSaid' is the law's where the arguments, and the package variables that the reading takes, are together of bulk at most 1048576: NARROWER than '..Said'. Prove '..Said' where nothing that the law and all that it calls make is longer than what came in: it says more and counts as full. Else prove '..UptoSaid'. A law counts once. -/
mutual
def uptoBulk {H : Type} : DataW H → Nat
  | .lit (.string bytes) => bytes.length + 1
  | .lit _ => 1
  | .nil => 1
  | .ptr d => uptoBulk d + 1
  | .slice elems spare => uptoBulkAll elems + uptoBulkAll spare + 1
  | .agg parts => uptoBulkAll parts + 1
  | .iface _ d => uptoBulk d + 1
  | .map entries => uptoBulkEntries entries + 1
  | .held _ => 1
def uptoBulkAll {H : Type} : List (DataW H) → Nat
  | [] => 0
  | d :: r => uptoBulk d + uptoBulkAll r
def uptoBulkEntries {H : Type} : List (Lit × DataW H) → Nat
  | [] => 0
  | x :: r => uptoBulkEntry x + uptoBulkEntries r
def uptoBulkEntry {H : Type} : Lit × DataW H → Nat
  | (.string bytes, d) => bytes.length + uptoBulk d + 1
  | (_, d) => uptoBulk d + 1
 end
def uptoSmall : (H : Type) → List (DataW H) → Bool := fun _ ds => decide (uptoBulkAll ds ≤ 1048576)
def OpenSpec.upto (s : _root_.Go.ChangeSpec) : _root_.Go.OpenSpec := { _root_.Go.OpenSpec.ofChange s with cond := some uptoSmall }

/-- 'laws.FnSwaps', WHERE WHAT IT READS IS OF BULK AT MOST 1048576: true; the input reads as it did. -/
def fnSwapsUptoRow : OpenClaim := { program := "ytdecjijldcbnjaa", sum := "8d45fefc66b85ec5fbb9d7b3df0d2effe88a2ad585ff1b73200ae80ffc0d35b9", func := "loop.example/g00894/laws.FnSwaps", spec := "fnSwaps", apart := false, narrowed := true }
def FnSwapsUptoSaid : Prop := fnSwapsUptoRow.holds Try.pinned (OpenSpec.upto fnSwapsSpec)

/-- 'laws.FnPlacing', WHERE WHAT IT READS IS OF BULK AT MOST 1048576: true; the input reads as it did. -/
def fnPlacingUptoRow : OpenClaim := { program := "ytdecjijldcbnjaa", sum := "8d45fefc66b85ec5fbb9d7b3df0d2effe88a2ad585ff1b73200ae80ffc0d35b9", func := "loop.example/g00894/laws.FnPlacing", spec := "fnPlacing", unfollowed := true, recurses := true, apart := false, narrowed := true }
def FnPlacingUptoSaid : Prop := fnPlacingUptoRow.holds Try.pinned (OpenSpec.upto fnPlacingSpec)

/-- 'laws.FnExactSpokenFor', WHERE WHAT IT READS IS OF BULK AT MOST 1048576: true; the input reads as it did. -/
def fnExactSpokenForUptoRow : OpenClaim := { program := "ytdecjijldcbnjaa", sum := "8d45fefc66b85ec5fbb9d7b3df0d2effe88a2ad585ff1b73200ae80ffc0d35b9", func := "loop.example/g00894/laws.FnExactSpokenFor", spec := "fnExactSpokenFor", apart := false, narrowed := true }
def FnExactSpokenForUptoSaid : Prop := fnExactSpokenForUptoRow.holds Try.pinned (OpenSpec.upto fnExactSpokenForSpec)

/-- 'laws.FnMedians', WHERE WHAT IT READS IS OF BULK AT MOST 1048576: true; the input reads as it did. -/
def fnMediansUptoRow : OpenClaim := { program := "ytdecjijldcbnjaa", sum := "8d45fefc66b85ec5fbb9d7b3df0d2effe88a2ad585ff1b73200ae80ffc0d35b9", func := "loop.example/g00894/laws.FnMedians", spec := "fnMedians", unfollowed := true, recurses := true, apart := false, narrowed := true }
def FnMediansUptoSaid : Prop := fnMediansUptoRow.holds Try.pinned (OpenSpec.upto fnMediansSpec)

/-- 'laws.FnExactFirstWrong', WHERE WHAT IT READS IS OF BULK AT MOST 1048576: true; the input reads as it did. -/
def fnExactFirstWrongUptoRow : OpenClaim := { program := "ytdecjijldcbnjaa", sum := "8d45fefc66b85ec5fbb9d7b3df0d2effe88a2ad585ff1b73200ae80ffc0d35b9", func := "loop.example/g00894/laws.FnExactFirstWrong", spec := "fnExactFirstWrong", apart := false, narrowed := true }
def FnExactFirstWrongUptoSaid : Prop := fnExactFirstWrongUptoRow.holds Try.pinned (OpenSpec.upto fnExactFirstWrongSpec)

/-- 'laws.FnSlips', WHERE WHAT IT READS IS OF BULK AT MOST 1048576: true; the input reads as it did. -/
def fnSlipsUptoRow : OpenClaim := { program := "ytdecjijldcbnjaa", sum := "8d45fefc66b85ec5fbb9d7b3df0d2effe88a2ad585ff1b73200ae80ffc0d35b9", func := "loop.example/g00894/laws.FnSlips", spec := "fnSlips", recurses := true, apart := false, narrowed := true }
def FnSlipsUptoSaid : Prop := fnSlipsUptoRow.holds Try.pinned (OpenSpec.upto fnSlipsSpec)

/-- 'laws.FnExactDoBand', WHERE WHAT IT READS IS OF BULK AT MOST 1048576: true; the input reads as it did. -/
def fnExactDoBandUptoRow : OpenClaim := { program := "ytdecjijldcbnjaa", sum := "8d45fefc66b85ec5fbb9d7b3df0d2effe88a2ad585ff1b73200ae80ffc0d35b9", func := "loop.example/g00894/laws.FnExactDoBand", spec := "fnExactDoBand", apart := false, narrowed := true }
def FnExactDoBandUptoSaid : Prop := fnExactDoBandUptoRow.holds Try.pinned (OpenSpec.upto fnExactDoBandSpec)

/-- 'laws.FnExactTouchSaid', WHERE WHAT IT READS IS OF BULK AT MOST 1048576: true; the input reads as it did. -/
def fnExactTouchSaidUptoRow : OpenClaim := { program := "ytdecjijldcbnjaa", sum := "8d45fefc66b85ec5fbb9d7b3df0d2effe88a2ad585ff1b73200ae80ffc0d35b9", func := "loop.example/g00894/laws.FnExactTouchSaid", spec := "fnExactTouchSaid", inPlace := ["internal/abi.NoEscape", "internal/bytealg.MakeNoZero"], apart := false, narrowed := true }
def FnExactTouchSaidUptoSaid : Prop := fnExactTouchSaidUptoRow.holds Try.pinned (OpenSpec.upto fnExactTouchSaidSpec)

end Rows
end Go.Proofs.Ytdecjijldcbnjaa
