/-
  No cell of these rows narrows 'for every input' (looked for: loops, veiled, ifaces, maps, wideKeys, modest, calm, conditions, laid).
  DERIVED. THE GIVEN ROWS OF THIS SEAT. 12 by the template 'for every input the law returns true; each argument reads behind the call as it read before'; 0 by the template 'total and deterministic' (their statements: YtdegbckoejddeaaTotals.lean).
  GIVEN WITH THE SEED: the statements are not yours to turn. If you find one false, say at which input.
  Laid BY PROGRAM, IN A SANDBOX (cutbox-rows.mjs): the forced cells as the released guide's own fill.sh prints them over the translation 7776e7d9c66375e5… (all of the seat's roots in one cut). By AI agents, Wed Nov 11 2026. No macro, syntax, notation, axiom, sorry.
-/
import Derived.Test.YtdegbckoejddeaaChecked
import GoSem.Claim
import GoSem.ClaimJoined
import GoSem.ClaimMapViews
import Derived.JoinedTies
import Derived.KernelRfl
namespace Go.Proofs.Ytdegbckoejddeaa
/- THE CELL 'sum', in the pinned program and in every row, IS THE sha256 OF THE DUMP (.gsa) THAT YtdegbckoejddeaaProg.lean LOADS. Nothing in Lean hashes anything: it is a label: what it is worth is what the hold of that sum in a sandbox is worth. -/
noncomputable def Try.pinned : Pinned := { name := "ytdegbckoejddeaa", sum := "7776e7d9c66375e553d023c0676532ecb41cc3e5643d7cf587ac64c479bb54cb", checked := Try.checked }
namespace Rows
def none {H : Type} : Left H := { results := [], args := [] }

/-- 'laws.FnExactSkillOf': WHATEVER THE INPUT: true; the input reads as it did. -/
def fnExactSkillOfSpec : ChangeSpec := { name := "fnExactSkillOf", fn := fun _ => fun
  | [d1, d2, d3] => { results := [.lit (.bool true)], args := [d1, d2, d3] }
  | _ => none }
def fnExactSkillOfRow : OpenClaim := { program := "ytdegbckoejddeaa", sum := "7776e7d9c66375e553d023c0676532ecb41cc3e5643d7cf587ac64c479bb54cb", func := "loop.example/g00894/laws.FnExactSkillOf", spec := "fnExactSkillOf", unfollowed := true, recurses := true, apart := false }
def FnExactSkillOfSaid : Prop := fnExactSkillOfRow.holds Try.pinned (OpenSpec.ofChange fnExactSkillOfSpec)

/-- ITS FALSE NEIGHBOUR: 'it returns false'. Refute it at one input. -/
def fnExactSkillOfWrong : ChangeSpec := { name := "fnExactSkillOf", fn := fun _ => fun
  | [d1, d2, d3] => { results := [.lit (.bool false)], args := [d1, d2, d3] }
  | _ => none }
def FnExactSkillOfWrongFalsely : Prop := fnExactSkillOfRow.holds Try.pinned (OpenSpec.ofChange fnExactSkillOfWrong)

/-- 'laws.FnExactGoodBook': WHATEVER THE INPUT: true; the input reads as it did. -/
def fnExactGoodBookSpec : ChangeSpec := { name := "fnExactGoodBook", fn := fun _ => fun
  | [d] => { results := [.lit (.bool true)], args := [d] }
  | _ => none }
def fnExactGoodBookRow : OpenClaim := { program := "ytdegbckoejddeaa", sum := "7776e7d9c66375e553d023c0676532ecb41cc3e5643d7cf587ac64c479bb54cb", func := "loop.example/g00894/laws.FnExactGoodBook", spec := "fnExactGoodBook", unfollowed := true, recurses := true, apart := false }
def FnExactGoodBookSaid : Prop := fnExactGoodBookRow.holds Try.pinned (OpenSpec.ofChange fnExactGoodBookSpec)

/-- ITS FALSE NEIGHBOUR: 'it returns false'. Refute it at one input. -/
def fnExactGoodBookWrong : ChangeSpec := { name := "fnExactGoodBook", fn := fun _ => fun
  | [d] => { results := [.lit (.bool false)], args := [d] }
  | _ => none }
def FnExactGoodBookWrongFalsely : Prop := fnExactGoodBookRow.holds Try.pinned (OpenSpec.ofChange fnExactGoodBookWrong)

/-- 'laws.FnExactCheckPlacing': WHATEVER THE INPUT: true; the input reads as it did. -/
def fnExactCheckPlacingSpec : ChangeSpec := { name := "fnExactCheckPlacing", fn := fun _ => fun
  | [d1, d2, d3, d4] => { results := [.lit (.bool true)], args := [d1, d2, d3, d4] }
  | _ => none }
def fnExactCheckPlacingRow : OpenClaim := { program := "ytdegbckoejddeaa", sum := "7776e7d9c66375e553d023c0676532ecb41cc3e5643d7cf587ac64c479bb54cb", func := "loop.example/g00894/laws.FnExactCheckPlacing", spec := "fnExactCheckPlacing", unfollowed := true, recurses := true, apart := false }
def FnExactCheckPlacingSaid : Prop := fnExactCheckPlacingRow.holds Try.pinned (OpenSpec.ofChange fnExactCheckPlacingSpec)

/-- ITS FALSE NEIGHBOUR: 'it returns false'. Refute it at one input. -/
def fnExactCheckPlacingWrong : ChangeSpec := { name := "fnExactCheckPlacing", fn := fun _ => fun
  | [d1, d2, d3, d4] => { results := [.lit (.bool false)], args := [d1, d2, d3, d4] }
  | _ => none }
def FnExactCheckPlacingWrongFalsely : Prop := fnExactCheckPlacingRow.holds Try.pinned (OpenSpec.ofChange fnExactCheckPlacingWrong)

/-- 'laws.FnExactGainOf': WHATEVER THE INPUT: true; the input reads as it did. -/
def fnExactGainOfSpec : ChangeSpec := { name := "fnExactGainOf", fn := fun _ => fun
  | [d1, d2, d3, d4, d5] => { results := [.lit (.bool true)], args := [d1, d2, d3, d4, d5] }
  | _ => none }
def fnExactGainOfRow : OpenClaim := { program := "ytdegbckoejddeaa", sum := "7776e7d9c66375e553d023c0676532ecb41cc3e5643d7cf587ac64c479bb54cb", func := "loop.example/g00894/laws.FnExactGainOf", spec := "fnExactGainOf", unfollowed := true, recurses := true, apart := false }
def FnExactGainOfSaid : Prop := fnExactGainOfRow.holds Try.pinned (OpenSpec.ofChange fnExactGainOfSpec)

/-- ITS FALSE NEIGHBOUR: 'it returns false'. Refute it at one input. -/
def fnExactGainOfWrong : ChangeSpec := { name := "fnExactGainOf", fn := fun _ => fun
  | [d1, d2, d3, d4, d5] => { results := [.lit (.bool false)], args := [d1, d2, d3, d4, d5] }
  | _ => none }
def FnExactGainOfWrongFalsely : Prop := fnExactGainOfRow.holds Try.pinned (OpenSpec.ofChange fnExactGainOfWrong)

/-- 'laws.FnExactRungRows': WHATEVER THE INPUT: true; the input reads as it did. -/
def fnExactRungRowsSpec : ChangeSpec := { name := "fnExactRungRows", fn := fun _ => fun
  | [d1, d2] => { results := [.lit (.bool true)], args := [d1, d2] }
  | _ => none }
def fnExactRungRowsRow : OpenClaim := { program := "ytdegbckoejddeaa", sum := "7776e7d9c66375e553d023c0676532ecb41cc3e5643d7cf587ac64c479bb54cb", func := "loop.example/g00894/laws.FnExactRungRows", spec := "fnExactRungRows", apart := false }
def FnExactRungRowsSaid : Prop := fnExactRungRowsRow.holds Try.pinned (OpenSpec.ofChange fnExactRungRowsSpec)

/-- ITS FALSE NEIGHBOUR: 'it returns false'. Refute it at one input. -/
def fnExactRungRowsWrong : ChangeSpec := { name := "fnExactRungRows", fn := fun _ => fun
  | [d1, d2] => { results := [.lit (.bool false)], args := [d1, d2] }
  | _ => none }
def FnExactRungRowsWrongFalsely : Prop := fnExactRungRowsRow.holds Try.pinned (OpenSpec.ofChange fnExactRungRowsWrong)

/-- 'laws.FnExactFindLike': WHATEVER THE INPUT: true; the input reads as it did. -/
def fnExactFindLikeSpec : ChangeSpec := { name := "fnExactFindLike", fn := fun _ => fun
  | [d1, d2, d3] => { results := [.lit (.bool true)], args := [d1, d2, d3] }
  | _ => none }
def fnExactFindLikeRow : OpenClaim := { program := "ytdegbckoejddeaa", sum := "7776e7d9c66375e553d023c0676532ecb41cc3e5643d7cf587ac64c479bb54cb", func := "loop.example/g00894/laws.FnExactFindLike", spec := "fnExactFindLike", unfollowed := true, recurses := true, apart := false }
def FnExactFindLikeSaid : Prop := fnExactFindLikeRow.holds Try.pinned (OpenSpec.ofChange fnExactFindLikeSpec)

/-- ITS FALSE NEIGHBOUR: 'it returns false'. Refute it at one input. -/
def fnExactFindLikeWrong : ChangeSpec := { name := "fnExactFindLike", fn := fun _ => fun
  | [d1, d2, d3] => { results := [.lit (.bool false)], args := [d1, d2, d3] }
  | _ => none }
def FnExactFindLikeWrongFalsely : Prop := fnExactFindLikeRow.holds Try.pinned (OpenSpec.ofChange fnExactFindLikeWrong)

/-- 'laws.FnExactSlipsOf': WHATEVER THE INPUT: true; the input reads as it did. -/
def fnExactSlipsOfSpec : ChangeSpec := { name := "fnExactSlipsOf", fn := fun _ => fun
  | [d1, d2] => { results := [.lit (.bool true)], args := [d1, d2] }
  | _ => none }
def fnExactSlipsOfRow : OpenClaim := { program := "ytdegbckoejddeaa", sum := "7776e7d9c66375e553d023c0676532ecb41cc3e5643d7cf587ac64c479bb54cb", func := "loop.example/g00894/laws.FnExactSlipsOf", spec := "fnExactSlipsOf", apart := false }
def FnExactSlipsOfSaid : Prop := fnExactSlipsOfRow.holds Try.pinned (OpenSpec.ofChange fnExactSlipsOfSpec)

/-- ITS FALSE NEIGHBOUR: 'it returns false'. Refute it at one input. -/
def fnExactSlipsOfWrong : ChangeSpec := { name := "fnExactSlipsOf", fn := fun _ => fun
  | [d1, d2] => { results := [.lit (.bool false)], args := [d1, d2] }
  | _ => none }
def FnExactSlipsOfWrongFalsely : Prop := fnExactSlipsOfRow.holds Try.pinned (OpenSpec.ofChange fnExactSlipsOfWrong)

/-- 'laws.FnExactBestPlacing': WHATEVER THE INPUT: true; the input reads as it did. -/
def fnExactBestPlacingSpec : ChangeSpec := { name := "fnExactBestPlacing", fn := fun _ => fun
  | [d1, d2] => { results := [.lit (.bool true)], args := [d1, d2] }
  | _ => none }
def fnExactBestPlacingRow : OpenClaim := { program := "ytdegbckoejddeaa", sum := "7776e7d9c66375e553d023c0676532ecb41cc3e5643d7cf587ac64c479bb54cb", func := "loop.example/g00894/laws.FnExactBestPlacing", spec := "fnExactBestPlacing", unfollowed := true, recurses := true, apart := false }
def FnExactBestPlacingSaid : Prop := fnExactBestPlacingRow.holds Try.pinned (OpenSpec.ofChange fnExactBestPlacingSpec)

/-- ITS FALSE NEIGHBOUR: 'it returns false'. Refute it at one input. -/
def fnExactBestPlacingWrong : ChangeSpec := { name := "fnExactBestPlacing", fn := fun _ => fun
  | [d1, d2] => { results := [.lit (.bool false)], args := [d1, d2] }
  | _ => none }
def FnExactBestPlacingWrongFalsely : Prop := fnExactBestPlacingRow.holds Try.pinned (OpenSpec.ofChange fnExactBestPlacingWrong)

/-- 'laws.FnExactRungOn': WHATEVER THE INPUT: true; the input reads as it did. -/
def fnExactRungOnSpec : ChangeSpec := { name := "fnExactRungOn", fn := fun _ => fun
  | [d1, d2] => { results := [.lit (.bool true)], args := [d1, d2] }
  | _ => none }
def fnExactRungOnRow : OpenClaim := { program := "ytdegbckoejddeaa", sum := "7776e7d9c66375e553d023c0676532ecb41cc3e5643d7cf587ac64c479bb54cb", func := "loop.example/g00894/laws.FnExactRungOn", spec := "fnExactRungOn", unfollowed := true, recurses := true, apart := false }
def FnExactRungOnSaid : Prop := fnExactRungOnRow.holds Try.pinned (OpenSpec.ofChange fnExactRungOnSpec)

/-- ITS FALSE NEIGHBOUR: 'it returns false'. Refute it at one input. -/
def fnExactRungOnWrong : ChangeSpec := { name := "fnExactRungOn", fn := fun _ => fun
  | [d1, d2] => { results := [.lit (.bool false)], args := [d1, d2] }
  | _ => none }
def FnExactRungOnWrongFalsely : Prop := fnExactRungOnRow.holds Try.pinned (OpenSpec.ofChange fnExactRungOnWrong)

/-- 'laws.FnExactPricesFor': WHATEVER THE INPUT: true; the input reads as it did. -/
def fnExactPricesForSpec : ChangeSpec := { name := "fnExactPricesFor", fn := fun _ => fun
  | [d1, d2] => { results := [.lit (.bool true)], args := [d1, d2] }
  | _ => none }
def fnExactPricesForRow : OpenClaim := { program := "ytdegbckoejddeaa", sum := "7776e7d9c66375e553d023c0676532ecb41cc3e5643d7cf587ac64c479bb54cb", func := "loop.example/g00894/laws.FnExactPricesFor", spec := "fnExactPricesFor", unfollowed := true, recurses := true, apart := false }
def FnExactPricesForSaid : Prop := fnExactPricesForRow.holds Try.pinned (OpenSpec.ofChange fnExactPricesForSpec)

/-- ITS FALSE NEIGHBOUR: 'it returns false'. Refute it at one input. -/
def fnExactPricesForWrong : ChangeSpec := { name := "fnExactPricesFor", fn := fun _ => fun
  | [d1, d2] => { results := [.lit (.bool false)], args := [d1, d2] }
  | _ => none }
def FnExactPricesForWrongFalsely : Prop := fnExactPricesForRow.holds Try.pinned (OpenSpec.ofChange fnExactPricesForWrong)

/-- 'laws.FnExactGoodBand': WHATEVER THE INPUT: true; the input reads as it did. -/
def fnExactGoodBandSpec : ChangeSpec := { name := "fnExactGoodBand", fn := fun _ => fun
  | [d] => { results := [.lit (.bool true)], args := [d] }
  | _ => none }
def fnExactGoodBandRow : OpenClaim := { program := "ytdegbckoejddeaa", sum := "7776e7d9c66375e553d023c0676532ecb41cc3e5643d7cf587ac64c479bb54cb", func := "loop.example/g00894/laws.FnExactGoodBand", spec := "fnExactGoodBand", apart := false }
def FnExactGoodBandSaid : Prop := fnExactGoodBandRow.holds Try.pinned (OpenSpec.ofChange fnExactGoodBandSpec)

/-- ITS FALSE NEIGHBOUR: 'it returns false'. Refute it at one input. -/
def fnExactGoodBandWrong : ChangeSpec := { name := "fnExactGoodBand", fn := fun _ => fun
  | [d] => { results := [.lit (.bool false)], args := [d] }
  | _ => none }
def FnExactGoodBandWrongFalsely : Prop := fnExactGoodBandRow.holds Try.pinned (OpenSpec.ofChange fnExactGoodBandWrong)

/-- 'laws.FnExactNewBand': WHATEVER THE INPUT: true; the input reads as it did. -/
def fnExactNewBandSpec : ChangeSpec := { name := "fnExactNewBand", fn := fun _ => fun
  | [d1, d2] => { results := [.lit (.bool true)], args := [d1, d2] }
  | _ => none }
def fnExactNewBandRow : OpenClaim := { program := "ytdegbckoejddeaa", sum := "7776e7d9c66375e553d023c0676532ecb41cc3e5643d7cf587ac64c479bb54cb", func := "loop.example/g00894/laws.FnExactNewBand", spec := "fnExactNewBand", apart := false }
def FnExactNewBandSaid : Prop := fnExactNewBandRow.holds Try.pinned (OpenSpec.ofChange fnExactNewBandSpec)

/-- ITS FALSE NEIGHBOUR: 'it returns false'. Refute it at one input. -/
def fnExactNewBandWrong : ChangeSpec := { name := "fnExactNewBand", fn := fun _ => fun
  | [d1, d2] => { results := [.lit (.bool false)], args := [d1, d2] }
  | _ => none }
def FnExactNewBandWrongFalsely : Prop := fnExactNewBandRow.holds Try.pinned (OpenSpec.ofChange fnExactNewBandWrong)

/- THE SECOND FORM. 'bulk': how many values and letters a reading holds, each counted each time it is reached (what is shared counts as often as it is met; a slice's spare places count too). A statement '..UptoSaid' is the law's where the arguments, and the package variables that the reading takes, are together of bulk at most 1048576: NARROWER than '..Said'. Prove '..Said' where nothing that the law and all that it calls make is longer than what came in: it says more and counts as full. Else prove '..UptoSaid'. A law counts once. -/
mutual
def uptoBulk {H : Type} : DataW H → Nat
  | .lit (.string bytes) => bytes.length + 1
  | .lit _ => 1
  | .nil => 1
  | .ptr d => uptoBulk d + 1
  | .slice elems spare => uptoBulkAll elems + uptoBulkAll spare + 1
  | .agg parts => uptoBulkAll parts + 1
  | .iface _ d => uptoBulk d + 1
  | .map entries => uptoBulkEntries entries + 1
  | .held _ => 1
def uptoBulkAll {H : Type} : List (DataW H) → Nat
  | [] => 0
  | d :: r => uptoBulk d + uptoBulkAll r
def uptoBulkEntries {H : Type} : List (Lit × DataW H) → Nat
  | [] => 0
  | x :: r => uptoBulkEntry x + uptoBulkEntries r
def uptoBulkEntry {H : Type} : Lit × DataW H → Nat
  | (.string bytes, d) => bytes.length + uptoBulk d + 1
  | (_, d) => uptoBulk d + 1
 end
def uptoSmall : (H : Type) → List (DataW H) → Bool := fun _ ds => decide (uptoBulkAll ds ≤ 1048576)
def OpenSpec.upto (s : _root_.Go.ChangeSpec) : _root_.Go.OpenSpec := { _root_.Go.OpenSpec.ofChange s with cond := some uptoSmall }

/-- 'laws.FnExactSkillOf', WHERE WHAT IT READS IS OF BULK AT MOST 1048576: true; the input reads as it did. -/
def fnExactSkillOfUptoRow : OpenClaim := { program := "ytdegbckoejddeaa", sum := "7776e7d9c66375e553d023c0676532ecb41cc3e5643d7cf587ac64c479bb54cb", func := "loop.example/g00894/laws.FnExactSkillOf", spec := "fnExactSkillOf", unfollowed := true, recurses := true, apart := false, narrowed := true }
def FnExactSkillOfUptoSaid : Prop := fnExactSkillOfUptoRow.holds Try.pinned (OpenSpec.upto fnExactSkillOfSpec)

/-- 'laws.FnExactGoodBook', WHERE WHAT IT READS IS OF BULK AT MOST 1048576: true; the input reads as it did. -/
def fnExactGoodBookUptoRow : OpenClaim := { program := "ytdegbckoejddeaa", sum := "7776e7d9c66375e553d023c0676532ecb41cc3e5643d7cf587ac64c479bb54cb", func := "loop.example/g00894/laws.FnExactGoodBook", spec := "fnExactGoodBook", unfollowed := true, recurses := true, apart := false, narrowed := true }
def FnExactGoodBookUptoSaid : Prop := fnExactGoodBookUptoRow.holds Try.pinned (OpenSpec.upto fnExactGoodBookSpec)

/-- 'laws.FnExactCheckPlacing', WHERE WHAT IT READS IS OF BULK AT MOST 1048576: true; the input reads as it did. -/
def fnExactCheckPlacingUptoRow : OpenClaim := { program := "ytdegbckoejddeaa", sum := "7776e7d9c66375e553d023c0676532ecb41cc3e5643d7cf587ac64c479bb54cb", func := "loop.example/g00894/laws.FnExactCheckPlacing", spec := "fnExactCheckPlacing", unfollowed := true, recurses := true, apart := false, narrowed := true }
def FnExactCheckPlacingUptoSaid : Prop := fnExactCheckPlacingUptoRow.holds Try.pinned (OpenSpec.upto fnExactCheckPlacingSpec)

/-- 'laws.FnExactGainOf', WHERE WHAT IT READS IS OF BULK AT MOST 1048576: true; the input reads as it did. -/
def fnExactGainOfUptoRow : OpenClaim := { program := "ytdegbckoejddeaa", sum := "7776e7d9c66375e553d023c0676532ecb41cc3e5643d7cf587ac64c479bb54cb", func := "loop.example/g00894/laws.FnExactGainOf", spec := "fnExactGainOf", unfollowed := true, recurses := true, apart := false, narrowed := true }
def FnExactGainOfUptoSaid : Prop := fnExactGainOfUptoRow.holds Try.pinned (OpenSpec.upto fnExactGainOfSpec)

/-- 'laws.FnExactRungRows', WHERE WHAT IT READS IS OF BULK AT MOST 1048576: true; the input reads as it did. -/
def fnExactRungRowsUptoRow : OpenClaim := { program := "ytdegbckoejddeaa", sum := "7776e7d9c66375e553d023c0676532ecb41cc3e5643d7cf587ac64c479bb54cb", func := "loop.example/g00894/laws.FnExactRungRows", spec := "fnExactRungRows", apart := false, narrowed := true }
def FnExactRungRowsUptoSaid : Prop := fnExactRungRowsUptoRow.holds Try.pinned (OpenSpec.upto fnExactRungRowsSpec)

/-- 'laws.FnExactFindLike', WHERE WHAT IT READS IS OF BULK AT MOST 1048576: true; the input reads as it did. -/
def fnExactFindLikeUptoRow : OpenClaim := { program := "ytdegbckoejddeaa", sum := "7776e7d9c66375e553d023c0676532ecb41cc3e5643d7cf587ac64c479bb54cb", func := "loop.example/g00894/laws.FnExactFindLike", spec := "fnExactFindLike", unfollowed := true, recurses := true, apart := false, narrowed := true }
def FnExactFindLikeUptoSaid : Prop := fnExactFindLikeUptoRow.holds Try.pinned (OpenSpec.upto fnExactFindLikeSpec)

/-- 'laws.FnExactSlipsOf', WHERE WHAT IT READS IS OF BULK AT MOST 1048576: true; the input reads as it did. -/
def fnExactSlipsOfUptoRow : OpenClaim := { program := "ytdegbckoejddeaa", sum := "7776e7d9c66375e553d023c0676532ecb41cc3e5643d7cf587ac64c479bb54cb", func := "loop.example/g00894/laws.FnExactSlipsOf", spec := "fnExactSlipsOf", apart := false, narrowed := true }
def FnExactSlipsOfUptoSaid : Prop := fnExactSlipsOfUptoRow.holds Try.pinned (OpenSpec.upto fnExactSlipsOfSpec)

/-- 'laws.FnExactBestPlacing', WHERE WHAT IT READS IS OF BULK AT MOST 1048576: true; the input reads as it did. -/
def fnExactBestPlacingUptoRow : OpenClaim := { program := "ytdegbckoejddeaa", sum := "7776e7d9c66375e553d023c0676532ecb41cc3e5643d7cf587ac64c479bb54cb", func := "loop.example/g00894/laws.FnExactBestPlacing", spec := "fnExactBestPlacing", unfollowed := true, recurses := true, apart := false, narrowed := true }
def FnExactBestPlacingUptoSaid : Prop := fnExactBestPlacingUptoRow.holds Try.pinned (OpenSpec.upto fnExactBestPlacingSpec)

/-- 'laws.FnExactRungOn', WHERE WHAT IT READS IS OF BULK AT MOST 1048576: true; the input reads as it did. -/
def fnExactRungOnUptoRow : OpenClaim := { program := "ytdegbckoejddeaa", sum := "7776e7d9c66375e553d023c0676532ecb41cc3e5643d7cf587ac64c479bb54cb", func := "loop.example/g00894/laws.FnExactRungOn", spec := "fnExactRungOn", unfollowed := true, recurses := true, apart := false, narrowed := true }
def FnExactRungOnUptoSaid : Prop := fnExactRungOnUptoRow.holds Try.pinned (OpenSpec.upto fnExactRungOnSpec)

/-- 'laws.FnExactPricesFor', WHERE WHAT IT READS IS OF BULK AT MOST 1048576: true; the input reads as it did. -/
def fnExactPricesForUptoRow : OpenClaim := { program := "ytdegbckoejddeaa", sum := "7776e7d9c66375e553d023c0676532ecb41cc3e5643d7cf587ac64c479bb54cb", func := "loop.example/g00894/laws.FnExactPricesFor", spec := "fnExactPricesFor", unfollowed := true, recurses := true, apart := false, narrowed := true }
def FnExactPricesForUptoSaid : Prop := fnExactPricesForUptoRow.holds Try.pinned (OpenSpec.upto fnExactPricesForSpec)

/-- 'laws.FnExactGoodBand', WHERE WHAT IT READS IS OF BULK AT MOST 1048576: true; the input reads as it did. -/
def fnExactGoodBandUptoRow : OpenClaim := { program := "ytdegbckoejddeaa", sum := "7776e7d9c66375e553d023c0676532ecb41cc3e5643d7cf587ac64c479bb54cb", func := "loop.example/g00894/laws.FnExactGoodBand", spec := "fnExactGoodBand", apart := false, narrowed := true }
def FnExactGoodBandUptoSaid : Prop := fnExactGoodBandUptoRow.holds Try.pinned (OpenSpec.upto fnExactGoodBandSpec)

/-- 'laws.FnExactNewBand', WHERE WHAT IT READS IS OF BULK AT MOST 1048576: true; the input reads as it did. -/
def fnExactNewBandUptoRow : OpenClaim := { program := "ytdegbckoejddeaa", sum := "7776e7d9c66375e553d023c0676532ecb41cc3e5643d7cf587ac64c479bb54cb", func := "loop.example/g00894/laws.FnExactNewBand", spec := "fnExactNewBand", apart := false, narrowed := true }
def FnExactNewBandUptoSaid : Prop := fnExactNewBandUptoRow.holds Try.pinned (OpenSpec.upto fnExactNewBandSpec)

end Rows
end Go.Proofs.Ytdegbckoejddeaa
