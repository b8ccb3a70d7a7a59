/-
  DERIVED: THE SHELF's CONTRACTS AT THIS DUMP, IN PLAIN WORDS (tools/lay-plain.mjs out of 'TryShelf.lean', which tools/lay-shelf.mjs wrote): THE SAME DECLARATIONS UNDER THE SAME NAMES: 'import', 'namespace', 'open', 'def', 'theorem' AND NOTHING ELSE: no command of the shelf's: FOR A HAND-IN. Each laying: the table of numbers ('.._ren') and one theorem, a field a fact of the dump's own or the kernel's comparison; each contract: ONE APPLICATION.
-/
import Derived.Shelf.Strings.Repeat
import Derived.Ground.Names2Prog
import Derived.Test.YtdecjijldcbnjaaProg
namespace Go.Proofs
open Go.Shelf
def Try.lays105_ren : Go.Shelf.Ren := ⟨fun | 105 => 213 | 212 => 254 | 99 => 255 | 165 => 256 | 166 => 257 | 170 => 258 | 169 => 259 | 263 => 280 | 264 => 281 | 206 => 282 | 240 => 283 | 241 => 284 | 276 => 292 | 277 => 293 | n => n, fun | 9 => 9 | 3 => 3 | 4 => 4 | 20 => 20 | 0 => 0 | 46 => 190 | 109 => 226 | 5 => 5 | 72 => 230 | 76 => 234 | 51 => 215 | 146 => 251 | 53 => 137 | 148 => 253 | 70 => 228 | 37 => 22 | 75 => 233 | 127 => 255 | 164 => 263 | 80 => 180 | n => n, fun | n => n⟩
theorem Try.lays105 : Go.Proofs.Lays.n105 Try.prog Try.lays105_ren := {
  mixed := by kernel_rfl
  f99 := Try.func255.trans (congrArg some (by kernel_rfl))
  f105 := Try.func213.trans (congrArg some (by kernel_rfl))
  f165 := Try.func256.trans (congrArg some (by kernel_rfl))
  f166 := Try.func257.trans (congrArg some (by kernel_rfl))
  f169 := Try.func259.trans (congrArg some (by kernel_rfl))
  f170 := Try.func258.trans (congrArg some (by kernel_rfl))
  f206 := Try.func282.trans (congrArg some (by kernel_rfl))
  f212 := Try.func254.trans (congrArg some (by kernel_rfl))
  f240 := Try.func283.trans (congrArg some (by kernel_rfl))
  f241 := Try.func284.trans (congrArg some (by kernel_rfl))
  f263 := Try.func280.trans (congrArg some (by kernel_rfl))
  f264 := Try.func281.trans (congrArg some (by kernel_rfl))
  f276 := Try.func292.trans (congrArg some (by kernel_rfl))
  f277 := Try.func293.trans (congrArg some (by kernel_rfl))
  t0 := Try.underlying0
  a0 := Try.isAgg0
  z0 := Try.sizeOf0
  v0 := Try.zeroValue0
  t3 := Try.underlying3
  a3 := Try.isAgg3
  z3 := Try.sizeOf3
  v3 := Try.zeroValue3
  t4 := Try.underlying4
  a4 := Try.isAgg4
  z4 := Try.sizeOf4
  v4 := Try.zeroValue4
  t5 := Try.underlying5
  a5 := Try.isAgg5
  z5 := Try.sizeOf5
  v5 := Try.zeroValue5
  t9 := Try.underlying9
  a9 := Try.isAgg9
  z9 := Try.sizeOf9
  v9 := Try.zeroValue9
  t20 := Try.underlying20
  a20 := Try.isAgg20
  z20 := Try.sizeOf20
  v20 := Try.zeroValue20
  t37 := Try.underlying22
  a37 := Try.isAgg22
  z37 := Try.sizeOf22
  v37 := Try.zeroValue22
  t46 := Try.underlying190
  a46 := Try.isAgg190
  z46 := Try.sizeOf190
  v46 := Try.zeroValue190
  t51 := Try.underlying215
  a51 := Try.isAgg215
  z51 := Try.sizeOf215
  v51 := Try.zeroValue215
  t53 := Try.underlying137
  a53 := Try.isAgg137
  z53 := Try.sizeOf137
  v53 := Try.zeroValue137
  t70 := Try.underlying228
  a70 := Try.isAgg228
  z70 := Try.sizeOf228
  v70 := Try.zeroValue228
  t72 := Try.underlying230
  a72 := Try.isAgg230
  z72 := Try.sizeOf230
  v72 := Try.zeroValue230
  t75 := Try.underlying233
  a75 := Try.isAgg233
  z75 := Try.sizeOf233
  v75 := Try.zeroValue233
  t76 := Try.underlying234
  a76 := Try.isAgg234
  z76 := Try.sizeOf234
  v76 := Try.zeroValue234
  t109 := Try.underlying226
  a109 := Try.isAgg226
  z109 := Try.sizeOf226
  v109 := Try.zeroValue226
  t127 := Try.underlying255
  a127 := Try.isAgg255
  z127 := Try.sizeOf255
  v127 := Try.zeroValue255
  t146 := Try.underlying251
  a146 := Try.isAgg251
  z146 := Try.sizeOf251
  v146 := Try.zeroValue251
  t148 := Try.underlying253
  a148 := Try.isAgg253
  z148 := Try.sizeOf253
  v148 := Try.zeroValue253
  t164 := Try.underlying263
  a164 := Try.isAgg263
  z164 := Try.sizeOf263
  v164 := Try.zeroValue263 }
theorem Try.Builder_Extra_105 : Builder.Extra Try.prog Try.lays105_ren := {
  sizeBuilder := by kernel_rfl
  liesBuilder := by kernel_rfl
  t5 := Try.underlying5
  a5 := Try.isAgg5
  z5 := Try.sizeOf5
  v5 := Try.zeroValue5
  infoByte := by kernel_rfl
  cellsByte := by kernel_rfl
  sizeByte := by kernel_rfl
  neB5 := by decide }
open Go.RowKit Go.Lib in
theorem Try.strings_Repeat (s : ByteArray) (c : Nat) (w : World) (hc : c ≤ 9223372036854775807) (hlen : s.size * c ≤ 140737488355328) :
    Calls Try.prog 213 #[.string s, .int .i64 c] w fun e w' => e = .returned (.string ⟨(Lib.repeatL s.data.toList c).toArray⟩) ∧ Below w.heap.size w w' := Any.strings_Repeat Try.lays105 Try.Builder_Extra_105 s c w hc hlen
end Go.Proofs
