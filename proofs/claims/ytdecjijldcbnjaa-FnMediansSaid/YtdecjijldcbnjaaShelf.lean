/-
  DERIVED: THE SHELF's CONTRACTS AT THIS DUMP, IN PLAIN WORDS (tools/lay-plain.mjs out of 'TryShelf.lean', which tools/lay-shelf.mjs wrote): THE SAME DECLARATIONS UNDER THE SAME NAMES: 'import', 'namespace', 'open', 'def', 'theorem' AND NOTHING ELSE: no command of the shelf's: FOR A HAND-IN. Each laying: the table of numbers ('.._ren') and one theorem, a field a fact of the dump's own or the kernel's comparison; each contract: ONE APPLICATION.
-/
import Derived.Shelf.SlGeneric
import Derived.Shelf.SlSortCmp.Whole1
import Derived.Ground.SlsfProg
import Derived.Test.YtdecjijldcbnjaaProg
namespace Go.Proofs
open Go.Shelf
def Try.sortFuncInt_ren : Go.Shelf.Ren := ⟨fun | 6 => 140 | 15 => 194 | 14 => 193 | 28 => 236 | 29 => 237 | 20 => 228 | 21 => 229 | 22 => 230 | 23 => 231 | 24 => 232 | 25 => 233 | 26 => 234 | 27 => 235 | 46 => 266 | 47 => 267 | 48 => 268 | 49 => 269 | 50 => 270 | 57 => 288 | n => n, fun | 22 => 28 | 24 => 3 | 25 => 133 | 3 => 3 | 39 => 190 | 0 => 0 | 53 => 215 | 55 => 137 | 4 => 4 | 46 => 209 | 45 => 208 | 50 => 46 | 5 => 5 | 9 => 9 | 66 => 239 | 70 => 243 | 76 => 257 | 77 => 258 | n => n, fun | n => n⟩
theorem Try.sortFuncInt : Go.Proofs.SlLaysF.n6 Try.prog Try.sortFuncInt_ren := {
  mixed := by kernel_rfl
  f6 := ⟨Try.f140.name, by decide, Try.func140.trans (congrArg some (by kernel_rfl))⟩
  f14 := ⟨Try.f193.name, by decide, Try.func193.trans (congrArg some (by kernel_rfl))⟩
  f15 := Try.func194.trans (congrArg some (by kernel_rfl))
  f20 := ⟨Try.f228.name, by decide, Try.func228.trans (congrArg some (by kernel_rfl))⟩
  f21 := ⟨Try.f229.name, by decide, Try.func229.trans (congrArg some (by kernel_rfl))⟩
  f22 := ⟨Try.f230.name, by decide, Try.func230.trans (congrArg some (by kernel_rfl))⟩
  f23 := ⟨Try.f231.name, by decide, Try.func231.trans (congrArg some (by kernel_rfl))⟩
  f24 := ⟨Try.f232.name, by decide, Try.func232.trans (congrArg some (by kernel_rfl))⟩
  f25 := ⟨Try.f233.name, by decide, Try.func233.trans (congrArg some (by kernel_rfl))⟩
  f26 := ⟨Try.f234.name, by decide, Try.func234.trans (congrArg some (by kernel_rfl))⟩
  f27 := ⟨Try.f235.name, by decide, Try.func235.trans (congrArg some (by kernel_rfl))⟩
  f28 := Try.func236.trans (congrArg some (by kernel_rfl))
  f29 := Try.func237.trans (congrArg some (by kernel_rfl))
  f46 := ⟨Try.f266.name, by decide, Try.func266.trans (congrArg some (by kernel_rfl))⟩
  f47 := Try.func267.trans (congrArg some (by kernel_rfl))
  f48 := Try.func268.trans (congrArg some (by kernel_rfl))
  f49 := ⟨Try.f269.name, by decide, Try.func269.trans (congrArg some (by kernel_rfl))⟩
  f50 := ⟨Try.f270.name, by decide, Try.func270.trans (congrArg some (by kernel_rfl))⟩
  f57 := ⟨Try.f288.name, by decide, Try.func288.trans (congrArg some (by kernel_rfl))⟩
  t0 := Try.underlying0
  a0 := Try.isAgg0
  z0 := Try.sizeOf0
  v0 := Try.zeroValue0
  t3 := Try.underlying3
  a3 := Try.isAgg3
  z3 := Try.sizeOf3
  v3 := Try.zeroValue3
  t4 := Try.underlying4
  a4 := Try.isAgg4
  z4 := Try.sizeOf4
  v4 := Try.zeroValue4
  t5 := Try.underlying5
  a5 := Try.isAgg5
  z5 := Try.sizeOf5
  v5 := Try.zeroValue5
  t9 := Try.underlying9
  a9 := Try.isAgg9
  z9 := Try.sizeOf9
  v9 := Try.zeroValue9
  t22 := Try.underlying28
  a22 := Try.isAgg28
  z22 := Try.sizeOf28
  v22 := Try.zeroValue28
  a24 := Try.isAgg3
  z24 := Try.sizeOf3
  t25 := Try.underlying133
  a25 := Try.isAgg133
  z25 := Try.sizeOf133
  v25 := Try.zeroValue133
  t39 := Try.underlying190
  a39 := Try.isAgg190
  z39 := Try.sizeOf190
  v39 := Try.zeroValue190
  t45 := Try.underlying208
  a45 := Try.isAgg208
  z45 := Try.sizeOf208
  v45 := Try.zeroValue208
  t46 := Try.underlying209
  a46 := Try.isAgg209
  z46 := Try.sizeOf209
  v46 := Try.zeroValue209
  t50 := Try.underlying46
  a50 := Try.isAgg46
  z50 := Try.sizeOf46
  v50 := Try.zeroValue46
  t53 := Try.underlying215
  a53 := Try.isAgg215
  z53 := Try.sizeOf215
  v53 := Try.zeroValue215
  t55 := Try.underlying137
  a55 := Try.isAgg137
  z55 := Try.sizeOf137
  v55 := Try.zeroValue137
  t66 := Try.underlying239
  a66 := Try.isAgg239
  z66 := Try.sizeOf239
  v66 := Try.zeroValue239
  t70 := Try.underlying243
  a70 := Try.isAgg243
  z70 := Try.sizeOf243
  v70 := Try.zeroValue243
  t76 := Try.underlying257
  a76 := Try.isAgg257
  z76 := Try.sizeOf257
  v76 := Try.zeroValue257
  t77 := Try.underlying258
  a77 := Try.isAgg258
  z77 := Try.sizeOf258
  v77 := Try.zeroValue258 }
end Go.Proofs
