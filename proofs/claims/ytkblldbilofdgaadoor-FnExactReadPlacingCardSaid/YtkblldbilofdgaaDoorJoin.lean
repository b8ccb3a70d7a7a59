/-
  Words put together with a sign between them: the library's Join by the shelf.
-/
import Derived.Test.YtkblldbilofdgaaDoorCardKit
import Derived.Test.YtkblldbilofdgaaDoorList
import Derived.Test.YtkblldbilofdgaaDoorTyString
import Derived.Test.YtkblldbilofdgaaDoorShelf
import Derived.Lib.Join
namespace Go.Proofs.YtkblldbilofdgaaDoor
open Go.RowKit
set_option linter.unusedVariables false
set_option linter.unusedSimpArgs false
set_option maxRecDepth 100000

/-- The words with the sign between them. -/
def joinS (xs : List ByteArray) (sep : ByteArray) : ByteArray := ⟨(Lib.join (xs.map (·.data.toList)) sep.data.toList).toArray⟩
theorem joinS_one (x sep : ByteArray) : joinS [x] sep = x := by
  unfold joinS
  rw [List.map_cons, List.map_nil, Lib.join_one, Lib.mk_data]
theorem joinS_snoc (y : ByteArray) (ys : List ByteArray) (x sep : ByteArray) : joinS ((y :: ys) ++ [x]) sep = (joinS (y :: ys) sep ++ sep) ++ x := by
  unfold joinS
  apply ByteArray.ext
  simp [ByteArray.data_append, Lib.join_cons, Lib.joinTail]
theorem joined_any (xs : List ByteArray) (sep : ByteArray) (A : Option Addr) (c : Nat) (w : World) (h : RdL w w.heap.size A 1 encString xs) (h0 : 0 < xs.length) (hc : xs.length ≤ c) (hl : xs.length ≤ 1048576) (hs : (joinS xs sep).size ≤ 1048576) :
    Calls Tryd.prog 43 #[.slice A xs.length c, .string sep] w fun e w' => e = .returned (.string (joinS xs sep)) ∧ Below w.heap.size w w' := by
  obtain ⟨g, off, rfl, hg, _⟩ := h.at h0
  have hJ := Tryd.strings_Join g off c xs sep w (fun j x hj => by
    obtain ⟨hj1, hj2⟩ := List.getElem?_eq_some_iff.1 hj
    obtain ⟨g', off', hA, _, hcell⟩ := h.at hj1
    simp only [Option.some.injEq, Addr.mk.injEq, and_true] at hA
    obtain ⟨rfl, rfl⟩ := hA
    have := hcell 0 _ rfl
    rw [Nat.mul_one, Nat.add_zero, hj2] at this
    exact this) hg (by omega) hc (by have : (joinS xs sep).size = (Lib.join (xs.map (·.data.toList)) sep.data.toList).length := by simp [joinS, ByteArray.size]
                                     omega)
  have HJ := Lib.hid hJ
  clear hJ h
  go_enter Tryd.func43, Tryd.ntmps43
  go_wp2_with (go_at_call 51; refine HJ.out.mono ?_; rintro e w1 ⟨rfl, hb1⟩)
  go_ret
  exact ⟨rfl, hb1⟩
end Go.Proofs.YtkblldbilofdgaaDoor
