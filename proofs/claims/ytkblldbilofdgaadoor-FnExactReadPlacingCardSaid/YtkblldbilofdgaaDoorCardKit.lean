/-
  What a tied card wants beyond a plain row: the library's table of powers out of the row's condition.
-/
import Derived.Test.YtkblldbilofdgaaDoorItoa
import Derived.Test.YtkblldbilofdgaaDoorRow
import Derived.Test.YtkblldbilofdgaaDoorCards
import Derived.Test.YtkblldbilofdgaaDoorTie
import Derived.ProofKit
import Derived.LaidMore
import Derived.OpenShut
import Derived.Stop.Joined
import Derived.Stop.LaidErr
import Derived.MakeChecks
import Derived.SevenTiedAt
namespace Go.Proofs.YtkblldbilofdgaaDoor
open Go.RowKit
set_option linter.unusedVariables false
set_option linter.unusedSimpArgs false
set_option maxRecDepth 100000

theorem tab_data : (Rows.laid_internal_strconv_uint64pow10 : DataW Unit) = Lib.tabData .u64 Lib.pow10Tab := by kernel_rfl
theorem tab_of {x y : String × DataW Unit} {r : List (String × DataW Unit)} {W : World} (h : laidMet Tryd.prog (x :: y :: ("internal/strconv.uint64pow10", Rows.laid_internal_strconv_uint64pow10) :: r) W) : Tab W := by
  have h1 := h.tail.tail
  rw [tab_data] at h1
  exact Lib.tabIs_of_head (g := 3) (t := 99) (e := 90) (n := 20) (by kernel_rfl) (by kernel_rfl) (by rfl) (by rfl) (by kernel_rfl) (by kernel_rfl) h1
end Go.Proofs.YtkblldbilofdgaaDoor
