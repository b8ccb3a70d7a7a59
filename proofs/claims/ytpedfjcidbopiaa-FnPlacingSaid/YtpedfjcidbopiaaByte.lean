/-
  A law's argument of bytes.
-/
import Derived.Test.YtpedfjcidbopiaaRows
import Derived.Test.YtpedfjcidbopiaaOpen
import Derived.Test.YtpedfjcidbopiaaCur
namespace Go.Proofs.Ytpedfjcidbopiaa
open Go.RowKit Go.ChangeShapes Go.WideShapes
set_option linter.unusedVariables false
set_option linter.unusedSimpArgs false
set_option maxRecDepth 100000
def Byte_small (lim : Int) (x : Int) : Prop := 0 ≤ x ∧ x < 256
theorem Byte_el {H : Type} {en : TypeId × Value → H} {w : World} {base : Nat} {spare : Nat → Bool} {held : Bool} (n : Nat) (cs : List Value) (y : DataW H × List MemPlace) (h : DataW.trod en Try.prog w base spare held n 5 cs = some y) : ∃ x : Int, cs = encByte x ∧ Byte_small 9223372036854775807 x := by
  obtain ⟨a, rfl, _, hw⟩ := DataW.trod_int Try.underlying5 h
  refine ⟨a, rfl, ?_⟩
  simp [Lit.wf, IntKind.min, IntKind.max, IntKind.signed, IntKind.bits] at hw
  unfold Byte_small; omega
end Go.Proofs.Ytpedfjcidbopiaa
