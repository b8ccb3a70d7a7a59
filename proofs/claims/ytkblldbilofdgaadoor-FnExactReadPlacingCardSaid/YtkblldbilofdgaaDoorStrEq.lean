/-
  Equality of two strings, as the walk asks it.
-/
import Derived.Test.YtkblldbilofdgaaDoorBase
namespace Go.Proofs.YtkblldbilofdgaaDoor
theorem toList_inj {s t : ByteArray} : s.toList = t.toList ↔ s = t := by
  constructor
  · intro h
    rw [ByteArray.toList_eq, ByteArray.toList_eq] at h
    exact ByteArray.ext (Array.ext' h)
  · intro h; rw [h]
theorem eqB_t {s t : ByteArray} (h : s = t) : (s.toList == t.toList) = true := by rw [h]; simp
theorem eqB_f {s t : ByteArray} (h : ¬ s = t) : (s.toList == t.toList) = false := by rw [beq_eq_false_iff_ne]; exact fun e => h (toList_inj.1 e)
end Go.Proofs.YtkblldbilofdgaaDoor
