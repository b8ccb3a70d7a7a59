/-
  Contracts of chapter 1, the reference's side: products and inverses of rows; two rows of one stage.
-/
import Derived.Test.YtdegbckoejddeaaL1b
namespace Go.Proofs.Ytdegbckoejddeaa
open Go.RowKit
set_option linter.unusedVariables false
set_option linter.unusedSimpArgs false
set_option maxRecDepth 100000

theorem take_snoc {l : List Int} {k : Nat} (h : k < l.length) : l.take (k + 1) = l.take k ++ [l[k]] := List.take_succ_eq_append_getElem h
theorem mkS_snoc (l : List Int) (s : ByteArray) (v : Int) (hs : s.size = 1) (hv : bat s 0 = v) : mkS l ++ s = mkS (l ++ [v]) := by
  refine str_ext (by rw [size_app, size_mkS, size_mkS, hs]; simp) fun i hi => ?_
  rw [size_app, size_mkS, hs] at hi
  have h1 := bat_lo s 0
  have h2 := bat_hi s 0
  by_cases h : i < l.length
  · rw [bat_append_l _ _ _ (by rw [size_mkS]; exact h)]
    unfold bat mkS
    simp [List.getElem?_append_left, h]
  · obtain rfl : i = l.length := by omega
    have := bat_append_r (mkS l) s 0
    rw [size_mkS] at this
    rw [show (l.length : Nat) = l.length + 0 from rfl, this]
    rw [bat_mkS _ _ (by simp) (by simp; omega) (by simp; omega)]
    simp; exact hv

/-- Two rows of one stage. -/
def two (a b : ByteArray) : Prop := isRow a ∧ isRow b ∧ a.size = b.size
theorem l1Row_t (s : ByteArray) (w : World) (h : isRow s) : Calls Try.prog 154 #[.string s] w fun e w' => e = .returned (.bool true) ∧ ∃ n, w' = w.drewN n := by
  have := l1Row_any s w; rw [B_t h] at this; exact this
theorem l1Row_f (s : ByteArray) (w : World) (h : ¬ isRow s) : Calls Try.prog 154 #[.string s] w fun e w' => e = .returned (.bool false) ∧ ∃ n, w' = w.drewN n := by
  have := l1Row_any s w; rw [B_f h] at this; exact this
end Go.Proofs.Ytdegbckoejddeaa