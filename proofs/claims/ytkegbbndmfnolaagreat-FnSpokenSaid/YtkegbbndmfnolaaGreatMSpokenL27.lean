import Derived.Test.YtkegbbndmfnolaaGreatMSpokenL25
import Derived.Laws.StructEq
/-
  Contracts: FirstWrong of both sides.
-/
namespace Go.Proofs.YtkegbbndmfnolaaGreat
open Go.RowKit
set_option linter.unusedVariables false
set_option linter.unusedSimpArgs false
set_option maxRecDepth 100000

section
attribute [-go_sem] run_eql_struct run_neq_struct
theorem neSpk_any (r' r : Int) (c' c : ByteArray) (w : World) : (binOp .neq 103 (.agg #[.int .i64 r', .string c']) (.agg #[.int .i64 r, .string c])).run Tryz.prog w = .ok (.bool (!(r' == r && c'.toList == c.toList))) w := by
  have hs : (Tryz.prog).stoodInHeld 103 = false := by kernel_rfl
  rw [run_neq_struct, show (10000 : Nat) = 9999 + 1 from rfl, run_equalIn_struct w 9999 103 _ _ (by simp [Program.fieldsOf, Tryz.underlying103]) hs]
  simp only [Program.fieldsOf, Tryz.underlying103]
  by_cases h1 : r' = r <;> by_cases h4 : c'.toList = c.toList <;>
    simp [go_sem, h1, h4]
theorem neSpk_t {x y : Spk} (h : ¬ x = y) (w : World) : (binOp .neq 103 (.agg #[.int .i64 x.row, .string x.word]) (.agg #[.int .i64 y.row, .string y.word])).run Tryz.prog w = .ok (.bool true) w := by
  rw [neSpk_any]
  have : (x.row == y.row && x.word.toList == y.word.toList) = false := by
    rw [Bool.eq_false_iff]; intro e; apply h
    obtain ⟨a, b⟩ := x
    obtain ⟨a', b'⟩ := y
    simp at e
    obtain ⟨rfl, e2⟩ := e
    rw [toList_inj.1 e2]
  rw [this]; rfl
theorem neSpk_f {x y : Spk} (h : x = y) (w : World) : (binOp .neq 103 (.agg #[.int .i64 x.row, .string x.word]) (.agg #[.int .i64 y.row, .string y.word])).run Tryz.prog w = .ok (.bool false) w := by
  rw [neSpk_any, h]; simp
end
open Classical in
/-- The first place at which two lists differ. -/
noncomputable def fstDiff (a l : List Spk) : Int × Bool := if h : ∃ k : Nat, (∀ j, j < k → a[j]? = l[j]?) ∧ a[k]? ≠ l[k]? then ((h.choose : Int), true) else (0, false)
open Classical in
/-- What FirstWrong answers. -/
noncomputable def fwR (m : Mth) (b s t : ByteArray) (first : Int) (l : List Spk) : Int × Bool := if (sayR m b s t first).2 = true ∧ spokenLP l then fstDiff (sayR m b s t first).1 l else (0, false)
theorem sayR_len {m : Mth} {b s t : ByteArray} {first : Int} : (sayR m b s t first).1.length ≤ 63 := by
  by_cases h : sayP m b s t first
  · rw [sayR_t h]; exact sayL_small h.2.2.1.2.2
  · rw [sayR_f h]; simp










section
attribute [-go_sem] run_eql_struct run_neq_struct
end
end Go.Proofs.YtkegbbndmfnolaaGreat
