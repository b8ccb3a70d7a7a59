import Derived.Test.YtkegbbndmfnolaaMBeatsL02
import Derived.Test.YtkegbbndmfnolaaMBeatsL06
/-
  The laws' test of the drawn bytes' length.
-/
namespace Go.Proofs.Ytkegbbndmfnolaa
open Go.RowKit
set_option linter.unusedVariables false
set_option linter.unusedSimpArgs false
set_option maxRecDepth 100000

theorem bigB_any (n m : Nat) (A A' : Option Addr) (c c' : Nat) (w : World) (hn : n ≤ 9223372036854775807) (hm : m ≤ 9223372036854775807) :
    Calls Try.prog 19 #[.slice A n c, .slice A' m c'] w fun e w' => e = .returned (.bool (B (1048576 < n + m))) ∧ w = w' := by
  by_cases h1 : 1048576 < n
  · have d1 : decide ((1048576 : Int) < (n : Int)) = true := by simp; omega
    go_enter Try.func19, Try.ntmps19
    go_wp2
    go_ret
    exact ⟨ret_t (by omega), rfl⟩
  · have d1 : decide ((1048576 : Int) < (n : Int)) = false := by simp; omega
    by_cases h2 : 1048576 < n + m
    · have d2 : decide ((1048576 : Int) - (n : Int) < (m : Int)) = true := by simp; omega
      go_enter Try.func19, Try.ntmps19
      go_wp2
      go_ret
      exact ⟨ret_t h2, rfl⟩
    · have d2 : decide ((1048576 : Int) - (n : Int) < (m : Int)) = false := by simp; omega
      go_enter Try.func19, Try.ntmps19
      go_wp2
      go_ret
      exact ⟨ret_f h2, rfl⟩
end Go.Proofs.Ytkegbbndmfnolaa
