import Derived.Test.YtbfhfnejppfehaaDoorRows
import Derived.Test.YtbfhfnejppfehaaDoorMGainL00
/-
  Contracts of chapter 1: rows.
-/
namespace Go.Proofs.YtbfhfnejppfehaaDoor
open Go.RowKit
set_option linter.unusedVariables false
set_option linter.unusedSimpArgs false
set_option maxRecDepth 100000

/-- A row: a permutation of the first bells. -/
def isRow (s : ByteArray) : Prop :=
  3 ≤ s.size ∧ s.size ≤ 8 ∧ (∀ i : Nat, i < s.size → 49 ≤ bat s i ∧ bat s i < 49 + s.size) ∧ (∀ i j : Nat, i < j → j < s.size → bat s i ≠ bat s j)

theorem isStage_any (n : Int) (w : World) :
    Calls Tryd.prog 92 #[.int .i64 n] w fun e w' => e = .returned (.bool (decide (3 ≤ n) && decide (n ≤ 8))) ∧ w = w' := by
  go_enter Tryd.func92, Tryd.ntmps92
  go_wp2
  all_goals (go_ret; exact ⟨by simp <;> omega, rfl⟩)
theorem isStage_t (n : Int) (w : World) (h1 : 3 ≤ n) (h2 : n ≤ 8) :
    Calls Tryd.prog 92 #[.int .i64 n] w fun e w' => e = .returned (.bool true) ∧ w = w' := by
  have := isStage_any n w; simpa [h1, h2] using this
theorem isStage_f (n : Int) (w : World) (h : n < 3 ∨ 8 < n) :
    Calls Tryd.prog 92 #[.int .i64 n] w fun e w' => e = .returned (.bool false) ∧ w = w' := by
  have := isStage_any n w
  have e : (decide (3 ≤ n) && decide (n ≤ 8)) = false := by simp <;> omega
  rw [e] at this; exact this

/-- The marks of the bells met so far. -/
def Marks (s : ByteArray) (k j : Nat) : Prop := j < 256 ∧ ∀ b : Nat, b < 8 → (j.testBit b = true ↔ ∃ i : Nat, i < k ∧ bat s i = 49 + b)
theorem Marks.zero (s : ByteArray) : Marks s 0 0 := ⟨by omega, fun b _ => by simp⟩
theorem Marks.step {s : ByteArray} {k j : Nat} (h : Marks s k j) (b : Nat) (hb : b < 8) (e : bat s k = 49 + b) : Marks s (k + 1) (j ||| 2 ^ b) := by
  refine ⟨?_, fun c hc => ?_⟩
  · have : 2 ^ b < 2 ^ 8 := Nat.pow_lt_pow_right (by omega) hb
    exact Nat.or_lt_two_pow (n := 8) h.1 this
  · rw [Nat.testBit_or, Nat.testBit_two_pow, Bool.or_eq_true, h.2 c hc, decide_eq_true_eq]
    constructor
    · rintro (⟨i, hi, hx⟩ | rfl)
      · exact ⟨i, by omega, hx⟩
      · exact ⟨k, by omega, e⟩
    · rintro ⟨i, hi, hx⟩
      rcases Nat.lt_or_eq_of_le (Nat.le_of_lt_succ hi) with h' | rfl
      · exact .inl ⟨i, h', hx⟩
      · right; omega
theorem bit_test (j b : Nat) (hj : j < 256) : (bits BinOp.and IntKind.i64 ((j : Int) / 2 ^ b) 1 == 1) = j.testBit b := by
  have e1 : ((j : Int) / 2 ^ b) = ((j / 2 ^ b : Nat) : Int) := by simp
  have e2 : (1 : Int) = ((1 : Nat) : Int) := rfl
  rw [e1, e2, and_i64 _ _ (by have := Nat.div_le_self j (2 ^ b); omega) (by omega), Nat.and_one_is_mod]
  rw [Nat.testBit_eq_decide_div_mod_eq]
  generalize j / 2 ^ b = m
  rw [Bool.eq_iff_iff]; simp <;> omega
theorem bit_or (j b : Nat) (hj : j < 256) (hb : b < 8) : bits BinOp.or IntKind.i64 (j : Int) (wrap64 (2 ^ b)) = ((j ||| 2 ^ b : Nat) : Int) := by
  have h8 : (2 : Nat) ^ b < 2 ^ 8 := Nat.pow_lt_pow_right (by omega) hb
  have e1 : ((2 : Int) ^ b) = ((2 ^ b : Nat) : Int) := by simp
  rw [e1]
  generalize 2 ^ b = m at *
  rw [IntWalk.wrap64_in _ (by omega), or_i64 _ _ (by omega) (by omega)]

def isRowOf (n : Int) (s : ByteArray) : Prop := (s.size : Int) = n ∧ isRow s
def inB (n lo hi : Int) : Prop := lo ≤ n ∧ n ≤ hi
theorem l1In_any (n lo hi : Int) (w : World) :
    Calls Tryd.prog 48 #[.int .i64 n, .int .i64 lo, .int .i64 hi] w fun e w' => e = .returned (.bool (B (inB n lo hi))) ∧ w = w' := by
  by_cases h1 : lo ≤ n <;> by_cases h2 : n ≤ hi
  all_goals
    go_enter Tryd.func48, Tryd.ntmps48
    go_wp2
    go_ret
    first | exact ⟨ret_t ⟨h1, h2⟩, rfl⟩ | exact ⟨ret_f (fun x => by have := x.1; have := x.2; omega), rfl⟩
theorem l1In_t (n lo hi : Int) (w : World) (h : (inB n lo hi)) : Calls Tryd.prog 48 #[.int .i64 n, .int .i64 lo, .int .i64 hi] w fun e w' => e = .returned (.bool true) ∧ w = w' := by
  have := l1In_any n lo hi w; rw [B_t h] at this; exact this
theorem l1In_f (n lo hi : Int) (w : World) (h : ¬ (inB n lo hi)) : Calls Tryd.prog 48 #[.int .i64 n, .int .i64 lo, .int .i64 hi] w fun e w' => e = .returned (.bool false) ∧ w = w' := by
  have := l1In_any n lo hi w; rw [B_f h] at this; exact this


theorem l1At_any (s : ByteArray) (p : Int) (w : World) (h1 : 1 ≤ p) (h2 : p ≤ s.size) (hp : p ≤ 1000000) (h3 : 48 ≤ bat s (p - 1)) :
    Calls Tryd.prog 126 #[.string s, .int .i64 p] w fun e w' => e = .returned (.int .i64 (bat s (p - 1) - 48)) ∧ w = w' := by
  have hb1 := bat_hi s (p - 1)
  go_enter Tryd.func126, Tryd.ntmps126
  go_wp2
  go_ret
  exact ⟨rfl, rfl⟩

end Go.Proofs.YtbfhfnejppfehaaDoor
