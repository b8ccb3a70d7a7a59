import Derived.Test.YtglnehinmdmgmaaGreatMErrorsL17
import Derived.Test.YtglnehinmdmgmaaGreatMErrorsL04
import Derived.Test.YtglnehinmdmgmaaGreatMErrorsL05
import Derived.Test.YtglnehinmdmgmaaGreatMErrorsL03
/-
  Contracts: the weighted sum of distances, both sides.
-/
namespace Go.Proofs.YtglnehinmdmgmaaGreat
open Go.RowKit
set_option linter.unusedVariables false
set_option linter.unusedSimpArgs false
set_option maxRecDepth 100000

theorem absV_bd {e B : Int} (h : inB e (-B) B) : 0 ≤ absV e ∧ absV e ≤ B := by unfold inB at h; unfold absV; split <;> omega
theorem mulV_bd {a b A B : Int} (h0 : 0 ≤ a) (h1 : a ≤ A) (h2 : 0 ≤ b) (h3 : b ≤ B) : 0 ≤ a * b ∧ a * b ≤ A * B :=
  ⟨Int.mul_nonneg h0 h2, Int.mul_le_mul h1 h3 h2 (by omega)⟩
theorem l22FarV_any (a b : Int) (w : World) (ha : inB a (-50000000) 50000000) (hb : inB b (-50000000) 50000000) : Calls Tryz.prog 26 #[.int .i64 a, .int .i64 b] w fun e' w' => e' = .returned (.int .i64 (absV (a - b))) ∧ w = w' := by
  unfold inB at ha hb
  obtain ⟨h1, h2⟩ := ha
  obtain ⟨h3, h4⟩ := hb
  have hm : ∀ (x y : Int) (w : World), Calls Tryz.prog 46 #[.int .i64 x, .int .i64 y] w fun e w' => e = .returned (.int .i64 (if x < y then y else x)) ∧ w = w' := fun x y w => by
    by_cases h : x < y
    · have h' : ¬ y < x := by omega
      go_enter Tryz.func46, Tryz.ntmps46
      go_wp2
      go_ret
      exact ⟨rfl, rfl⟩
    · by_cases h' : y < x
      · go_enter Tryz.func46, Tryz.ntmps46
        go_wp2
        go_ret
        exact ⟨rfl, rfl⟩
      · obtain rfl : x = y := by omega
        go_enter Tryz.func46, Tryz.ntmps46
        go_wp2
        go_ret
        exact ⟨rfl, rfl⟩
  have hab : Hid (absV (a - b) = if a - b < b - a then b - a else a - b) := Lib.hid (by unfold absV; by_cases h0 : a - b < 0 <;> by_cases h3 : a - b < b - a <;> simp [h0, h3] <;> omega)
  have Hm := Lib.hid hm
  clear hm
  go_enter Tryz.func26, Tryz.ntmps26
  go_wp2_with (go_at_call 46; refine (Hm.out _ _ _).mono ?_; rintro e' w' ⟨rfl, rfl⟩)
  all_goals
    go_ret
    exact ⟨ret_int (by rw [hab.out]; simp; try omega), rfl⟩
theorem absF_any (e : Int) (w : World) (h : inB e (-100000000) 100000000) : Calls Tryz.prog 21 #[.int .i64 e] w fun e' w' => e' = .returned (.int .i64 (absV e)) ∧ w = w' := by
  unfold inB at h
  obtain ⟨h1, h2⟩ := h
  by_cases h0 : e < 0
  · have e1 : absV e = -e := if_pos h0
    have E1 := Lib.hid e1
    clear e1
    have h3 : e < -e := by omega
    go_enter Tryz.func21, Tryz.ntmps21
    go_wp2
    go_ret
    exact ⟨ret_int (by rw [E1.out]; try omega), rfl⟩
  · have e1 : absV e = e := if_neg h0
    have E1 := Lib.hid e1
    clear e1
    have h3 : ¬ e < -e := by omega
    go_enter Tryz.func21, Tryz.ntmps21
    go_wp2
    go_ret
    exact ⟨ret_int (by rw [E1.out]; try omega), rfl⟩
theorem farOf_succ (vs ws : List Int) (x : Int) (k : Nat) : farOf vs ws x (k + 1) = farOf vs ws x k + ws.getD k 0 * absV (vs.getD k 0 - x) := sumF_range_succ _ _
theorem farOf_bd {vs ws : List Int} {x : Int} (hv : allIn vs (-50000000) 50000000) (hw : allIn ws 1 100) (hx : inB x (-50000000) 50000000) (hl : ws.length = vs.length) : ∀ k, k ≤ vs.length → 0 ≤ farOf vs ws x k ∧ farOf vs ws x k ≤ 10000000000 * k
  | 0, _ => by simp [farOf, sumF]
  | k + 1, hk => by
    have ih := farOf_bd hv hw hx hl k (by omega)
    have h1 := allIn_getD hv (k := k) (by omega)
    have h2 := allIn_getD hw (k := k) (by omega)
    unfold inB at hx
    have h3 := absV_bd (e := vs.getD k 0 - x) (B := 100000000) (by unfold inB; omega)
    have h4 := mulV_bd (a := ws.getD k 0) (b := absV (vs.getD k 0 - x)) (by omega) h2.2 h3.1 h3.2
    rw [farOf_succ]; omega
theorem allIn_more {l : List Int} {a b a' b' : Int} (h : allIn l a b) (h1 : a' ≤ a) (h2 : b ≤ b') : allIn l a' b' := fun x hx => by have := h x hx; unfold inB at *; omega



def farP (vs ws : List Int) (x : Int) : Prop := valP vs ws ∧ inB x (-10000000) 10000000
end Go.Proofs.YtglnehinmdmgmaaGreat
