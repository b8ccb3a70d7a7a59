/-
  CheckPlacing of the program returns what the reference's returns, for all arguments: no condition.
-/
import Derived.Test.YtpedfjcidbopiaaCheck
namespace Go.Proofs.Ytpedfjcidbopiaa
open Go.RowKit
set_option linter.unusedVariables false
set_option linter.unusedSimpArgs false
set_option maxRecDepth 100000

def checkP (l : List Pk) (n : Int) (who prices : List Int) : Prop := placingP l n who ∧ prices.length = l.length ∧ allIn prices 0 1000




set_option maxHeartbeats 1600000 in
theorem sCheck_t (l : List Pk) (who prices : List Int) (A A' A3 : Option Addr) (c c' c3 : Nat) (n : Int) (w : World) (h : RdP w w.heap.size A l) (h' : RdL w w.heap.size A' 1 encInt who) (h3 : RdL w w.heap.size A3 1 encInt prices) (hl : l.length ≤ 1048576) (hc : l.length ≤ c) (hs : ∀ x ∈ l, Person_small 1048576 x) (hl' : who.length ≤ 1048576) (hc' : who.length ≤ c') (hl3 : prices.length ≤ 1048576) (hp : checkP l n who prices) :
    Calls Try.prog 13 #[.slice A l.length c, .int .i64 n, .slice A' who.length c', .slice A3 prices.length c3] w fun e w' => e = .returned (.tuple #[.bool (B (fairP l who prices)), .bool true]) ∧ Below w.heap.size w w' := by
  have H := Lib.hid h
  have H' := Lib.hid h'
  have H3 := Lib.hid h3
  have Hs := Lib.hid hs
  clear h h' h3 hs
  have HP := Lib.hid hp
  have e1 := B_t hp.1
  have e3 := B_t hp.2.2
  have e2 : ((prices.length : Int) == (l.length : Int)) = true := by rw [hp.2.1]; simp
  have e4 : (prices.length : Int) = l.length := by rw [hp.2.1]
  clear hp
  go_enter Try.func13, Try.ntmps13
  go_wp2_with (first | (go_at_call 57; refine (sPlacing_any l who _ _ c c' n _ H.out H'.out hl hc Hs.out hl' hc').mono ?_; rintro e w1 ⟨rfl, hb1⟩; have t1 := hb1.size) | (go_at_call 58; refine (l1All_any prices _ _ _ _ _ ((H3.out.below hb1 (Nat.le_refl _)).more hb1.size) (by omega)).mono ?_; rintro e w' ⟨rfl, rfl⟩) | (go_at_call 59; refine (l27Check_any l who prices _ _ _ c c' c3 n _ ((H.out.below hb1 (Nat.le_refl _)).more hb1.size) ((H'.out.below hb1 (Nat.le_refl _)).more hb1.size) ((H3.out.below hb1 (Nat.le_refl _)).more hb1.size) hl hl' HP.out.1.1 HP.out.1.2.1 HP.out.1.2.2 HP.out.2.1 HP.out.2.2).mono ?_; rintro e w2 ⟨rfl, hb2⟩))
  go_ret2
  exact ⟨rfl, hb1.trans (hb2.mono t1)⟩
set_option maxHeartbeats 1600000 in
theorem sCheck_f (l : List Pk) (who prices : List Int) (A A' A3 : Option Addr) (c c' c3 : Nat) (n : Int) (w : World) (h : RdP w w.heap.size A l) (h' : RdL w w.heap.size A' 1 encInt who) (h3 : RdL w w.heap.size A3 1 encInt prices) (hl : l.length ≤ 1048576) (hc : l.length ≤ c) (hs : ∀ x ∈ l, Person_small 1048576 x) (hl' : who.length ≤ 1048576) (hc' : who.length ≤ c') (hl3 : prices.length ≤ 1048576) (hp : ¬ checkP l n who prices) :
    Calls Try.prog 13 #[.slice A l.length c, .int .i64 n, .slice A' who.length c', .slice A3 prices.length c3] w fun e w' => e = .returned (.tuple #[.bool false, .bool false]) ∧ Below w.heap.size w w' := by
  have H := Lib.hid h
  have H' := Lib.hid h'
  have H3 := Lib.hid h3
  have Hs := Lib.hid hs
  clear h h' h3 hs
  by_cases p1 : placingP l n who
  · have e1 := B_t p1
    by_cases p2 : prices.length = l.length
    · have e3 : B (allIn prices 0 1000) = false := B_f (fun p3 => hp ⟨p1, p2, p3⟩)
      have e4 : (prices.length : Int) = l.length := by rw [p2]
      clear hp p1 p2
      go_enter Try.func13, Try.ntmps13
      go_wp2_with (first | (go_at_call 57; refine (sPlacing_any l who _ _ c c' n _ H.out H'.out hl hc Hs.out hl' hc').mono ?_; rintro e w1 ⟨rfl, hb1⟩; have t1 := hb1.size) | (go_at_call 58; refine (l1All_any prices _ _ _ _ _ ((H3.out.below hb1 (Nat.le_refl _)).more hb1.size) (by omega)).mono ?_; rintro e w' ⟨rfl, rfl⟩))
      go_ret2
      exact ⟨rfl, hb1⟩
    · have e4 : ¬ (prices.length : Int) = l.length := by omega
      clear hp p1
      go_enter Try.func13, Try.ntmps13
      go_wp2_with (first | (go_at_call 57; refine (sPlacing_any l who _ _ c c' n _ H.out H'.out hl hc Hs.out hl' hc').mono ?_; rintro e w1 ⟨rfl, hb1⟩; have t1 := hb1.size))
      go_ret2
      exact ⟨rfl, hb1⟩
  · have e1 := B_f p1
    clear hp p1
    go_enter Try.func13, Try.ntmps13
    go_wp2_with (first | (go_at_call 57; refine (sPlacing_any l who _ _ c c' n _ H.out H'.out hl hc Hs.out hl' hc').mono ?_; rintro e w1 ⟨rfl, hb1⟩; have t1 := hb1.size))
    go_ret2
    exact ⟨rfl, hb1⟩

set_option maxHeartbeats 1600000 in
theorem iCheck_t (l : List Pk) (who prices : List Int) (A A' A3 : Option Addr) (c c' c3 : Nat) (n : Int) (w : World) (h : RdP w w.heap.size A l) (h' : RdL w w.heap.size A' 1 encInt who) (h3 : RdL w w.heap.size A3 1 encInt prices) (hl : l.length ≤ 1048576) (hc : l.length ≤ c) (hs : ∀ x ∈ l, Person_small 1048576 x) (hl' : who.length ≤ 1048576) (hc' : who.length ≤ c') (hl3 : prices.length ≤ 1048576) (hp : checkP l n who prices) :
    Calls Try.prog 12 #[.slice A l.length c, .int .i64 n, .slice A' who.length c', .slice A3 prices.length c3] w fun e w' => e = .returned (.tuple #[.bool (B (fairP l who prices)), .bool true]) ∧ Below w.heap.size w w' := by
  have H := Lib.hid h
  have H' := Lib.hid h'
  have H3 := Lib.hid h3
  have Hs := Lib.hid hs
  clear h h' h3 hs
  have HP := Lib.hid hp
  have e1 := B_t hp.1
  have Hpl := Lib.hid hp.2.1
  rw [Hpl.out]
  clear hp
  go_enter Try.func12, Try.ntmps12
  go_wp2_with (first | (go_at_call 19; refine (iPlacing_any l who _ _ c c' n _ H.out H'.out hl hc Hs.out hl' hc').mono ?_; rintro e w1 ⟨rfl, hb1⟩; have t1 := hb1.size))
  go_loop [26] (fun i => ∃ k : Nat, k ≤ l.length ∧ i = .int .i64 k ∧ (∀ (j : Nat) (hj : j < prices.length), j < k → inB prices[j] 0 1000)) (fun i => l.length - (intOf i).toNat)
  case atStart => exact ⟨0, by omega, by rfl, fun j _ h => by omega⟩
  case round =>
    obtain ⟨k, hk, rfl, hq⟩ := hrel
    have Hq := Lib.hid hq
    clear hq
    by_cases hlt0 : k < l.length
    · have hlt : k < prices.length := by rw [Hpl.out]; exact hlt0
      obtain ⟨gp, offp, hAp, hgp, hcp⟩ := H3.out.at hlt
      subst hAp
      have r0 : w1.cell? ⟨gp, offp + k, none⟩ = some (.int .i64 prices[k]) := (hb1.cell (p := ⟨gp, offp + k, none⟩) hgp).trans (by have := hcp 0 _ rfl; rw [Nat.mul_one] at this; exact this)
      obtain ⟨x, hx⟩ : ∃ x, Hid (prices[k] = x) := ⟨_, Lib.hid rfl⟩
      rw [hx.out] at r0
      clear hcp
      by_cases hin : inB x 0 1000
      · have e5 := B_t hin
        have Hin := Lib.hid hin
        clear hin
        go_wp2_with (go_at_call 56; refine (within_any _ _ _ _).mono ?_; rintro e w' ⟨rfl, rfl⟩)
        go_round
        case rel =>
          refine ⟨k + 1, by omega, by go_num, fun j hj h1 => ?_⟩
          rcases Nat.lt_or_eq_of_le (Nat.le_of_lt_succ h1) with h' | rfl
          · exact Hq.out j hj h'
          · rw [hx.out]; exact Hin.out
        case measure => simp [intOf]; omega
      · have e5 := B_f hin
        have Hin := Lib.hid hin
        clear hin
        exact absurd (HP.out.2.2 _ (List.getElem_mem hlt)) (by rw [hx.out]; exact Hin.out)
    · obtain rfl : k = l.length := by omega
      have hFR : Hid (∀ W, Below w.heap.size w W → Calls Try.prog 51 #[.slice A l.length c, .slice A' who.length c', .slice A3 l.length c3] W fun e w' => e = .returned (.bool (B (fairP l who prices))) ∧ Below W.heap.size W w') := Lib.hid (fun W hb1 => by have := fair_any l who prices _ _ _ c c' c3 n W ((H.out.below hb1 (Nat.le_refl _)).more hb1.size) ((H'.out.below hb1 (Nat.le_refl _)).more hb1.size) ((H3.out.below hb1 (Nat.le_refl _)).more hb1.size) hl hl' HP.out.1.1 HP.out.1.2.1 HP.out.1.2.2 HP.out.2.1 HP.out.2.2; rw [Hpl.out] at this; exact this)
      go_wp2_with (go_at_call 51; refine (hFR.out _ hb1).mono ?_; rintro e w2 ⟨rfl, hb2⟩)
      go_ret2
      exact ⟨rfl, hb1.trans (hb2.mono t1)⟩
set_option maxHeartbeats 1600000 in
theorem iCheck_f (l : List Pk) (who prices : List Int) (A A' A3 : Option Addr) (c c' c3 : Nat) (n : Int) (w : World) (h : RdP w w.heap.size A l) (h' : RdL w w.heap.size A' 1 encInt who) (h3 : RdL w w.heap.size A3 1 encInt prices) (hl : l.length ≤ 1048576) (hc : l.length ≤ c) (hs : ∀ x ∈ l, Person_small 1048576 x) (hl' : who.length ≤ 1048576) (hc' : who.length ≤ c') (hl3 : prices.length ≤ 1048576) (hp : ¬ checkP l n who prices) :
    Calls Try.prog 12 #[.slice A l.length c, .int .i64 n, .slice A' who.length c', .slice A3 prices.length c3] w fun e w' => e = .returned (.tuple #[.bool false, .bool false]) ∧ Below w.heap.size w w' := by
  have H := Lib.hid h
  have H' := Lib.hid h'
  have H3 := Lib.hid h3
  have Hs := Lib.hid hs
  clear h h' h3 hs
  by_cases p1 : placingP l n who
  · have e1 := B_t p1
    by_cases p2 : prices.length = l.length
    · have h3 : Hid (¬ allIn prices 0 1000) := Lib.hid (fun p3 => hp ⟨p1, p2, p3⟩)
      have Hpl := Lib.hid p2
      rw [Hpl.out]
      clear hp p1 p2
      go_enter Try.func12, Try.ntmps12
      go_wp2_with (first | (go_at_call 19; refine (iPlacing_any l who _ _ c c' n _ H.out H'.out hl hc Hs.out hl' hc').mono ?_; rintro e w1 ⟨rfl, hb1⟩; have t1 := hb1.size))
      go_loop [26] (fun i => ∃ k : Nat, k ≤ l.length ∧ i = .int .i64 k ∧ (∀ (j : Nat) (hj : j < prices.length), j < k → inB prices[j] 0 1000)) (fun i => l.length - (intOf i).toNat)
      case atStart => exact ⟨0, by omega, by rfl, fun j _ h => by omega⟩
      case round =>
        obtain ⟨k, hk, rfl, hq⟩ := hrel
        have Hq := Lib.hid hq
        clear hq
        by_cases hlt0 : k < l.length
        · have hlt : k < prices.length := by rw [Hpl.out]; exact hlt0
          obtain ⟨gp, offp, hAp, hgp, hcp⟩ := H3.out.at hlt
          subst hAp
          have r0 : w1.cell? ⟨gp, offp + k, none⟩ = some (.int .i64 prices[k]) := (hb1.cell (p := ⟨gp, offp + k, none⟩) hgp).trans (by have := hcp 0 _ rfl; rw [Nat.mul_one] at this; exact this)
          obtain ⟨x, hx⟩ : ∃ x, Hid (prices[k] = x) := ⟨_, Lib.hid rfl⟩
          rw [hx.out] at r0
          clear hcp
          by_cases hin : inB x 0 1000
          · have e5 := B_t hin
            have Hin := Lib.hid hin
            clear hin
            go_wp2_with (go_at_call 56; refine (within_any _ _ _ _).mono ?_; rintro e w' ⟨rfl, rfl⟩)
            go_round
            case rel =>
              refine ⟨k + 1, by omega, by go_num, fun j hj h1 => ?_⟩
              rcases Nat.lt_or_eq_of_le (Nat.le_of_lt_succ h1) with h' | rfl
              · exact Hq.out j hj h'
              · rw [hx.out]; exact Hin.out
            case measure => simp [intOf]; omega
          · have e5 := B_f hin
            have Hin := Lib.hid hin
            clear hin
            go_wp2_with (go_at_call 56; refine (within_any _ _ _ _).mono ?_; rintro e w' ⟨rfl, rfl⟩)
            go_ret2
            exact ⟨rfl, hb1⟩
        · obtain rfl : k = l.length := by omega
          exact absurd (fun s hs => by obtain ⟨j, hj, rfl⟩ := List.getElem_of_mem hs; exact Hq.out j hj (by rw [← Hpl.out]; exact hj)) h3.out
    · have e4 : ¬ (prices.length : Int) = l.length := by omega
      clear hp p1
      go_enter Try.func12, Try.ntmps12
      go_wp2_with (first | (go_at_call 19; refine (iPlacing_any l who _ _ c c' n _ H.out H'.out hl hc Hs.out hl' hc').mono ?_; rintro e w1 ⟨rfl, hb1⟩; have t1 := hb1.size))
      go_ret2
      exact ⟨rfl, hb1⟩
  · have e1 := B_f p1
    clear hp p1
    go_enter Try.func12, Try.ntmps12
    go_wp2_with (first | (go_at_call 19; refine (iPlacing_any l who _ _ c c' n _ H.out H'.out hl hc Hs.out hl' hc').mono ?_; rintro e w1 ⟨rfl, hb1⟩; have t1 := hb1.size))
    go_ret2
    exact ⟨rfl, hb1⟩
end Go.Proofs.Ytpedfjcidbopiaa
