/-
  CheckPlacing of the program returns what the reference's returns, for all arguments: no condition.
-/
import Derived.Test.YtdegbckoejddeaaCheck
namespace Go.Proofs.Ytdegbckoejddeaa
open Go.RowKit
set_option linter.unusedVariables false
set_option linter.unusedSimpArgs false
set_option maxRecDepth 100000

def checkP (l : List Pk) (n : Int) (who prices : List Int) : Prop := placingP l n who ∧ prices.length = l.length ∧ allIn prices 0 1000




set_option maxHeartbeats 1600000 in
theorem sCheck_t (l : List Pk) (who prices : List Int) (A A' A3 : Option Addr) (c c' c3 : Nat) (n : Int) (w : World) (h : RdP w w.heap.size A l) (h' : RdL w w.heap.size A' 1 encInt who) (h3 : RdL w w.heap.size A3 1 encInt prices) (hl : l.length ≤ 1048576) (hc : l.length ≤ c) (hs : ∀ x ∈ l, Person_small 1048576 x) (hl' : who.length ≤ 1048576) (hc' : who.length ≤ c') (hl3 : prices.length ≤ 1048576) (hp : checkP l n who prices) :
    Calls Try.prog 27 #[.slice A l.length c, .int .i64 n, .slice A' who.length c', .slice A3 prices.length c3] w fun e w' => e = .returned (.tuple #[.bool (B (fairP l who prices)), .bool true]) ∧ Below w.heap.size w w' := by
  have H := Lib.hid h
  have H' := Lib.hid h'
  have H3 := Lib.hid h3
  have Hs := Lib.hid hs
  clear h h' h3 hs
  have HP := Lib.hid hp
  have e1 := B_t hp.1
  have e3 := B_t hp.2.2
  have e2 : ((prices.length : Int) == (l.length : Int)) = true := by rw [hp.2.1]; simp
  have e4 : (prices.length : Int) = l.length := by rw [hp.2.1]
  clear hp
  go_enter Try.func27, Try.ntmps27
  go_wp2_with (first | (go_at_call 74; refine (sPlacing_any l who _ _ c c' n _ H.out H'.out hl hc Hs.out hl' hc').mono ?_; rintro e w1 ⟨rfl, hb1⟩; have t1 := hb1.size) | (go_at_call 88; refine (l1All_any prices _ _ _ _ _ ((H3.out.below hb1 (Nat.le_refl _)).more hb1.size) (by omega)).mono ?_; rintro e w' ⟨rfl, rfl⟩) | (go_at_call 89; refine (l27Check_any l who prices _ _ _ c c' c3 n _ ((H.out.below hb1 (Nat.le_refl _)).more hb1.size) ((H'.out.below hb1 (Nat.le_refl _)).more hb1.size) ((H3.out.below hb1 (Nat.le_refl _)).more hb1.size) hl hl' HP.out.1.1 HP.out.1.2.1 HP.out.1.2.2 HP.out.2.1 HP.out.2.2).mono ?_; rintro e w2 ⟨rfl, hb2⟩))
  go_ret2
  exact ⟨rfl, hb1.trans (hb2.mono t1)⟩
set_option maxHeartbeats 1600000 in
theorem sCheck_f (l : List Pk) (who prices : List Int) (A A' A3 : Option Addr) (c c' c3 : Nat) (n : Int) (w : World) (h : RdP w w.heap.size A l) (h' : RdL w w.heap.size A' 1 encInt who) (h3 : RdL w w.heap.size A3 1 encInt prices) (hl : l.length ≤ 1048576) (hc : l.length ≤ c) (hs : ∀ x ∈ l, Person_small 1048576 x) (hl' : who.length ≤ 1048576) (hc' : who.length ≤ c') (hl3 : prices.length ≤ 1048576) (hp : ¬ checkP l n who prices) :
    Calls Try.prog 27 #[.slice A l.length c, .int .i64 n, .slice A' who.length c', .slice A3 prices.length c3] w fun e w' => e = .returned (.tuple #[.bool false, .bool false]) ∧ Below w.heap.size w w' := by
  have H := Lib.hid h
  have H' := Lib.hid h'
  have H3 := Lib.hid h3
  have Hs := Lib.hid hs
  clear h h' h3 hs
  by_cases p1 : placingP l n who
  · have e1 := B_t p1
    by_cases p2 : prices.length = l.length
    · have e3 : B (allIn prices 0 1000) = false := B_f (fun p3 => hp ⟨p1, p2, p3⟩)
      have e4 : (prices.length : Int) = l.length := by rw [p2]
      clear hp p1 p2
      go_enter Try.func27, Try.ntmps27
      go_wp2_with (first | (go_at_call 74; refine (sPlacing_any l who _ _ c c' n _ H.out H'.out hl hc Hs.out hl' hc').mono ?_; rintro e w1 ⟨rfl, hb1⟩; have t1 := hb1.size) | (go_at_call 88; refine (l1All_any prices _ _ _ _ _ ((H3.out.below hb1 (Nat.le_refl _)).more hb1.size) (by omega)).mono ?_; rintro e w' ⟨rfl, rfl⟩))
      go_ret2
      exact ⟨rfl, hb1⟩
    · have e4 : ¬ (prices.length : Int) = l.length := by omega
      clear hp p1
      go_enter Try.func27, Try.ntmps27
      go_wp2_with (first | (go_at_call 74; refine (sPlacing_any l who _ _ c c' n _ H.out H'.out hl hc Hs.out hl' hc').mono ?_; rintro e w1 ⟨rfl, hb1⟩; have t1 := hb1.size))
      go_ret2
      exact ⟨rfl, hb1⟩
  · have e1 := B_f p1
    clear hp p1
    go_enter Try.func27, Try.ntmps27
    go_wp2_with (first | (go_at_call 74; refine (sPlacing_any l who _ _ c c' n _ H.out H'.out hl hc Hs.out hl' hc').mono ?_; rintro e w1 ⟨rfl, hb1⟩; have t1 := hb1.size))
    go_ret2
    exact ⟨rfl, hb1⟩

set_option maxHeartbeats 1600000 in
theorem iCheck_t (l : List Pk) (who prices : List Int) (A A' A3 : Option Addr) (c c' c3 : Nat) (n : Int) (w : World) (h : RdP w w.heap.size A l) (h' : RdL w w.heap.size A' 1 encInt who) (h3 : RdL w w.heap.size A3 1 encInt prices) (hl : l.length ≤ 1048576) (hc : l.length ≤ c) (hs : ∀ x ∈ l, Person_small 1048576 x) (hl' : who.length ≤ 1048576) (hc' : who.length ≤ c') (hl3 : prices.length ≤ 1048576) (hp : checkP l n who prices) :
    Calls Try.prog 28 #[.slice A l.length c, .int .i64 n, .slice A' who.length c', .slice A3 prices.length c3] w fun e w' => e = .returned (.tuple #[.bool (B (fairP l who prices)), .bool true]) ∧ Below w.heap.size w w' := by
  have H := Lib.hid h
  have H' := Lib.hid h'
  have H3 := Lib.hid h3
  have Hs := Lib.hid hs
  clear h h' h3 hs
  have HP := Lib.hid hp
  have e1 := B_t hp.1
  have Hpl := Lib.hid hp.2.1
  rw [Hpl.out]
  clear hp
  go_enter Try.func28, Try.ntmps28
  go_wp2_with (first | (go_at_call 77; refine (iPlacing_any l who _ _ c c' n _ H.out H'.out hl hc Hs.out hl' hc').mono ?_; rintro e w1 ⟨rfl, hb1⟩; have t1 := hb1.size))
  go_loop [26] (fun i => ∃ k : Nat, k ≤ l.length ∧ i = .int .i64 k ∧ (∀ (j : Nat) (hj : j < prices.length), j < k → inB prices[j] 0 1000)) (fun i => l.length - (intOf i).toNat)
  case atStart => exact ⟨0, by omega, by rfl, fun j _ h => by omega⟩
  case round =>
    obtain ⟨k, hk, rfl, hq⟩ := hrel
    have Hq := Lib.hid hq
    clear hq
    by_cases hlt0 : k < l.length
    · have hlt : k < prices.length := by rw [Hpl.out]; exact hlt0
      obtain ⟨gp, offp, hAp, hgp, hcp⟩ := H3.out.at hlt
      subst hAp
      have r0 : w1.cell? ⟨gp, offp + k, none⟩ = some (.int .i64 prices[k]) := (hb1.cell (p := ⟨gp, offp + k, none⟩) hgp).trans (by have := hcp 0 _ rfl; rw [Nat.mul_one] at this; exact this)
      obtain ⟨x, hx⟩ : ∃ x, Hid (prices[k] = x) := ⟨_, Lib.hid rfl⟩
      rw [hx.out] at r0
      clear hcp
      by_cases hin : inB x 0 1000
      · have e5 := B_t hin
        have Hin := Lib.hid hin
        clear hin
        go_wp2_with (go_at_call 90; refine (within_any _ _ _ _).mono ?_; rintro e w' ⟨rfl, rfl⟩)
        go_round
        case rel =>
          refine ⟨k + 1, by omega, by go_num, fun j hj h1 => ?_⟩
          rcases Nat.lt_or_eq_of_le (Nat.le_of_lt_succ h1) with h' | rfl
          · exact Hq.out j hj h'
          · rw [hx.out]; exact Hin.out
        case measure => simp [intOf]; omega
      · have e5 := B_f hin
        have Hin := Lib.hid hin
        clear hin
        exact absurd (HP.out.2.2 _ (List.getElem_mem hlt)) (by rw [hx.out]; exact Hin.out)
    · obtain rfl : k = l.length := by omega
      have hFR : Hid (∀ W, Below w.heap.size w W → Calls Try.prog 91 #[.slice A l.length c, .slice A' who.length c', .slice A3 l.length c3] W fun e w' => e = .returned (.bool (B (fairP l who prices))) ∧ Below W.heap.size W w') := Lib.hid (fun W hb1 => by have := fair_any l who prices _ _ _ c c' c3 n W ((H.out.below hb1 (Nat.le_refl _)).more hb1.size) ((H'.out.below hb1 (Nat.le_refl _)).more hb1.size) ((H3.out.below hb1 (Nat.le_refl _)).more hb1.size) hl hl' HP.out.1.1 HP.out.1.2.1 HP.out.1.2.2 HP.out.2.1 HP.out.2.2; rw [Hpl.out] at this; exact this)
      go_wp2_with (go_at_call 91; refine (hFR.out _ hb1).mono ?_; rintro e w2 ⟨rfl, hb2⟩)
      go_ret2
      exact ⟨rfl, hb1.trans (hb2.mono t1)⟩
set_option maxHeartbeats 1600000 in
theorem iCheck_f (l : List Pk) (who prices : List Int) (A A' A3 : Option Addr) (c c' c3 : Nat) (n : Int) (w : World) (h : RdP w w.heap.size A l) (h' : RdL w w.heap.size A' 1 encInt who) (h3 : RdL w w.heap.size A3 1 encInt prices) (hl : l.length ≤ 1048576) (hc : l.length ≤ c) (hs : ∀ x ∈ l, Person_small 1048576 x) (hl' : who.length ≤ 1048576) (hc' : who.length ≤ c') (hl3 : prices.length ≤ 1048576) (hp : ¬ checkP l n who prices) :
    Calls Try.prog 28 #[.slice A l.length c, .int .i64 n, .slice A' who.length c', .slice A3 prices.length c3] w fun e w' => e = .returned (.tuple #[.bool false, .bool false]) ∧ Below w.heap.size w w' := by
  have H := Lib.hid h
  have H' := Lib.hid h'
  have H3 := Lib.hid h3
  have Hs := Lib.hid hs
  clear h h' h3 hs
  by_cases p1 : placingP l n who
  · have e1 := B_t p1
    by_cases p2 : prices.length = l.length
    · have h3 : Hid (¬ allIn prices 0 1000) := Lib.hid (fun p3 => hp ⟨p1, p2, p3⟩)
      have Hpl := Lib.hid p2
      rw [Hpl.out]
      clear hp p1 p2
      go_enter Try.func28, Try.ntmps28
      go_wp2_with (first | (go_at_call 77; refine (iPlacing_any l who _ _ c c' n _ H.out H'.out hl hc Hs.out hl' hc').mono ?_; rintro e w1 ⟨rfl, hb1⟩; have t1 := hb1.size))
      go_loop [26] (fun i => ∃ k : Nat, k ≤ l.length ∧ i = .int .i64 k ∧ (∀ (j : Nat) (hj : j < prices.length), j < k → inB prices[j] 0 1000)) (fun i => l.length - (intOf i).toNat)
      case atStart => exact ⟨0, by omega, by rfl, fun j _ h => by omega⟩
      case round =>
        obtain ⟨k, hk, rfl, hq⟩ := hrel
        have Hq := Lib.hid hq
        clear hq
        by_cases hlt0 : k < l.length
        · have hlt : k < prices.length := by rw [Hpl.out]; exact hlt0
          obtain ⟨gp, offp, hAp, hgp, hcp⟩ := H3.out.at hlt
          subst hAp
          have r0 : w1.cell? ⟨gp, offp + k, none⟩ = some (.int .i64 prices[k]) := (hb1.cell (p := ⟨gp, offp + k, none⟩) hgp).trans (by have := hcp 0 _ rfl; rw [Nat.mul_one] at this; exact this)
          obtain ⟨x, hx⟩ : ∃ x, Hid (prices[k] = x) := ⟨_, Lib.hid rfl⟩
          rw [hx.out] at r0
          clear hcp
          by_cases hin : inB x 0 1000
          · have e5 := B_t hin
            have Hin := Lib.hid hin
            clear hin
            go_wp2_with (go_at_call 90; refine (within_any _ _ _ _).mono ?_; rintro e w' ⟨rfl, rfl⟩)
            go_round
            case rel =>
              refine ⟨k + 1, by omega, by go_num, fun j hj h1 => ?_⟩
              rcases Nat.lt_or_eq_of_le (Nat.le_of_lt_succ h1) with h' | rfl
              · exact Hq.out j hj h'
              · rw [hx.out]; exact Hin.out
            case measure => simp [intOf]; omega
          · have e5 := B_f hin
            have Hin := Lib.hid hin
            clear hin
            go_wp2_with (go_at_call 90; refine (within_any _ _ _ _).mono ?_; rintro e w' ⟨rfl, rfl⟩)
            go_ret2
            exact ⟨rfl, hb1⟩
        · obtain rfl : k = l.length := by omega
          exact absurd (fun s hs => by obtain ⟨j, hj, rfl⟩ := List.getElem_of_mem hs; exact Hq.out j hj (by rw [← Hpl.out]; exact hj)) h3.out
    · have e4 : ¬ (prices.length : Int) = l.length := by omega
      clear hp p1
      go_enter Try.func28, Try.ntmps28
      go_wp2_with (first | (go_at_call 77; refine (iPlacing_any l who _ _ c c' n _ H.out H'.out hl hc Hs.out hl' hc').mono ?_; rintro e w1 ⟨rfl, hb1⟩; have t1 := hb1.size))
      go_ret2
      exact ⟨rfl, hb1⟩
  · have e1 := B_f p1
    clear hp p1
    go_enter Try.func28, Try.ntmps28
    go_wp2_with (first | (go_at_call 77; refine (iPlacing_any l who _ _ c c' n _ H.out H'.out hl hc Hs.out hl' hc').mono ?_; rintro e w1 ⟨rfl, hb1⟩; have t1 := hb1.size))
    go_ret2
    exact ⟨rfl, hb1⟩
set_option maxHeartbeats 4000000 in
theorem checkLaw (w : World) (l : List Pk) (Al : Option Addr) (cl : Nat) (hrl : RdP w w.heap.size Al l) (hll : l.length ≤ 9223372036854775807) (hsl : ∀ x ∈ l, Person_small 9223372036854775807 x) (n : Int) (hszn : -9223372036854775808 ≤ n ∧ n ≤ 9223372036854775807) (who : List Int) (Awho : Option Addr) (cwho : Nat) (hrwho : RdL w w.heap.size Awho 1 encInt who) (hlwho : who.length ≤ 9223372036854775807) (hswho : ∀ x ∈ who, Int_small 9223372036854775807 x) (prices : List Int) (Aprices : Option Addr) (cprices : Nat) (hrprices : RdL w w.heap.size Aprices 1 encInt prices) (hlprices : prices.length ≤ 9223372036854775807) (hsprices : ∀ x ∈ prices, Int_small 9223372036854775807 x) :
    Calls Try.prog 5 #[.slice Al l.length cl, .int .i64 n, .slice Awho who.length cwho, .slice Aprices prices.length cprices] w fun e w' => e = .returned (.bool true) ∧ Below w.heap.size w w' := by
  have Hrl := Lib.hid hrl
  have Hsl := Lib.hid hsl
  clear hrl hsl
  have Hrwho := Lib.hid hrwho
  have Hswho := Lib.hid hswho
  clear hrwho hswho
  have Hrprices := Lib.hid hrprices
  have Hsprices := Lib.hid hsprices
  clear hrprices hsprices
  by_cases gwho : 1048576 < who.length
  · go_enter Try.func5, Try.ntmps5
    go_wp2
    go_ret
    exact ⟨rfl, Below.refl _ _⟩
  have hlwho' : who.length ≤ 1048576 := by omega
  by_cases gprices : 1048576 < prices.length
  · go_enter Try.func5, Try.ntmps5
    go_wp2
    go_ret
    exact ⟨rfl, Below.refl _ _⟩
  have hlprices' : prices.length ≤ 1048576 := by omega
  have Bw0 := Lib.hid (Below.refl w.heap.size w)
  go_enter Try.func5, Try.ntmps5
  go_wp2_with fail
  refine (szPersonS_any l Al cl (1048576 : Int) _ ((Hrl.out.below Bw0.out (Nat.le_refl _)).more Bw0.out.size) (by omega) (by omega) (by omega) Hsl.out).mono ?_
  rintro e w1 ⟨r1, rfl, hz, hb⟩
  have C1 := Lib.hid hb
  clear hb
  have t1 := C1.out.size
  have Bw1 := Lib.hid (Bw0.out.trans (C1.out.mono Bw0.out.size))
  have Z1 := Lib.hid hz
  clear hz
  by_cases n1 : r1 < 0
  · go_wp2_with fail
    go_ret
    exact ⟨rfl, Bw1.out⟩
  have z1 := Z1.out.resolve_left n1
  have y1 : 0 ≤ r1 ∧ r1 ≤ 1048576 ∧ l.length ≤ 1048576 := ⟨z1.1, by have := z1.2.1; omega, by have := z1.2.2.1; omega⟩
  obtain ⟨y1a, y1b, hll'⟩ := y1
  have Hml : Hid (∀ x ∈ l, Person_small 1048576 x) := Lib.hid (fun x hx => by have := z1.2.2.2 x hx; simp only [Person_small] at this ⊢; omega)
  clear z1
  by_cases h : checkP l n who prices
  by_cases hf : fairP l who prices
  · have H := Lib.hid h
    have e1 := B_t hf
    clear h hf
    go_wp2_with fail
    refine (toPersonS_any l Al cl _ ((Hrl.out.below Bw1.out (Nat.le_refl _)).more Bw1.out.size) (by omega) Hml.out).mono ?_
    rintro e w2 ⟨A2, rfl, ho, hb⟩
    have C2 := Lib.hid hb
    clear hb
    have t2 := C2.out.size
    have Bw2 := Lib.hid (Bw1.out.trans (C2.out.mono Bw1.out.size))
    have O_t1_2 := Lib.hid ho
    clear ho
    go_wp2_with fail
    refine (toIntS_any who Awho cwho _ ((Hrwho.out.below Bw2.out (Nat.le_refl _)).more Bw2.out.size) (by omega)).mono ?_
    rintro e w3 ⟨A3, rfl, ho, hb⟩
    have C3 := Lib.hid hb
    clear hb
    have t3 := C3.out.size
    have Bw3 := Lib.hid (Bw2.out.trans (C3.out.mono Bw2.out.size))
    have O_t2_3 := Lib.hid ho
    clear ho
    have O_t1_3 := Lib.hid (O_t1_2.out.later C3.out)
    clear O_t1_2
    go_wp2_with fail
    refine (toIntS_any prices Aprices cprices _ ((Hrprices.out.below Bw3.out (Nat.le_refl _)).more Bw3.out.size) (by omega)).mono ?_
    rintro e w4 ⟨A4, rfl, ho, hb⟩
    have C4 := Lib.hid hb
    clear hb
    have t4 := C4.out.size
    have Bw4 := Lib.hid (Bw3.out.trans (C4.out.mono Bw3.out.size))
    have O_t3_4 := Lib.hid ho
    clear ho
    have O_t1_4 := Lib.hid (O_t1_3.out.later C4.out)
    clear O_t1_3
    have O_t2_4 := Lib.hid (O_t2_3.out.later C4.out)
    clear O_t2_3
    go_wp2_with fail
    refine (sCheck_t l who prices A2 A3 A4 l.length who.length prices.length n _ (O_t1_4.out.rd trivial) (O_t2_4.out.rd encInt_len) (O_t3_4.out.rd encInt_len) (by omega) (Nat.le_refl _) Hml.out (by omega) (Nat.le_refl _) (by omega) H.out).mono ?_
    rintro e w5 ⟨rfl, hb⟩
    have C5 := Lib.hid hb
    clear hb
    have t5 := C5.out.size
    have Bw5 := Lib.hid (Bw4.out.trans (C5.out.mono Bw4.out.size))
    go_wp2_with fail
    refine (toPersonS_any l Al cl _ ((Hrl.out.below Bw5.out (Nat.le_refl _)).more Bw5.out.size) (by omega) Hml.out).mono ?_
    rintro e w6 ⟨A6, rfl, ho, hb⟩
    have C6 := Lib.hid hb
    clear hb
    have t6 := C6.out.size
    have Bw6 := Lib.hid (Bw5.out.trans (C6.out.mono Bw5.out.size))
    have O_x0_6 := Lib.hid ho
    clear ho
    go_wp2_with fail
    refine (toIntS_any who Awho cwho _ ((Hrwho.out.below Bw6.out (Nat.le_refl _)).more Bw6.out.size) (by omega)).mono ?_
    rintro e w7 ⟨A7, rfl, ho, hb⟩
    have C7 := Lib.hid hb
    clear hb
    have t7 := C7.out.size
    have Bw7 := Lib.hid (Bw6.out.trans (C7.out.mono Bw6.out.size))
    have O_x2_7 := Lib.hid ho
    clear ho
    have O_x0_7 := Lib.hid (O_x0_6.out.later C7.out)
    clear O_x0_6
    go_wp2_with fail
    refine (toIntS_any prices Aprices cprices _ ((Hrprices.out.below Bw7.out (Nat.le_refl _)).more Bw7.out.size) (by omega)).mono ?_
    rintro e w8 ⟨A8, rfl, ho, hb⟩
    have C8 := Lib.hid hb
    clear hb
    have t8 := C8.out.size
    have Bw8 := Lib.hid (Bw7.out.trans (C8.out.mono Bw7.out.size))
    have O_x3_8 := Lib.hid ho
    clear ho
    have O_x0_8 := Lib.hid (O_x0_7.out.later C8.out)
    clear O_x0_7
    have O_x2_8 := Lib.hid (O_x2_7.out.later C8.out)
    clear O_x2_7
    go_wp2_with fail
    refine (iCheck_t l who prices A6 A7 A8 l.length who.length prices.length n _ (O_x0_8.out.rd trivial) (O_x2_8.out.rd encInt_len) (O_x3_8.out.rd encInt_len) (by omega) (Nat.le_refl _) Hml.out (by omega) (Nat.le_refl _) (by omega) H.out).mono ?_
    rintro e w9 ⟨rfl, hb⟩
    have C9 := Lib.hid hb
    clear hb
    have t9 := C9.out.size
    have Bw9 := Lib.hid (Bw8.out.trans (C9.out.mono Bw8.out.size))
    have O_x0_9 := Lib.hid (O_x0_8.out.later C9.out)
    clear O_x0_8
    have O_x2_9 := Lib.hid (O_x2_8.out.later C9.out)
    clear O_x2_8
    have O_x3_9 := Lib.hid (O_x3_8.out.later C9.out)
    clear O_x3_8
    go_wp2_with fail
    refine (toPersonS_any l Al cl _ ((Hrl.out.below Bw9.out (Nat.le_refl _)).more Bw9.out.size) (by omega) Hml.out).mono ?_
    rintro e w10 ⟨A10, rfl, ho, hb⟩
    have C10 := Lib.hid hb
    clear hb
    have t10 := C10.out.size
    have Bw10 := Lib.hid (Bw9.out.trans (C10.out.mono Bw9.out.size))
    have O_t9_10 := Lib.hid ho
    clear ho
    have O_x0_10 := Lib.hid (O_x0_9.out.later C10.out)
    clear O_x0_9
    have O_x2_10 := Lib.hid (O_x2_9.out.later C10.out)
    clear O_x2_9
    have O_x3_10 := Lib.hid (O_x3_9.out.later C10.out)
    clear O_x3_9
    go_wp2_with fail
    refine (eqPersonS_t l A6 A10 l.length l.length _ (O_x0_10.out.rd trivial) (O_t9_10.out.rd trivial) (by omega) Hml.out).mono ?_
    rintro e w11 ⟨rfl, hb⟩
    have C11 := Lib.hid hb
    clear hb
    have t11 := C11.out.size
    have Bw11 := Lib.hid (Bw10.out.trans (C11.out.mono Bw10.out.size))
    have O_x2_11 := Lib.hid (O_x2_10.out.later C11.out)
    clear O_x2_10
    have O_x3_11 := Lib.hid (O_x3_10.out.later C11.out)
    clear O_x3_10
    go_wp2_with fail
    refine (toIntS_any who Awho cwho _ ((Hrwho.out.below Bw11.out (Nat.le_refl _)).more Bw11.out.size) (by omega)).mono ?_
    rintro e w12 ⟨A12, rfl, ho, hb⟩
    have C12 := Lib.hid hb
    clear hb
    have t12 := C12.out.size
    have Bw12 := Lib.hid (Bw11.out.trans (C12.out.mono Bw11.out.size))
    have O_t11_12 := Lib.hid ho
    clear ho
    have O_x2_12 := Lib.hid (O_x2_11.out.later C12.out)
    clear O_x2_11
    have O_x3_12 := Lib.hid (O_x3_11.out.later C12.out)
    clear O_x3_11
    go_wp2_with fail
    refine (eqIntS_t who A7 A12 who.length who.length _ (O_x2_12.out.rd encInt_len) (O_t11_12.out.rd encInt_len) (by omega)).mono ?_
    rintro e w13 ⟨rfl, hb⟩
    have C13 := Lib.hid hb
    clear hb
    have t13 := C13.out.size
    have Bw13 := Lib.hid (Bw12.out.trans (C13.out.mono Bw12.out.size))
    have O_x3_13 := Lib.hid (O_x3_12.out.later C13.out)
    clear O_x3_12
    go_wp2_with fail
    refine (toIntS_any prices Aprices cprices _ ((Hrprices.out.below Bw13.out (Nat.le_refl _)).more Bw13.out.size) (by omega)).mono ?_
    rintro e w14 ⟨A14, rfl, ho, hb⟩
    have C14 := Lib.hid hb
    clear hb
    have t14 := C14.out.size
    have Bw14 := Lib.hid (Bw13.out.trans (C14.out.mono Bw13.out.size))
    have O_t13_14 := Lib.hid ho
    clear ho
    have O_x3_14 := Lib.hid (O_x3_13.out.later C14.out)
    clear O_x3_13
    go_wp2_with fail
    refine (eqIntS_t prices A8 A14 prices.length prices.length _ (O_x3_14.out.rd encInt_len) (O_t13_14.out.rd encInt_len) (by omega)).mono ?_
    rintro e w15 ⟨rfl, hb⟩
    have C15 := Lib.hid hb
    clear hb
    have t15 := C15.out.size
    have Bw15 := Lib.hid (Bw14.out.trans (C15.out.mono Bw14.out.size))
    go_wp2_with fail
    go_ret
    exact ⟨rfl, Bw15.out⟩
  · have H := Lib.hid h
    have e1 := B_f hf
    clear h hf
    go_wp2_with fail
    refine (toPersonS_any l Al cl _ ((Hrl.out.below Bw1.out (Nat.le_refl _)).more Bw1.out.size) (by omega) Hml.out).mono ?_
    rintro e w2 ⟨A2, rfl, ho, hb⟩
    have C2 := Lib.hid hb
    clear hb
    have t2 := C2.out.size
    have Bw2 := Lib.hid (Bw1.out.trans (C2.out.mono Bw1.out.size))
    have O_t1_2 := Lib.hid ho
    clear ho
    go_wp2_with fail
    refine (toIntS_any who Awho cwho _ ((Hrwho.out.below Bw2.out (Nat.le_refl _)).more Bw2.out.size) (by omega)).mono ?_
    rintro e w3 ⟨A3, rfl, ho, hb⟩
    have C3 := Lib.hid hb
    clear hb
    have t3 := C3.out.size
    have Bw3 := Lib.hid (Bw2.out.trans (C3.out.mono Bw2.out.size))
    have O_t2_3 := Lib.hid ho
    clear ho
    have O_t1_3 := Lib.hid (O_t1_2.out.later C3.out)
    clear O_t1_2
    go_wp2_with fail
    refine (toIntS_any prices Aprices cprices _ ((Hrprices.out.below Bw3.out (Nat.le_refl _)).more Bw3.out.size) (by omega)).mono ?_
    rintro e w4 ⟨A4, rfl, ho, hb⟩
    have C4 := Lib.hid hb
    clear hb
    have t4 := C4.out.size
    have Bw4 := Lib.hid (Bw3.out.trans (C4.out.mono Bw3.out.size))
    have O_t3_4 := Lib.hid ho
    clear ho
    have O_t1_4 := Lib.hid (O_t1_3.out.later C4.out)
    clear O_t1_3
    have O_t2_4 := Lib.hid (O_t2_3.out.later C4.out)
    clear O_t2_3
    go_wp2_with fail
    refine (sCheck_t l who prices A2 A3 A4 l.length who.length prices.length n _ (O_t1_4.out.rd trivial) (O_t2_4.out.rd encInt_len) (O_t3_4.out.rd encInt_len) (by omega) (Nat.le_refl _) Hml.out (by omega) (Nat.le_refl _) (by omega) H.out).mono ?_
    rintro e w5 ⟨rfl, hb⟩
    have C5 := Lib.hid hb
    clear hb
    have t5 := C5.out.size
    have Bw5 := Lib.hid (Bw4.out.trans (C5.out.mono Bw4.out.size))
    go_wp2_with fail
    refine (toPersonS_any l Al cl _ ((Hrl.out.below Bw5.out (Nat.le_refl _)).more Bw5.out.size) (by omega) Hml.out).mono ?_
    rintro e w6 ⟨A6, rfl, ho, hb⟩
    have C6 := Lib.hid hb
    clear hb
    have t6 := C6.out.size
    have Bw6 := Lib.hid (Bw5.out.trans (C6.out.mono Bw5.out.size))
    have O_x0_6 := Lib.hid ho
    clear ho
    go_wp2_with fail
    refine (toIntS_any who Awho cwho _ ((Hrwho.out.below Bw6.out (Nat.le_refl _)).more Bw6.out.size) (by omega)).mono ?_
    rintro e w7 ⟨A7, rfl, ho, hb⟩
    have C7 := Lib.hid hb
    clear hb
    have t7 := C7.out.size
    have Bw7 := Lib.hid (Bw6.out.trans (C7.out.mono Bw6.out.size))
    have O_x2_7 := Lib.hid ho
    clear ho
    have O_x0_7 := Lib.hid (O_x0_6.out.later C7.out)
    clear O_x0_6
    go_wp2_with fail
    refine (toIntS_any prices Aprices cprices _ ((Hrprices.out.below Bw7.out (Nat.le_refl _)).more Bw7.out.size) (by omega)).mono ?_
    rintro e w8 ⟨A8, rfl, ho, hb⟩
    have C8 := Lib.hid hb
    clear hb
    have t8 := C8.out.size
    have Bw8 := Lib.hid (Bw7.out.trans (C8.out.mono Bw7.out.size))
    have O_x3_8 := Lib.hid ho
    clear ho
    have O_x0_8 := Lib.hid (O_x0_7.out.later C8.out)
    clear O_x0_7
    have O_x2_8 := Lib.hid (O_x2_7.out.later C8.out)
    clear O_x2_7
    go_wp2_with fail
    refine (iCheck_t l who prices A6 A7 A8 l.length who.length prices.length n _ (O_x0_8.out.rd trivial) (O_x2_8.out.rd encInt_len) (O_x3_8.out.rd encInt_len) (by omega) (Nat.le_refl _) Hml.out (by omega) (Nat.le_refl _) (by omega) H.out).mono ?_
    rintro e w9 ⟨rfl, hb⟩
    have C9 := Lib.hid hb
    clear hb
    have t9 := C9.out.size
    have Bw9 := Lib.hid (Bw8.out.trans (C9.out.mono Bw8.out.size))
    have O_x0_9 := Lib.hid (O_x0_8.out.later C9.out)
    clear O_x0_8
    have O_x2_9 := Lib.hid (O_x2_8.out.later C9.out)
    clear O_x2_8
    have O_x3_9 := Lib.hid (O_x3_8.out.later C9.out)
    clear O_x3_8
    go_wp2_with fail
    refine (toPersonS_any l Al cl _ ((Hrl.out.below Bw9.out (Nat.le_refl _)).more Bw9.out.size) (by omega) Hml.out).mono ?_
    rintro e w10 ⟨A10, rfl, ho, hb⟩
    have C10 := Lib.hid hb
    clear hb
    have t10 := C10.out.size
    have Bw10 := Lib.hid (Bw9.out.trans (C10.out.mono Bw9.out.size))
    have O_t9_10 := Lib.hid ho
    clear ho
    have O_x0_10 := Lib.hid (O_x0_9.out.later C10.out)
    clear O_x0_9
    have O_x2_10 := Lib.hid (O_x2_9.out.later C10.out)
    clear O_x2_9
    have O_x3_10 := Lib.hid (O_x3_9.out.later C10.out)
    clear O_x3_9
    go_wp2_with fail
    refine (eqPersonS_t l A6 A10 l.length l.length _ (O_x0_10.out.rd trivial) (O_t9_10.out.rd trivial) (by omega) Hml.out).mono ?_
    rintro e w11 ⟨rfl, hb⟩
    have C11 := Lib.hid hb
    clear hb
    have t11 := C11.out.size
    have Bw11 := Lib.hid (Bw10.out.trans (C11.out.mono Bw10.out.size))
    have O_x2_11 := Lib.hid (O_x2_10.out.later C11.out)
    clear O_x2_10
    have O_x3_11 := Lib.hid (O_x3_10.out.later C11.out)
    clear O_x3_10
    go_wp2_with fail
    refine (toIntS_any who Awho cwho _ ((Hrwho.out.below Bw11.out (Nat.le_refl _)).more Bw11.out.size) (by omega)).mono ?_
    rintro e w12 ⟨A12, rfl, ho, hb⟩
    have C12 := Lib.hid hb
    clear hb
    have t12 := C12.out.size
    have Bw12 := Lib.hid (Bw11.out.trans (C12.out.mono Bw11.out.size))
    have O_t11_12 := Lib.hid ho
    clear ho
    have O_x2_12 := Lib.hid (O_x2_11.out.later C12.out)
    clear O_x2_11
    have O_x3_12 := Lib.hid (O_x3_11.out.later C12.out)
    clear O_x3_11
    go_wp2_with fail
    refine (eqIntS_t who A7 A12 who.length who.length _ (O_x2_12.out.rd encInt_len) (O_t11_12.out.rd encInt_len) (by omega)).mono ?_
    rintro e w13 ⟨rfl, hb⟩
    have C13 := Lib.hid hb
    clear hb
    have t13 := C13.out.size
    have Bw13 := Lib.hid (Bw12.out.trans (C13.out.mono Bw12.out.size))
    have O_x3_13 := Lib.hid (O_x3_12.out.later C13.out)
    clear O_x3_12
    go_wp2_with fail
    refine (toIntS_any prices Aprices cprices _ ((Hrprices.out.below Bw13.out (Nat.le_refl _)).more Bw13.out.size) (by omega)).mono ?_
    rintro e w14 ⟨A14, rfl, ho, hb⟩
    have C14 := Lib.hid hb
    clear hb
    have t14 := C14.out.size
    have Bw14 := Lib.hid (Bw13.out.trans (C14.out.mono Bw13.out.size))
    have O_t13_14 := Lib.hid ho
    clear ho
    have O_x3_14 := Lib.hid (O_x3_13.out.later C14.out)
    clear O_x3_13
    go_wp2_with fail
    refine (eqIntS_t prices A8 A14 prices.length prices.length _ (O_x3_14.out.rd encInt_len) (O_t13_14.out.rd encInt_len) (by omega)).mono ?_
    rintro e w15 ⟨rfl, hb⟩
    have C15 := Lib.hid hb
    clear hb
    have t15 := C15.out.size
    have Bw15 := Lib.hid (Bw14.out.trans (C15.out.mono Bw14.out.size))
    go_wp2_with fail
    go_ret
    exact ⟨rfl, Bw15.out⟩
  · have H := Lib.hid h
    clear h
    go_wp2_with fail
    refine (toPersonS_any l Al cl _ ((Hrl.out.below Bw1.out (Nat.le_refl _)).more Bw1.out.size) (by omega) Hml.out).mono ?_
    rintro e w2 ⟨A2, rfl, ho, hb⟩
    have C2 := Lib.hid hb
    clear hb
    have t2 := C2.out.size
    have Bw2 := Lib.hid (Bw1.out.trans (C2.out.mono Bw1.out.size))
    have O_t1_2 := Lib.hid ho
    clear ho
    go_wp2_with fail
    refine (toIntS_any who Awho cwho _ ((Hrwho.out.below Bw2.out (Nat.le_refl _)).more Bw2.out.size) (by omega)).mono ?_
    rintro e w3 ⟨A3, rfl, ho, hb⟩
    have C3 := Lib.hid hb
    clear hb
    have t3 := C3.out.size
    have Bw3 := Lib.hid (Bw2.out.trans (C3.out.mono Bw2.out.size))
    have O_t2_3 := Lib.hid ho
    clear ho
    have O_t1_3 := Lib.hid (O_t1_2.out.later C3.out)
    clear O_t1_2
    go_wp2_with fail
    refine (toIntS_any prices Aprices cprices _ ((Hrprices.out.below Bw3.out (Nat.le_refl _)).more Bw3.out.size) (by omega)).mono ?_
    rintro e w4 ⟨A4, rfl, ho, hb⟩
    have C4 := Lib.hid hb
    clear hb
    have t4 := C4.out.size
    have Bw4 := Lib.hid (Bw3.out.trans (C4.out.mono Bw3.out.size))
    have O_t3_4 := Lib.hid ho
    clear ho
    have O_t1_4 := Lib.hid (O_t1_3.out.later C4.out)
    clear O_t1_3
    have O_t2_4 := Lib.hid (O_t2_3.out.later C4.out)
    clear O_t2_3
    go_wp2_with fail
    refine (sCheck_f l who prices A2 A3 A4 l.length who.length prices.length n _ (O_t1_4.out.rd trivial) (O_t2_4.out.rd encInt_len) (O_t3_4.out.rd encInt_len) (by omega) (Nat.le_refl _) Hml.out (by omega) (Nat.le_refl _) (by omega) H.out).mono ?_
    rintro e w5 ⟨rfl, hb⟩
    have C5 := Lib.hid hb
    clear hb
    have t5 := C5.out.size
    have Bw5 := Lib.hid (Bw4.out.trans (C5.out.mono Bw4.out.size))
    go_wp2_with fail
    refine (toPersonS_any l Al cl _ ((Hrl.out.below Bw5.out (Nat.le_refl _)).more Bw5.out.size) (by omega) Hml.out).mono ?_
    rintro e w6 ⟨A6, rfl, ho, hb⟩
    have C6 := Lib.hid hb
    clear hb
    have t6 := C6.out.size
    have Bw6 := Lib.hid (Bw5.out.trans (C6.out.mono Bw5.out.size))
    have O_x0_6 := Lib.hid ho
    clear ho
    go_wp2_with fail
    refine (toIntS_any who Awho cwho _ ((Hrwho.out.below Bw6.out (Nat.le_refl _)).more Bw6.out.size) (by omega)).mono ?_
    rintro e w7 ⟨A7, rfl, ho, hb⟩
    have C7 := Lib.hid hb
    clear hb
    have t7 := C7.out.size
    have Bw7 := Lib.hid (Bw6.out.trans (C7.out.mono Bw6.out.size))
    have O_x2_7 := Lib.hid ho
    clear ho
    have O_x0_7 := Lib.hid (O_x0_6.out.later C7.out)
    clear O_x0_6
    go_wp2_with fail
    refine (toIntS_any prices Aprices cprices _ ((Hrprices.out.below Bw7.out (Nat.le_refl _)).more Bw7.out.size) (by omega)).mono ?_
    rintro e w8 ⟨A8, rfl, ho, hb⟩
    have C8 := Lib.hid hb
    clear hb
    have t8 := C8.out.size
    have Bw8 := Lib.hid (Bw7.out.trans (C8.out.mono Bw7.out.size))
    have O_x3_8 := Lib.hid ho
    clear ho
    have O_x0_8 := Lib.hid (O_x0_7.out.later C8.out)
    clear O_x0_7
    have O_x2_8 := Lib.hid (O_x2_7.out.later C8.out)
    clear O_x2_7
    go_wp2_with fail
    refine (iCheck_f l who prices A6 A7 A8 l.length who.length prices.length n _ (O_x0_8.out.rd trivial) (O_x2_8.out.rd encInt_len) (O_x3_8.out.rd encInt_len) (by omega) (Nat.le_refl _) Hml.out (by omega) (Nat.le_refl _) (by omega) H.out).mono ?_
    rintro e w9 ⟨rfl, hb⟩
    have C9 := Lib.hid hb
    clear hb
    have t9 := C9.out.size
    have Bw9 := Lib.hid (Bw8.out.trans (C9.out.mono Bw8.out.size))
    have O_x0_9 := Lib.hid (O_x0_8.out.later C9.out)
    clear O_x0_8
    have O_x2_9 := Lib.hid (O_x2_8.out.later C9.out)
    clear O_x2_8
    have O_x3_9 := Lib.hid (O_x3_8.out.later C9.out)
    clear O_x3_8
    go_wp2_with fail
    refine (toPersonS_any l Al cl _ ((Hrl.out.below Bw9.out (Nat.le_refl _)).more Bw9.out.size) (by omega) Hml.out).mono ?_
    rintro e w10 ⟨A10, rfl, ho, hb⟩
    have C10 := Lib.hid hb
    clear hb
    have t10 := C10.out.size
    have Bw10 := Lib.hid (Bw9.out.trans (C10.out.mono Bw9.out.size))
    have O_t9_10 := Lib.hid ho
    clear ho
    have O_x0_10 := Lib.hid (O_x0_9.out.later C10.out)
    clear O_x0_9
    have O_x2_10 := Lib.hid (O_x2_9.out.later C10.out)
    clear O_x2_9
    have O_x3_10 := Lib.hid (O_x3_9.out.later C10.out)
    clear O_x3_9
    go_wp2_with fail
    refine (eqPersonS_t l A6 A10 l.length l.length _ (O_x0_10.out.rd trivial) (O_t9_10.out.rd trivial) (by omega) Hml.out).mono ?_
    rintro e w11 ⟨rfl, hb⟩
    have C11 := Lib.hid hb
    clear hb
    have t11 := C11.out.size
    have Bw11 := Lib.hid (Bw10.out.trans (C11.out.mono Bw10.out.size))
    have O_x2_11 := Lib.hid (O_x2_10.out.later C11.out)
    clear O_x2_10
    have O_x3_11 := Lib.hid (O_x3_10.out.later C11.out)
    clear O_x3_10
    go_wp2_with fail
    refine (toIntS_any who Awho cwho _ ((Hrwho.out.below Bw11.out (Nat.le_refl _)).more Bw11.out.size) (by omega)).mono ?_
    rintro e w12 ⟨A12, rfl, ho, hb⟩
    have C12 := Lib.hid hb
    clear hb
    have t12 := C12.out.size
    have Bw12 := Lib.hid (Bw11.out.trans (C12.out.mono Bw11.out.size))
    have O_t11_12 := Lib.hid ho
    clear ho
    have O_x2_12 := Lib.hid (O_x2_11.out.later C12.out)
    clear O_x2_11
    have O_x3_12 := Lib.hid (O_x3_11.out.later C12.out)
    clear O_x3_11
    go_wp2_with fail
    refine (eqIntS_t who A7 A12 who.length who.length _ (O_x2_12.out.rd encInt_len) (O_t11_12.out.rd encInt_len) (by omega)).mono ?_
    rintro e w13 ⟨rfl, hb⟩
    have C13 := Lib.hid hb
    clear hb
    have t13 := C13.out.size
    have Bw13 := Lib.hid (Bw12.out.trans (C13.out.mono Bw12.out.size))
    have O_x3_13 := Lib.hid (O_x3_12.out.later C13.out)
    clear O_x3_12
    go_wp2_with fail
    refine (toIntS_any prices Aprices cprices _ ((Hrprices.out.below Bw13.out (Nat.le_refl _)).more Bw13.out.size) (by omega)).mono ?_
    rintro e w14 ⟨A14, rfl, ho, hb⟩
    have C14 := Lib.hid hb
    clear hb
    have t14 := C14.out.size
    have Bw14 := Lib.hid (Bw13.out.trans (C14.out.mono Bw13.out.size))
    have O_t13_14 := Lib.hid ho
    clear ho
    have O_x3_14 := Lib.hid (O_x3_13.out.later C14.out)
    clear O_x3_13
    go_wp2_with fail
    refine (eqIntS_t prices A8 A14 prices.length prices.length _ (O_x3_14.out.rd encInt_len) (O_t13_14.out.rd encInt_len) (by omega)).mono ?_
    rintro e w15 ⟨rfl, hb⟩
    have C15 := Lib.hid hb
    clear hb
    have t15 := C15.out.size
    have Bw15 := Lib.hid (Bw14.out.trans (C15.out.mono Bw14.out.size))
    go_wp2_with fail
    go_ret
    exact ⟨rfl, Bw15.out⟩

namespace fnExactCheckPlacing
open Go.ChangeShapes Go.WideShapes Go.ChangeAt Go.RowKit Go.Deep
open Go.ChangeMaps (open_string shut_string)
theorem own : ownKnob Try.prog.godebug = none := by kernel_rfl
theorem laid : laidOutB Try.prog = true := by kernel_rfl
theorem reads : Try.f5.params.toList.all (fun t => Try.prog.readableRec t && decide (t < Try.prog.types.size)) = true := by kernel_rfl
set_option maxRecDepth 100000 in
theorem lifted (os : Os) (started : os.Started) (H : Type) (enc : TypeId × Value → H) :
    ReturnsInHanded {} Try.checked os 5 .any (Rows.fnExactCheckPlacingSpec.pre6 enc Try.prog Try.f5 Rows.fnExactCheckPlacingRow.domain false) (Rows.fnExactCheckPlacingSpec.post enc Try.prog Try.f5 false true false false) := by
  refine returnsInHanded_of_change (C := Try.checked) own started (by kernel_rfl) Try.func5
    (ChangeSpec.witness6 (enc := enc) (C := Try.checked) false ⟨#[], #[.slice none 0 0, .int .i64 0, .slice none 0 0, .slice none 0 0], []⟩ 8 (by kernel_rfl) (by kernel_rfl) (by kernel_rfl) (by kernel_rfl)) ?_
  intro W base args ds gs before hval0 hW hcnd _
  have hval : ∀ (j : Nat) t v, Try.f5.params[j]? = some t → args[j]? = some v → Value.okWide Try.prog W .any base t v := hval0
  have hW' := hW
  obtain ⟨p, q, hA0, hV, rfl, hfz, hnd⟩ := hW
  have hA : DataW.TrodAll enc Try.prog W 0 (fun _ => true) true Try.f5.params.toList args.toList ds p := hA0
  rw [Try.params5] at hA hval
  obtain ⟨rfl, rfl⟩ := trodVars_none hV
  have hlt : ∀ x ∈ p, x.block < W.heap.size := fun x hx => by simpa using hW'.lt x (List.mem_append.2 (.inl hx))
  clear hA0 hval0
  obtain ⟨v0, vs0, d0, ds0, p0, q0, hargs, rfl, rfl, h0, r0⟩ := trodAll_cons hA
  obtain ⟨v1, vs1, d1, ds1, p1, q1, rfl, rfl, rfl, h1, r1⟩ := trodAll_cons r0
  obtain ⟨v2, vs2, d2, ds2, p2, q2, rfl, rfl, rfl, h2, r2⟩ := trodAll_cons r1
  obtain ⟨v3, vs3, d3, ds3, p3, q3, rfl, rfl, rfl, h3, r3⟩ := trodAll_cons r2
  obtain ⟨rfl, rfl, rfl⟩ := trodAll_nil r3
  obtain rfl : args = #[v0, v1, v2, v3] := by cases args; simp_all
  clear hargs
  obtain ⟨A0, a0, c0, rfl, y0, x0, z0⟩ := open_list Try.underlying22 2 (by kernel_rfl) (by omega) Psn.enc _ Person_el (hval 0 22 v0 rfl rfl) h0
  obtain ⟨x0, z0⟩ := people_open x0 z0
  obtain ⟨a1, rfl, rfl, rfl, z1⟩ := open_int Try.underlying3 (hval 1 3 v1 rfl rfl) h1
  obtain ⟨A2, a2, c2, rfl, y2, x2, z2⟩ := open_list Try.underlying23 1 (by kernel_rfl) (by omega) encInt _ Int_el (hval 2 23 v2 rfl rfl) h2
  obtain ⟨A3, a3, c3, rfl, y3, x3, z3⟩ := open_list Try.underlying23 1 (by kernel_rfl) (by omega) encInt _ Int_el (hval 3 23 v3 rfl rfl) h3
  have hlaw := checkLaw W (a0.map Psn.key) A0 c0 x0 (by rw [List.length_map]; unfold maxLen at y0; omega) z0 a1 (by simpa [Lit.wf, IntKind.min, IntKind.max, IntKind.signed, IntKind.bits] using z1) a2 A2 c2 x2 (by unfold maxLen at y2; omega) z2 a3 A3 c3 x3 (by unfold maxLen at y3; omega) z3
  simp only [List.length_map] at hlaw
  refine (hlaw).mono fun e W' ⟨he, hg⟩ => ?_
  subst he
  exact ⟨_, rfl, law_post laid reads rfl Try.underlying4 rfl rfl hW' hg⟩
theorem over : Rows.fnExactCheckPlacingRow.holds Try.pinned (OpenSpec.ofChange Rows.fnExactCheckPlacingSpec) :=
  OpenClaim.holds_of_wide 5 Try.f5 rfl rfl rfl rfl rfl rfl rfl ⟨rfl, rfl, rfl, rfl, rfl⟩ rfl rfl rfl rfl rfl (by kernel_rfl) Try.func5 (by kernel_rfl)
    (of_decide_eq_true (by kernel_rfl)) (by unfold Func.isWrapper; first | (rw [if_pos (by decide +kernel)]; kernel_rfl) | (rw [if_neg (by decide +kernel)]; exact ⟨rfl, rfl⟩))
    (fun os started H enc _ => lifted os started H enc)
theorem proved : Rows.FnExactCheckPlacingSaid := over
end fnExactCheckPlacing
end Go.Proofs.Ytdegbckoejddeaa
