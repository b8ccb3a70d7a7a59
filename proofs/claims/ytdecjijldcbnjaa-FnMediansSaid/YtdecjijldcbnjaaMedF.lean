/-
  Contracts: valid values and weights; sums; the weighted median of the reference.
-/
import Derived.Test.YtdecjijldcbnjaaMedian
import Derived.Test.YtdecjijldcbnjaaIntsL
import Derived.Test.YtdecjijldcbnjaaGrow
namespace Go.Proofs.Ytdecjijldcbnjaa
open Go.RowKit
set_option linter.unusedVariables false
set_option linter.unusedSimpArgs false
set_option maxRecDepth 100000

def valP (vs ws : List Int) : Prop := (vs.length ≤ 400 ∧ allIn vs (-10000000) 10000000) ∧ 0 < vs.length ∧ ws.length = vs.length ∧ allIn ws 1 100
theorem allIn_get {l : List Int} {lo hi : Int} (h : allIn l lo hi) {k : Nat} (hk : k < l.length) : lo ≤ l[k] ∧ l[k] ≤ hi := h _ (List.getElem_mem hk)
theorem allIn_getD {l : List Int} {lo hi : Int} (h : allIn l lo hi) {k : Nat} (hk : k < l.length) : lo ≤ l.getD k 0 ∧ l.getD k 0 ≤ hi := by rw [getD_get hk]; exact allIn_get h hk
theorem wAll_bd {ws : List Int} (h : allIn ws 1 100) : ∀ k, k ≤ ws.length → 0 ≤ wAll ws k ∧ wAll ws k ≤ 100 * k
  | 0, _ => by simp [wAll_zero]
  | k + 1, hk => by
    have ih := wAll_bd h k (by omega)
    have := allIn_getD h (k := k) (by omega)
    rw [wAll_succ]; omega
theorem wAll_ge {ws : List Int} (h : allIn ws 1 100) : ∀ k : Nat, k ≤ ws.length → (k : Int) ≤ wAll ws k
  | 0, _ => by simp [wAll_zero]
  | k + 1, hk => by
    have ih := wAll_ge h k (by omega)
    have := allIn_getD h (k := k) (by omega)
    rw [wAll_succ]; omega
theorem wTo_bd {vs ws : List Int} (v : Int) (h : allIn ws 1 100) : ∀ k, k ≤ ws.length → 0 ≤ wTo vs ws v k ∧ wTo vs ws v k ≤ 100 * k
  | 0, _ => by simp [wTo_zero]
  | k + 1, hk => by
    have ih := wTo_bd (vs := vs) v h k (by omega)
    have := allIn_getD h (k := k) (by omega)
    rw [wTo_succ]; split <;> omega
/-- The cell of an element, under a name. -/

theorem total_any (ws : List Int) (A : Option Addr) (c : Nat) (w : World) (h : RdL w w.heap.size A 1 encInt ws) (hl : ws.length ≤ 400) (hw : allIn ws 1 100) :
    Calls Try.prog 142 #[.slice A ws.length c] w fun e w' => e = .returned (.int .i64 (wAll ws ws.length)) ∧ w = w' := by
  have H := Lib.hid h
  have Hw := Lib.hid hw
  have hbd := Lib.hid (wAll_bd hw)
  obtain ⟨S, hS⟩ : ∃ S : Nat → Int, Hid (S = wAll ws) := ⟨_, Lib.hid rfl⟩
  rw [← hS.out] at hbd ⊢
  clear h hw
  go_enter Try.func142, Try.ntmps142
  go_wp2
  go_loop [3, 8] (fun s i => ∃ k : Nat, k ≤ ws.length ∧ i = .int .i64 k ∧ s = .int .i64 (S k)) (fun _ i => ws.length - (intOf i).toNat)
  case atStart => exact ⟨0, by omega, by rfl, by rw [hS.out]; rfl⟩
  case round =>
    obtain ⟨k, hk, rfl, rfl⟩ := hrel
    obtain ⟨b1, b2⟩ := hbd.out k hk
    have hst : Hid (S (k + 1) = S k + ws.getD k 0) := Lib.hid (by rw [hS.out]; exact wAll_succ ws k)
    generalize hT : S k = T at b1 b2 hst ⊢
    have HT := Lib.hid hT
    clear hT
    by_cases hlt : k < ws.length
    · have hx := Hw.out _ (List.getElem_mem hlt)
      have hst2 := hst.out
      rw [getD_get hlt] at hst2
      have Hst := Lib.hid hst2
      clear hst2 hst
      obtain ⟨qg, qoff, qA, qhg, qcell⟩ := H.out.at (k := k) (by omega)
      have qr : w.cell? ⟨qg, qoff + k, none⟩ = some (.int .i64 (ws[k]'(by omega))) := by have := qcell 0 _ rfl; rw [Nat.mul_one] at this; exact this
      obtain ⟨qx, qh⟩ : ∃ x, Hid (ws[k]'(by omega) = x) := ⟨_, Lib.hid rfl⟩
      rw [qh.out] at qr
      clear qcell
      subst qA
      rw [qh.out] at hx Hst
      obtain ⟨hx1, hx2⟩ := hx
      go_wp2
      go_round
      case rel => exact ⟨k + 1, by omega, by go_num, by rw [Hst.out]⟩
      case measure => simp [intOf]; omega
    · obtain rfl : k = ws.length := by omega
      go_wp2
      go_ret
      exact ⟨ret_int HT.out.symm, rfl⟩
theorem l23Values_any (l : List Int) (A : Option Addr) (c : Nat) (w : World) (h : RdL w w.heap.size A 1 encInt l) (hl : l.length ≤ 1048576) :
    Calls Try.prog 191 #[.slice A l.length c] w fun e w' => e = .returned (.bool (B (l.length ≤ 400 ∧ allIn l (-10000000) 10000000))) ∧ w = w' := by
  have HV := Lib.hid h
  clear h
  by_cases h_0 : l.length ≤ 400
  rotate_left
  · have H := Lib.hid h_0
    have d_0 : decide ((l.length : Int) ≤ 400) = false := decide_eq_false (by omega)
    clear h_0
    go_enter Try.func191, Try.ntmps191
    go_wp2_with (go_at_call 112; refine (l1All_any l A c _ _ _ HV.out (by omega)).mono ?_; rintro e w' ⟨rfl, rfl⟩)
    go_ret
    exact ⟨ret_f (fun x => H.out x.1), rfl⟩
  have H_0 := Lib.hid h_0
  have d_0 : decide ((l.length : Int) ≤ 400) = true := decide_eq_true (by have := H_0.out; omega)
  clear h_0
  by_cases h_1 : allIn l (-10000000) 10000000
  rotate_left
  · have H := Lib.hid h_1
    have e_1 := B_f h_1
    clear h_1
    go_enter Try.func191, Try.ntmps191
    go_wp2_with (go_at_call 112; refine (l1All_any l A c _ _ _ HV.out (by omega)).mono ?_; rintro e w' ⟨rfl, rfl⟩)
    go_ret
    exact ⟨ret_f (fun x => H.out x.2), rfl⟩
  have H_1 := Lib.hid h_1
  have e_1 := B_t h_1
  clear h_1
  go_enter Try.func191, Try.ntmps191
  go_wp2_with (go_at_call 112; refine (l1All_any l A c _ _ _ HV.out (by omega)).mono ?_; rintro e w' ⟨rfl, rfl⟩)
  go_ret
  exact ⟨ret_t ⟨H_0.out, H_1.out⟩, rfl⟩
theorem l23Asked_any (vs ws : List Int) (A A' : Option Addr) (c c' : Nat) (w : World) (h : RdL w w.heap.size A 1 encInt vs) (h' : RdL w w.heap.size A' 1 encInt ws) (hl : vs.length ≤ 1048576) (hl' : ws.length ≤ 1048576) :
    Calls Try.prog 138 #[.slice A vs.length c, .slice A' ws.length c'] w fun e w' => e = .returned (.bool (B (valP vs ws))) ∧ w = w' := by
  have HV := Lib.hid h
  have HV' := Lib.hid h'
  clear h h'
  by_cases h_0 : vs.length ≤ 400 ∧ allIn vs (-10000000) 10000000
  rotate_left
  · have H := Lib.hid h_0
    have e_0 := B_f h_0
    clear h_0
    go_enter Try.func138, Try.ntmps138
    go_wp2_with (first | (go_at_call 191; refine (l23Values_any vs A c _ HV.out (by omega)).mono ?_; rintro e w' ⟨rfl, rfl⟩) | (go_at_call 112; refine (l1All_any ws A' c' _ _ _ HV'.out (by omega)).mono ?_; rintro e w' ⟨rfl, rfl⟩))
    go_ret
    exact ⟨ret_f (fun x => H.out x.1), rfl⟩
  have H_0 := Lib.hid h_0
  have e_0 := B_t h_0
  clear h_0
  by_cases h_1 : 0 < vs.length
  rotate_left
  · have H := Lib.hid h_1
    have d_1 : decide ((0 : Int) < (vs.length : Int)) = false := decide_eq_false (by omega)
    clear h_1
    go_enter Try.func138, Try.ntmps138
    go_wp2_with (first | (go_at_call 191; refine (l23Values_any vs A c _ HV.out (by omega)).mono ?_; rintro e w' ⟨rfl, rfl⟩) | (go_at_call 112; refine (l1All_any ws A' c' _ _ _ HV'.out (by omega)).mono ?_; rintro e w' ⟨rfl, rfl⟩))
    go_ret
    exact ⟨ret_f (fun x => H.out x.2.1), rfl⟩
  have H_1 := Lib.hid h_1
  have d_1 : decide ((0 : Int) < (vs.length : Int)) = true := decide_eq_true (by have := H_1.out; omega)
  clear h_1
  by_cases h_2 : ws.length = vs.length
  rotate_left
  · have H := Lib.hid h_2
    have d_2 : ((ws.length : Int) == (vs.length : Int)) = false := beq_eq_false_iff_ne.2 (by omega)
    clear h_2
    go_enter Try.func138, Try.ntmps138
    go_wp2_with (first | (go_at_call 191; refine (l23Values_any vs A c _ HV.out (by omega)).mono ?_; rintro e w' ⟨rfl, rfl⟩) | (go_at_call 112; refine (l1All_any ws A' c' _ _ _ HV'.out (by omega)).mono ?_; rintro e w' ⟨rfl, rfl⟩))
    go_ret
    exact ⟨ret_f (fun x => H.out x.2.2.1), rfl⟩
  have H_2 := Lib.hid h_2
  have d_2 : ((ws.length : Int) == (vs.length : Int)) = true := beq_iff_eq.2 (by have := H_2.out; omega)
  clear h_2
  by_cases h_3 : allIn ws 1 100
  rotate_left
  · have H := Lib.hid h_3
    have e_3 := B_f h_3
    clear h_3
    go_enter Try.func138, Try.ntmps138
    go_wp2_with (first | (go_at_call 191; refine (l23Values_any vs A c _ HV.out (by omega)).mono ?_; rintro e w' ⟨rfl, rfl⟩) | (go_at_call 112; refine (l1All_any ws A' c' _ _ _ HV'.out (by omega)).mono ?_; rintro e w' ⟨rfl, rfl⟩))
    go_ret
    exact ⟨ret_f (fun x => H.out x.2.2.2), rfl⟩
  have H_3 := Lib.hid h_3
  have e_3 := B_t h_3
  clear h_3
  go_enter Try.func138, Try.ntmps138
  go_wp2_with (first | (go_at_call 191; refine (l23Values_any vs A c _ HV.out (by omega)).mono ?_; rintro e w' ⟨rfl, rfl⟩) | (go_at_call 112; refine (l1All_any ws A' c' _ _ _ HV'.out (by omega)).mono ?_; rintro e w' ⟨rfl, rfl⟩))
  go_ret
  exact ⟨ret_t ⟨H_0.out, H_1.out, H_2.out, H_3.out⟩, rfl⟩
set_option maxHeartbeats 800000 in
theorem goodValues_any (vs ws : List Int) (A A' : Option Addr) (c c' : Nat) (w : World) (h : RdL w w.heap.size A 1 encInt vs) (h' : RdL w w.heap.size A' 1 encInt ws) (hl : vs.length ≤ 1048576) (hl' : ws.length ≤ 1048576) :
    Calls Try.prog 136 #[.slice A vs.length c, .slice A' ws.length c'] w fun e w' => e = .returned (.bool (B (valP vs ws))) ∧ w = w' := by
  have H := Lib.hid h
  have H' := Lib.hid h'
  clear h h'
  by_cases h1 : 0 < vs.length ∧ vs.length ≤ 400
  rotate_left
  · have e1 : B (inB (vs.length : Int) 1 400) = false := B_f (fun x => by unfold inB at x; omega)
    go_enter Try.func136, Try.ntmps136
    go_wp2_with (go_at_call 110; refine (within_any _ _ _ _).mono ?_; rintro e w' ⟨rfl, rfl⟩)
    go_ret
    exact ⟨ret_f (fun x => h1 ⟨x.2.1, x.1.1⟩), rfl⟩
  obtain ⟨h1a, h1b⟩ := h1
  have e1 : B (inB (vs.length : Int) 1 400) = true := B_t (by unfold inB; omega)
  by_cases h2 : ws.length = vs.length
  rotate_left
  · have d2 : ((ws.length : Int) != (vs.length : Int)) = true := bne_iff_ne.2 (by omega)
    go_enter Try.func136, Try.ntmps136
    go_wp2_with (go_at_call 110; refine (within_any _ _ _ _).mono ?_; rintro e w' ⟨rfl, rfl⟩)
    go_ret
    exact ⟨ret_f (fun x => h2 x.2.2.1), rfl⟩
  have d2 : ((ws.length : Int) != (vs.length : Int)) = false := bne_eq_false_iff_eq.2 (by omega)
  have H2 := Lib.hid h2
  have h2a : vs.length ≤ ws.length := by omega
  clear h2
  go_enter Try.func136, Try.ntmps136
  go_wp2_with (go_at_call 110; refine (within_any _ _ _ _).mono ?_; rintro e w' ⟨rfl, rfl⟩)
  go_loop [20] (fun i => ∃ k : Nat, k ≤ vs.length ∧ i = .int .i64 k ∧ (∀ (j : Nat) (hj : j < vs.length), j < k → inB vs[j] (-10000000) 10000000) ∧ (∀ (j : Nat) (hj : j < ws.length), j < k → inB ws[j] 1 100)) (fun i => vs.length - (intOf i).toNat)
  case atStart => exact ⟨0, by omega, by rfl, fun j _ h => by omega, fun j _ h => by omega⟩
  case round =>
    obtain ⟨k, hk, rfl, hp, hp'⟩ := hrel
    have Hp := Lib.hid hp
    have Hp' := Lib.hid hp'
    clear hp hp'
    by_cases hlt : k < vs.length
    · have hlt' : k < ws.length := by omega
      obtain ⟨qg, qoff, qA, qhg, qcell⟩ := H.out.at (k := k) (by omega)
      have qr : w.cell? ⟨qg, qoff + k, none⟩ = some (.int .i64 (vs[k]'(by omega))) := by have := qcell 0 _ rfl; rw [Nat.mul_one] at this; exact this
      obtain ⟨qx, qh⟩ : ∃ x, Hid (vs[k]'(by omega) = x) := ⟨_, Lib.hid rfl⟩
      rw [qh.out] at qr
      clear qcell
      obtain ⟨rg, roff, rA, rhg, rcell⟩ := H'.out.at (k := k) (by omega)
      have rr : w.cell? ⟨rg, roff + k, none⟩ = some (.int .i64 (ws[k]'(by omega))) := by have := rcell 0 _ rfl; rw [Nat.mul_one] at this; exact this
      obtain ⟨rx, rh⟩ : ∃ x, Hid (ws[k]'(by omega) = x) := ⟨_, Lib.hid rfl⟩
      rw [rh.out] at rr
      clear rcell
      subst qA rA
      by_cases c1 : inB qx (-10000000) 10000000
      · have f1 := B_t c1
        have C1 := Lib.hid c1
        clear c1
        by_cases c2 : inB rx 1 100
        · have f2 := B_t c2
          have C2 := Lib.hid c2
          clear c2
          go_wp2_with (go_at_call 110; refine (within_any _ _ _ _).mono ?_; rintro e w' ⟨rfl, rfl⟩)
          go_round
          case rel =>
            refine ⟨k + 1, by omega, by go_num, fun j hj h1 => ?_, fun j hj h1 => ?_⟩
            · rcases Nat.lt_or_eq_of_le (Nat.le_of_lt_succ h1) with h' | rfl
              · exact Hp.out j hj h'
              · rw [qh.out]; exact C1.out
            · rcases Nat.lt_or_eq_of_le (Nat.le_of_lt_succ h1) with h' | rfl
              · exact Hp'.out j hj h'
              · rw [rh.out]; exact C2.out
          case measure => simp [intOf]; omega
        · have f2 := B_f c2
          have C2 := Lib.hid c2
          clear c2
          go_wp2_with (go_at_call 110; refine (within_any _ _ _ _).mono ?_; rintro e w' ⟨rfl, rfl⟩)
          go_ret
          exact ⟨ret_f (fun x => C2.out (by rw [← rh.out]; exact x.2.2.2 _ (List.getElem_mem _))), rfl⟩
      · have f1 := B_f c1
        have C1 := Lib.hid c1
        clear c1
        go_wp2_with (go_at_call 110; refine (within_any _ _ _ _).mono ?_; rintro e w' ⟨rfl, rfl⟩)
        go_ret
        exact ⟨ret_f (fun x => C1.out (by rw [← qh.out]; exact x.1.2 _ (List.getElem_mem _))), rfl⟩
    · obtain rfl : k = vs.length := by omega
      go_wp2
      go_ret
      refine ⟨ret_t ⟨⟨h1b, fun s hs => ?_⟩, h1a, H2.out, fun s hs => ?_⟩, rfl⟩
      · obtain ⟨j, hj, rfl⟩ := List.getElem_of_mem hs
        exact Hp.out j hj hj
      · obtain ⟨j, hj, rfl⟩ := List.getElem_of_mem hs
        exact Hp'.out j hj (by have := H2.out; omega)
/-- What the reference's search has found. -/
def bestInv (vs ws : List Int) (j : Nat) (b : Int) (m : Bool) : Prop :=
  (m = false → b = 0 ∧ ∀ (i : Nat) (hi : i < vs.length), i < j → ¬ halfTo vs ws vs[i]) ∧ (m = true → b ∈ vs ∧ halfTo vs ws b ∧ ∀ (i : Nat) (hi : i < vs.length), i < j → halfTo vs ws vs[i] → b ≤ vs[i])
theorem bestInv.start (vs ws : List Int) : bestInv vs ws 0 0 false := ⟨fun _ => ⟨rfl, fun i _ h => by omega⟩, fun h => by cases h⟩
theorem bestInv.keep {vs ws : List Int} {j : Nat} {b : Int} {m : Bool} (h : bestInv vs ws j b m) (hj : j < vs.length) (hn : halfTo vs ws vs[j] → m = true ∧ b ≤ vs[j]) : bestInv vs ws (j + 1) b m := by
  refine ⟨fun e => ⟨(h.1 e).1, fun i hi hl => ?_⟩, fun e => ⟨(h.2 e).1, (h.2 e).2.1, fun i hi hl hh => ?_⟩⟩
  · rcases Nat.lt_or_eq_of_le (Nat.le_of_lt_succ hl) with h' | rfl
    · exact (h.1 e).2 i hi h'
    · intro hh; have := (hn hh).1; rw [e] at this; cases this
  · rcases Nat.lt_or_eq_of_le (Nat.le_of_lt_succ hl) with h' | rfl
    · exact (h.2 e).2.2 i hi h' hh
    · exact (hn hh).2
theorem bestInv.take {vs ws : List Int} {j : Nat} {b : Int} {m : Bool} (h : bestInv vs ws j b m) (hj : j < vs.length) (hh : halfTo vs ws vs[j]) (hn : m = true → vs[j] < b) : bestInv vs ws (j + 1) vs[j] true := by
  refine ⟨fun e => Bool.noConfusion e, fun _ => ⟨List.getElem_mem hj, hh, fun i hi hl h2 => ?_⟩⟩
  rcases Nat.lt_or_eq_of_le (Nat.le_of_lt_succ hl) with h' | rfl
  · by_cases e : m = true
    · have := (h.2 e).2.2 i hi h' h2; have := hn e; omega
    · exact absurd h2 ((h.1 (by simpa using e)).2 i hi h')
  · omega
theorem bestInv.done {vs ws : List Int} {b : Int} {m : Bool} (h : bestInv vs ws vs.length b m) (hne : 0 < vs.length) (hw : ∀ i, i < vs.length → 0 ≤ ws.getD i 0) : b = medOf vs ws := by
  obtain ⟨v, hv⟩ := med_exists (vs := vs) (ws := ws) (fun e => by rw [e] at hne; simp at hne) hw
  obtain ⟨i, hi, e⟩ := List.getElem_of_mem hv.1
  cases m with
  | false => exact absurd (by rw [e]; exact hv.2.1) ((h.1 rfl).2 i hi hi)
  | true =>
    obtain ⟨h1, h2, h3⟩ := h.2 rfl
    refine (medOf_eq ⟨h1, h2, fun u hu hh => ?_⟩).symm
    obtain ⟨j, hj, rfl⟩ := List.getElem_of_mem hu
    exact h3 j hj hj hh

set_option maxHeartbeats 3200000 in
theorem l23Median_any (vs ws : List Int) (A A' : Option Addr) (c c' : Nat) (w : World) (h : RdL w w.heap.size A 1 encInt vs) (h' : RdL w w.heap.size A' 1 encInt ws) (hl : vs.length ≤ 400) (hl0 : 0 < vs.length) (hlw : ws.length = vs.length) (hw : allIn ws 1 100) :
    Calls Try.prog 143 #[.slice A vs.length c, .slice A' ws.length c'] w fun e w' => e = .returned (.int .i64 (medOf vs ws)) ∧ w = w' := by
  have H := Lib.hid h
  have H' := Lib.hid h'
  have Hw := Lib.hid hw
  have hbd := Lib.hid (wAll_bd hw)
  have hbd2 := Lib.hid (fun v => wTo_bd (vs := vs) v hw)
  have hdone : Hid (∀ b m, bestInv vs ws vs.length b m → b = medOf vs ws) := Lib.hid (fun b m hb => hb.done hl0 (fun i hi => by have := allIn_getD hw (k := i) (by omega); omega))
  obtain ⟨S, hS⟩ : ∃ S : Nat → Int, Hid (S = wAll ws) := ⟨_, Lib.hid rfl⟩
  obtain ⟨R, hR⟩ : ∃ R : Int → Nat → Int, Hid (R = wTo vs ws) := ⟨_, Lib.hid rfl⟩
  obtain ⟨M, hM⟩ : ∃ M : Int, Hid (M = medOf vs ws) := ⟨_, Lib.hid rfl⟩
  rw [← hM.out] at hdone ⊢
  rw [← hS.out] at hbd
  have hbd2' : Hid (∀ v k, k ≤ ws.length → 0 ≤ R v k ∧ R v k ≤ 100 * k) := Lib.hid (by rw [hR.out]; exact hbd2.out)
  have hle1 : ws.length ≤ vs.length := by omega
  have hle2 : vs.length ≤ ws.length := by omega
  have Hlw := Lib.hid hlw
  clear h h' hw hlw hbd2
  go_enter Try.func143, Try.ntmps143
  go_wp2
  go_loop [5, 17] (fun s i => ∃ k : Nat, k ≤ ws.length ∧ i = .int .i64 k ∧ s = .int .i64 (S k)) (fun _ i => ws.length - (intOf i).toNat)
  case atStart => exact ⟨0, by omega, by rfl, by rw [hS.out]; rfl⟩
  case round =>
    obtain ⟨k, hk, rfl, rfl⟩ := hrel
    obtain ⟨b1, b2⟩ := hbd.out k hk
    have hst : Hid (S (k + 1) = S k + ws.getD k 0) := Lib.hid (by rw [hS.out]; exact wAll_succ ws k)
    generalize hT : S k = T at b1 b2 hst ⊢
    have HT := Lib.hid hT
    clear hT
    by_cases hlt : k < ws.length
    · have hx := Hw.out _ (List.getElem_mem hlt)
      have hst2 := hst.out
      rw [getD_get hlt] at hst2
      have Hst := Lib.hid hst2
      clear hst2 hst
      obtain ⟨qg, qoff, qA, qhg, qcell⟩ := H'.out.at (k := k) (by omega)
      have qr : w.cell? ⟨qg, qoff + k, none⟩ = some (.int .i64 (ws[k]'(by omega))) := by have := qcell 0 _ rfl; rw [Nat.mul_one] at this; exact this
      obtain ⟨qx, qh⟩ : ∃ x, Hid (ws[k]'(by omega) = x) := ⟨_, Lib.hid rfl⟩
      rw [qh.out] at qr
      clear qcell
      subst qA
      rw [qh.out] at hx Hst
      obtain ⟨hx1, hx2⟩ := hx
      go_wp2
      go_round
      case rel => exact ⟨k + 1, by omega, by go_num, by rw [Hst.out]⟩
      case measure => simp [intOf]; omega
    · obtain rfl : k = ws.length := by omega
      clear hst
      have hTw : Hid (T = wAll ws vs.length) := Lib.hid (by rw [← HT.out, hS.out, Hlw.out])
      clear HT
      go_wp2
      go_loop [8, 9, 27] (fun b m i => ∃ (k : Nat) (bb : Int) (mm : Bool), k ≤ vs.length ∧ i = .int .i64 k ∧ b = .int .i64 bb ∧ m = .bool mm ∧ Hid (bestInv vs ws k bb mm)) (fun _ _ i => vs.length - (intOf i).toNat)
      case atStart => exact ⟨0, 0, false, by omega, by rfl, rfl, rfl, Lib.hid (bestInv.start vs ws)⟩
      case round =>
        obtain ⟨k, bb, mm, hk, rfl, rfl, rfl, hinv⟩ := hrel
        by_cases hlt : k < vs.length
        · obtain ⟨qg, qoff, qA, qhg, qcell⟩ := H.out.at (k := k) (by omega)
          have qr : w.cell? ⟨qg, qoff + k, none⟩ = some (.int .i64 (vs[k]'(by omega))) := by have := qcell 0 _ rfl; rw [Nat.mul_one] at this; exact this
          obtain ⟨qx, qh⟩ : ∃ x, Hid (vs[k]'(by omega) = x) := ⟨_, Lib.hid rfl⟩
          rw [qh.out] at qr
          clear qcell
          subst qA
          go_wp2
          go_loop [12, 33] (fun s i => ∃ l : Nat, l ≤ vs.length ∧ i = .int .i64 l ∧ s = .int .i64 (R qx l)) (fun _ i => vs.length - (intOf i).toNat)
          case atStart => exact ⟨0, by omega, by rfl, by rw [hR.out]; rfl⟩
          case round =>
            obtain ⟨l, hll, rfl, rfl⟩ := hrel
            obtain ⟨c1, c2⟩ := hbd2'.out qx l (by omega)
            have hst : Hid (R qx (l + 1) = R qx l + if vs.getD l 0 ≤ qx then ws.getD l 0 else 0) := Lib.hid (by rw [hR.out]; exact wTo_succ vs ws qx l)
            generalize hT2 : R qx l = T2 at c1 c2 hst ⊢
            have HT2 := Lib.hid hT2
            clear hT2
            by_cases hlt2 : l < vs.length
            · have hlt3 : l < ws.length := by omega
              have hx := Hw.out _ (List.getElem_mem hlt3)
              have hst2 := hst.out
              rw [getD_get hlt2, getD_get hlt3] at hst2
              have Hst := Lib.hid hst2
              clear hst2 hst
              obtain ⟨rg, roff, rA, rhg, rcell⟩ := H.out.at (k := l) hlt2
              have rr : w.cell? ⟨rg, roff + l, none⟩ = some (.int .i64 vs[l]) := by have := rcell 0 _ rfl; rw [Nat.mul_one] at this; exact this
              obtain ⟨rx, rh⟩ : ∃ x, Hid (vs[l] = x) := ⟨_, Lib.hid rfl⟩
              rw [rh.out] at rr Hst
              simp only [Option.some.injEq, Addr.mk.injEq, and_true] at rA
              obtain ⟨rfl, rfl⟩ := rA
              clear rcell
              obtain ⟨sg, soff, sA, shg, scell⟩ := H'.out.at (k := l) (by omega)
              have sr : w.cell? ⟨sg, soff + l, none⟩ = some (.int .i64 (ws[l]'(by omega))) := by have := scell 0 _ rfl; rw [Nat.mul_one] at this; exact this
              obtain ⟨sx, sh⟩ : ∃ x, Hid (ws[l]'(by omega) = x) := ⟨_, Lib.hid rfl⟩
              rw [sh.out] at sr
              clear scell
              subst sA
              rw [sh.out] at hx Hst
              obtain ⟨hx1, hx2⟩ := hx
              by_cases c3 : rx ≤ qx
              · have Hst2 : Hid (R qx (l + 1) = T2 + sx) := Lib.hid (by rw [Hst.out, if_pos c3])
                clear Hst
                go_wp2
                go_round
                case rel => exact ⟨l + 1, by omega, by go_num, by rw [Hst2.out]⟩
                case measure => simp [intOf]; omega
              · have Hst2 : Hid (R qx (l + 1) = T2) := Lib.hid (by rw [Hst.out, if_neg c3]; omega)
                clear Hst
                go_wp2
                go_round
                case rel => exact ⟨l + 1, by omega, by go_num, by rw [Hst2.out]⟩
                case measure => simp [intOf]; omega
            · obtain rfl : l = vs.length := by omega
              clear hst
              have hhalf : Hid (halfTo vs ws (vs[k]'hlt) ↔ T ≤ 2 * T2) := Lib.hid (by unfold halfTo; rw [qh.out, hTw.out, ← HT2.out, hR.out])
              by_cases c4 : T ≤ 2 * T2
              · have Hh := Lib.hid (hhalf.out.2 c4)
                cases mm with
                | false =>
                  go_wp2
                  go_round
                  case rel => exact ⟨k + 1, _, _, by omega, by go_num, rfl, rfl, Lib.hid (by (rw [← qh.out]; exact hinv.out.take hlt Hh.out (fun e => by cases e)))⟩
                  case measure => simp [intOf]; omega
                | true =>
                  by_cases c5 : qx < bb
                  · skip
                    go_wp2
                    go_round
                    case rel => exact ⟨k + 1, _, _, by omega, by go_num, rfl, rfl, Lib.hid (by (rw [← qh.out]; exact hinv.out.take hlt Hh.out (fun _ => by rw [qh.out]; exact c5)))⟩
                    case measure => simp [intOf]; omega
                  · skip
                    go_wp2
                    go_round
                    case rel => exact ⟨k + 1, _, _, by omega, by go_num, rfl, rfl, Lib.hid (by exact hinv.out.keep hlt (fun _ => ⟨rfl, by rw [qh.out]; omega⟩))⟩
                    case measure => simp [intOf]; omega
              · have Hh := Lib.hid (fun x => c4 (hhalf.out.1 x))
                go_wp2
                go_round
                case rel => exact ⟨k + 1, _, _, by omega, by go_num, rfl, rfl, Lib.hid (by exact hinv.out.keep hlt (fun x => absurd x Hh.out))⟩
                case measure => simp [intOf]; omega
        · obtain rfl : k = vs.length := by omega
          go_wp2
          go_ret
          exact ⟨ret_int (hdone.out _ _ hinv.out), rfl⟩
end Go.Proofs.Ytdecjijldcbnjaa
