import Derived.Test.YtkegbbndmfnolaaGreatDoorMBandSlipsL02
import Derived.Test.YtkegbbndmfnolaaGreatDoorMBandSlipsL10
import Derived.Test.YtkegbbndmfnolaaGreatDoorMBandSlipsL05
import Derived.Deep.CutRange
/-
  The reader of choices: rows, texts that are spoilt.
-/
namespace Go.Proofs.YtkegbbndmfnolaaGreatDoor
open Go.RowKit
set_option linter.unusedVariables false
set_option linter.unusedSimpArgs false
set_option maxRecDepth 100000

def fct : Nat → Nat
  | 0 => 1
  | n + 1 => (n + 1) * fct n
theorem fct_pos : ∀ n, 1 ≤ fct n
  | 0 => Nat.le_refl _
  | n + 1 => by
    have := fct_pos n
    show 1 ≤ (n + 1) * fct n
    exact Nat.le_trans (show 1 ≤ 1 * 1 by omega) (Nat.mul_le_mul (by omega) this)
theorem fct_mono {m n : Nat} (h : m ≤ n) : fct m ≤ fct n := by
  induction n with
  | zero => obtain rfl : m = 0 := by omega
            exact Nat.le_refl _
  | succ n ih =>
    by_cases e : m = n + 1
    · rw [e]; exact Nat.le_refl _
    · refine Nat.le_trans (ih (by omega)) ?_
      show fct n ≤ (n + 1) * fct n
      exact Nat.le_mul_of_pos_left _ (by omega)
theorem fct_8 : fct 8 = 40320 := rfl
set_option maxHeartbeats 1600000 in
theorem l1Fact_any (n : Nat) (w : World) (hn : n ≤ 8) :
    Calls Tryz.prog 183 #[.int .i64 (n : Int)] w fun e w' => e = .returned (.int .i64 (fct n : Int)) ∧ w = w' := by
  have h8 := fct_mono hn
  rw [fct_8] at h8
  go_enter Tryz.func183, Tryz.ntmps183
  go_wp2
  go_loopw [0, 3] (fun a b wr => ∃ j c : Nat, j ≤ n ∧ a = .int .i64 j ∧ b = .int .i64 c ∧ c * fct j = fct n ∧ w = wr) (fun a _ _ => (intOf a).toNat)
  case atStart => exact ⟨n, 1, Nat.le_refl _, by rfl, by rfl, by omega, rfl⟩
  case round =>
    obtain ⟨j, c, hj, rfl, rfl, hc, rfl⟩ := hrel
    have hcf : c ≤ fct n := by rw [← hc]; exact Nat.le_mul_of_pos_right _ (fct_pos j)
    have Hc := Lib.hid hc
    clear hc
    by_cases h1 : 1 < j
    · obtain ⟨m, rfl⟩ : ∃ m, j = m + 1 := ⟨j - 1, by omega⟩
      have hd : decide ((1 : Int) < (m : Int) + 1) = true := by simp; omega
      have hcm : c * (m + 1) ≤ 40320 := by
        have := Hc.out
        have h2 : c * (m + 1) ≤ c * fct (m + 1) := Nat.mul_le_mul_left _ (by show m + 1 ≤ (m + 1) * fct m; exact Nat.le_mul_of_pos_right _ (fct_pos m))
        omega
      have hcmi : ((c : Int) * ((m : Int) + 1)) = ((c * (m + 1) : Nat) : Int) := by simp
      obtain ⟨d, hd2⟩ : ∃ d : Nat, Hid (c * (m + 1) = d) := ⟨_, Lib.hid rfl⟩
      have hcmi2 : ((c : Int) * ((m : Int) + 1)) = (d : Int) := by rw [hcmi, hd2.out]
      rw [hd2.out] at hcm
      clear hcmi
      go_wp2
      go_roundw
      case rel => exact ⟨m, d, by omega, by go_num, by rfl, by rw [← hd2.out, ← Hc.out, Nat.mul_assoc]; rfl, by first | rfl | trivial⟩
      case measure => simp [intOf]
    · have hd : decide ((1 : Int) < (j : Int)) = false := by simp; omega
      have hf : Hid (c = fct n) := Lib.hid (by
        have := Hc.out
        rcases (show j = 0 ∨ j = 1 by omega) with rfl | rfl
        · simpa [fct] using this
        · simpa [fct] using this)
      go_wp2
      go_ret
      exact ⟨by rw [hf.out]; rfl, rfl⟩
def strLen : Value → Nat
  | .string s => s.size
  | _ => 0
set_option maxHeartbeats 3200000 in
theorem rowOf_any (n k : Nat) (w : World) (h3 : 3 ≤ n) (h8 : n ≤ 8) (hk : k < fct n) :
    Calls Tryz.prog 182 #[.int .i64 (n : Int), .int .i64 (k : Int)] w fun e w' => ∃ s : ByteArray, e = .returned (.tuple #[.string s, .bool true]) ∧ s.size = n ∧ Below w.heap.size w w' := by
  have hf8 := fct_mono h8
  rw [fct_8] at hf8
  have e1 := B_t (show inB (n : Int) 3 8 from ⟨by omega, by omega⟩)
  have e2 := B_t (show inB (k : Int) 0 ((fct n : Int) - 1) from ⟨by omega, by omega⟩)
  have hr := roundsS_size (n := (n : Int)) (by omega) (by omega)
  go_enter Tryz.func182, Tryz.ntmps182
  go_wp2_with (first | (go_at_call 99; refine (l1In_any _ _ _ _).mono ?_; rintro e w' ⟨rfl, rfl⟩) | (go_at_call 183; refine (l1Fact_any n _ h8).mono ?_; rintro e w' ⟨rfl, rfl⟩) | (go_at_call 120; refine (l1Rounds_any (n : Int) _ (by omega) (by omega)).mono ?_; rintro e w' ⟨rfl, rfl⟩))
  obtain ⟨R, hR⟩ : ∃ R, Hid (roundsS (n : Int) = R) := ⟨_, Lib.hid rfl⟩
  rw [hR.out] at hr ⊢
  have HR := Lib.hid (show R.size = n by omega)
  clear hr e1 e2
  go_loopw [1, 6, 7] (fun a r o wr => ∃ (j k : Nat) (rr oo : ByteArray), j ≤ n ∧ k < fct j ∧ a = .int .i64 k ∧ r = .string rr ∧ o = .string oo ∧ rr.size = j ∧ oo.size + j = n ∧ Below w.heap.size w wr) (fun _ r _ _ => strLen r)
  case atStart => exact ⟨n, k, R, ⟨#[]⟩, Nat.le_refl _, hk, by rfl, by rfl, by rfl, HR.out, by show 0 + n = n; omega, Below.refl _ _⟩
  case round =>
    obtain ⟨j, k, rr, oo, hj, hk, rfl, rfl, rfl, hrr, hoo, hbl⟩ := hrel
    have Hb := Lib.hid hbl
    have Hoo := Lib.hid hoo
    clear hbl hoo HR
    by_cases h1 : 0 < rr.size
    · obtain ⟨m, rfl⟩ : ∃ m, j = m + 1 := ⟨j - 1, by omega⟩
      have Hrr := Lib.hid hrr
      have hd : decide (0 < rr.size) = true := decide_eq_true h1
      have hm7 : m ≤ 7 := by omega
      have hf1 := fct_pos m
      have hfm := fct_mono (show m ≤ 8 by omega)
      rw [fct_8] at hfm
      have hkk : k < (m + 1) * fct m := hk
      have hq : k / fct m < m + 1 := Nat.div_lt_of_lt_mul (by rw [Nat.mul_comm]; exact hkk)
      have hmod : k % fct m < fct m := Nat.mod_lt _ (by omega)
      have hfct : Hid (∀ W : World, Calls Tryz.prog 183 #[.int .i64 (m : Int)] W fun e w' => e = .returned (.int .i64 (fct m : Int)) ∧ W = w') := Lib.hid (fun W => l1Fact_any m W (by omega))
      obtain ⟨F, hF⟩ : ∃ F, Hid (fct m = F) := ⟨_, Lib.hid rfl⟩
      rw [hF.out] at hf1 hfm hq hmod hfct
      have hszi : (rr.size : Int) - 1 = (m : Int) := by omega
      obtain ⟨q, hqe⟩ : ∃ q, Hid (k / F = q) := ⟨_, Lib.hid rfl⟩
      rw [hqe.out] at hq
      have he : (k : Int) / (F : Int) = (q : Int) := by rw [← hqe.out]; simp
      obtain ⟨km, hkm⟩ : ∃ km, Hid (k % F = km) := ⟨_, Lib.hid rfl⟩
      have hem : (k : Int) % (F : Int) = (km : Int) := by rw [← hkm.out]; simp
      have hmod' : Hid (km < fct m) := Lib.hid (by rw [← hkm.out, hF.out]; exact hmod)
      have hqs : (q : Int) + 1 ≤ (rr.size : Int) := by omega
      have hqs0 : (q : Int) ≤ (rr.size : Int) := by omega
      have hqn : q + 1 ≤ rr.size := by omega
      have hse : (rr.extract q (q + 1)).size = 1 := by simp only [size_ext]; omega
      have hse2 : (rr.extract 0 q).size = q := by simp only [size_ext]; omega
      have hse3 : (rr.extract (q + 1) rr.size).size = rr.size - (q + 1) := by simp only [size_ext]; omega
      have hos : oo.size ≤ 8 := by have := Hoo.out; omega
      have hrs : rr.size ≤ 8 := by omega
      clear hk hkk hrr hmod
      go_wp2_with (go_at_call 183; refine (hfct.out _).mono ?_; rintro e w' ⟨rfl, rfl⟩)
      go_quiet (fail)
      go_wp2
      go_roundw
      case rel =>
        refine ⟨m, km, _, _, by omega, hmod'.out, by rw [hem], by rfl, by rfl, ?_, ?_, below_drewN Hb.out _⟩
        · simp only [size_app, size_ext]; omega
        · have := Hoo.out; simp only [size_app, size_ext]; omega
      case measure => simp only [strLen, size_app, size_ext]; omega
    · have hd : decide (0 < rr.size) = false := decide_eq_false h1
      have Hoo' : Hid (oo.size = n) := Lib.hid (by have := Hoo.out; omega)
      go_wp2
      go_ret2
      exact ⟨_, rfl, Hoo'.out, Hb.out⟩
set_option maxHeartbeats 1600000 in
theorem row_any (g K n : Nat) (w : World) (h : Cur w g K) (hK : K ≤ 100000000) (h3 : 3 ≤ n) (h8 : n ≤ 8) :
    Calls Tryz.prog 160 #[.pointer (some ⟨g, 0, none⟩), .int .i64 (n : Int)] w fun e w' => ∃ s : ByteArray, e = .returned (.string s) ∧ s.size = n ∧ Cur w' g (K + 2) ∧ Turn g w w' := by
  have H := Lib.hid h
  clear h
  have hf8 := fct_mono h8
  rw [fct_8] at hf8
  have hf1 := fct_pos n
  have hfct : Hid (∀ W : World, Calls Tryz.prog 183 #[.int .i64 (n : Int)] W fun e w' => e = .returned (.int .i64 (fct n : Int)) ∧ W = w') := Lib.hid (fun W => l1Fact_any n W (by omega))
  go_enter Tryz.func160, Tryz.ntmps160
  go_wp2_with (first | (go_at_call 183; refine (hfct.out _).mono ?_; rintro e w' ⟨rfl, rfl⟩) | (go_at_call 53; refine (pick_any g K (fct n : Int) _ H.out (by omega) (by omega)).mono ?_; rintro e w1 ⟨x, rfl, hx0, hx1, hc, ht⟩; have HC := Lib.hid hc; have HT := Lib.hid ht; clear hc ht; obtain ⟨k, rfl⟩ : ∃ k : Nat, x = (k : Int) := ⟨x.toNat, by omega⟩; have hk : k < fct n := (by omega)) | (go_at_call 182; refine (rowOf_any n k _ h3 h8 hk).mono ?_; rintro e w2 ⟨s, rfl, hs, hb⟩; have HS := Lib.hid hs; have HB := Lib.hid hb; clear hs hb))
  go_ret
  exact ⟨_, rfl, HS.out, HC.out.later HB.out, HT.out.then HB.out⟩
set_option maxHeartbeats 3200000 in
theorem spoilt_any (g K : Nat) (t wi : ByteArray) (w : World) (h : Cur w g K) (hK : K ≤ 10000000) (ht : t.size ≤ 900000) (hw0 : 0 < wi.size) (hw : wi.size ≤ 1000) :
    Calls Tryz.prog 88 #[.pointer (some ⟨g, 0, none⟩), .string t, .string wi] w fun e w' => ∃ s : ByteArray, e = .returned (.string s) ∧ s.size ≤ t.size + 2 ∧ Cur w' g (K + 30) ∧ Turn g w w' := by
  have H := Lib.hid h
  clear h
  go_enter Tryz.func88, Tryz.ntmps88
  go_wp2_with (go_at_call 53; refine (pick_any g K 2 _ H.out (by omega) (by omega)).mono ?_; rintro e w1 ⟨x, rfl, hx0, hx1, hc, ht⟩; have HC := Lib.hid hc; have HT := Lib.hid ht; clear hc ht; obtain ⟨k0, rfl⟩ : ∃ k : Nat, x = (k : Int) := ⟨x.toNat, by omega⟩; have hk0 : k0 ≤ 1 := (by omega); have hk0e : (1 : Int) + (k0 : Int) = ((k0 + 1 : Nat) : Int) := (by omega))
  go_loopw [1, 7, 8, 9] (fun a b _ _ wr => ∃ (q : Nat) (tt : ByteArray), q ≤ 2 ∧ a = .string tt ∧ b = .int .i64 q ∧ tt.size + q ≤ t.size + 2 ∧ Cur wr g (K + 20 - 8 * q) ∧ Turn g w wr) (fun _ b _ _ _ => (intOf b).toNat)
  case atStart => exact ⟨k0 + 1, t, by omega, by rfl, by go_num, by omega, HC.out.more (by omega), HT.out⟩
  case round =>
    obtain ⟨q, tt, hq, rfl, rfl, hts, hcur, htn⟩ := hrel
    have Hc := Lib.hid hcur
    have Ht := Lib.hid htn
    clear hcur htn HC HT
    by_cases h1 : 0 < q
    · obtain ⟨p, rfl⟩ : ∃ p, q = p + 1 := ⟨q - 1, by omega⟩
      have hd1 : decide (0 < (p : Int) + 1) = true := decide_eq_true (by omega)
      by_cases h2 : 0 < tt.size
      · have hd2 : decide (0 < tt.size) = true := decide_eq_true h2
        have hlt := Hc.out.lt
        go_upto_region 5 with (go_at_call 53; refine (pick_any g _ (tt.size : Int) _ Hc.out (by omega) (by omega)).mono ?_; rintro e w2 ⟨x2, rfl, hx20, hx21, hc, ht⟩; have HC2 := Lib.hid hc; have HT2 := Lib.hid (Ht.out.trans ht); clear hc ht)
        obtain ⟨i, rfl⟩ : ∃ i : Nat, x2 = (i : Int) := ⟨x2.toNat, by omega⟩
        have hi : i < tt.size := by omega
        have hii : (i : Int) < (tt.size : Int) := by omega
        go_upto_region 6 with (go_at_call 53; refine (pick_any g _ (wi.size : Int) _ HC2.out (by omega) (by omega)).mono ?_; rintro e w3 ⟨x3, rfl, hx30, hx31, hc, ht⟩; have HC3 := Lib.hid hc; have HT3 := Lib.hid (HT2.out.trans ht); clear hc ht; obtain ⟨i3, rfl⟩ : ∃ i : Nat, x3 = (i : Int) := ⟨x3.toNat, by omega⟩; have hi3 : i3 < wi.size := (by omega); have hi3i : (i3 : Int) < (wi.size : Int) := (by omega))
        have hb3 : Below w3.heap.size w3 (w3.alloc (.cells #[.int .u8 (bat wi i3)] 5)) := (Below.refl _ _).alloc (Nat.le_refl _) _
        have HC4 := Lib.hid (HC3.out.later hb3)
        have HT4 := Lib.hid (HT3.out.then hb3)
        generalize w3.alloc (.cells #[.int .u8 (bat wi i3)] 5) = w4 at *
        obtain ⟨W1, hW1⟩ : ∃ W1, Hid (mkS [bat wi i3] = W1) := ⟨_, Lib.hid rfl⟩
        have hW1s : W1.size = 1 := by rw [← hW1.out, size_mkS]; rfl
        rw [hW1.out]
        have hse1 : (tt.extract 0 i).size = i := by simp only [size_ext]; omega
        have hse2 : (tt.extract i tt.size).size = tt.size - i := by simp only [size_ext]; omega
        have hse3 : (tt.extract (i + 1) tt.size).size = tt.size - (i + 1) := by simp only [size_ext]; omega
        have hi1 : (i : Int) + 1 ≤ (tt.size : Int) := by omega
        have hi0 : (i : Int) ≤ (tt.size : Int) := by omega
        have hts9 : tt.size ≤ 900002 := by omega
        clear HC2 HC3 HT2 HT3
        go_upto_region 8 with (go_at_call 53; refine (pick_any g _ 3 _ HC4.out (by omega) (by omega)).mono ?_; rintro e w5 ⟨x5, rfl, hx50, hx51, hc, ht⟩; have HC5 := Lib.hid hc; have HT5 := Lib.hid (HT4.out.trans ht); clear hc ht)
        by_cases e0 : x5 = 0
        · have d0 : (x5 == 0) = true := beq_iff_eq.2 e0
          clear e0
          go_wp2
          go_quiet (fail)
          go_wp2
          go_roundw
          case rel => exact ⟨p, _, by omega, by rfl, by go_num, by simp only [size_app, hse1, hse2, hW1s]; omega, (HC5.out.later (below_drewN (Below.refl _ _) _)).more (by omega), HT5.out.then (below_drewN (Below.refl _ _) _)⟩
          case measure => simp [intOf]
        · have d0 : (x5 == 0) = false := beq_eq_false_iff_ne.2 e0
          by_cases e1 : x5 = 1
          · have d1 : (x5 == 1) = true := beq_iff_eq.2 e1
            clear e0 e1
            go_wp2
            go_quiet (fail)
            go_wp2
            go_roundw
            case rel => exact ⟨p, _, by omega, by rfl, by go_num, by simp only [size_app, hse1, hse3, hW1s]; omega, (HC5.out.later (below_drewN (Below.refl _ _) _)).more (by omega), HT5.out.then (below_drewN (Below.refl _ _) _)⟩
            case measure => simp [intOf]
          · have d1 : (x5 == 1) = false := beq_eq_false_iff_ne.2 e1
            clear e0 e1
            go_wp2
            go_quiet (fail)
            go_wp2
            go_roundw
            case rel => exact ⟨p, _, by omega, by rfl, by go_num, by simp only [size_app, hse1, hse3]; omega, (HC5.out.later (below_drewN (Below.refl _ _) _)).more (by omega), HT5.out.then (below_drewN (Below.refl _ _) _)⟩
            case measure => simp [intOf]
      · have hd2 : decide (0 < tt.size) = false := decide_eq_false h2
        go_wp2
        go_ret
        exact ⟨tt, rfl, by omega, Hc.out.more (by omega), Ht.out⟩
    · obtain rfl : q = 0 := by omega
      go_wp2
      go_ret
      exact ⟨tt, rfl, by omega, Hc.out.more (by omega), Ht.out⟩
set_option maxHeartbeats 1600000 in
theorem anyRow_any (g K : Nat) (w : World) (h : Cur w g K) (hK : K ≤ 1000000) :
    Calls Tryz.prog 129 #[.pointer (some ⟨g, 0, none⟩)] w fun e w' => ∃ s : ByteArray, e = .returned (.string s) ∧ s.size ≤ 10 ∧ Cur w' g (K + 40) ∧ Turn g w w' := by
  have H := Lib.hid h
  clear h
  go_enter Tryz.func129, Tryz.ntmps129
  go_upto_region 2 with (first | (go_at_call 161; refine (stage_any g K _ H.out (by omega)).mono ?_; rintro e w1 ⟨x, rfl, hx, hc, ht⟩; have HC := Lib.hid hc; have HT := Lib.hid ht; clear hc ht; obtain ⟨n, rfl⟩ : ∃ k : Nat, x = (k : Int) := ⟨x.toNat, by omega⟩; have hn3 : 3 ≤ n := (by omega); have hn8 : n ≤ 8 := (by omega)) | (go_at_call 160; refine (row_any g (K + 2) n _ HC.out (by omega) hn3 hn8).mono ?_; rintro e w2 ⟨s, rfl, hs, hc, ht⟩; have HC2 := Lib.hid hc; have HT2 := Lib.hid (HT.out.trans ht); have HS := Lib.hid hs; clear hc ht hs))
  have hsz : s.size ≤ 8 := by have := HS.out; omega
  go_upto_region 3 with (go_at_call 55; refine (one_any g _ 12 _ HC2.out (by omega) (by omega)).mono ?_; rintro e w3 ⟨b, rfl, hc, ht⟩; have HC3 := Lib.hid hc; have HT3 := Lib.hid (HT2.out.trans ht); clear hc ht; cases b)
  · go_wp2
    go_ret
    exact ⟨s, rfl, by omega, HC3.out.more (by omega), HT3.out⟩
  · go_wp2_with (go_at_call 88; refine (spoilt_any g _ s _ _ HC3.out (by omega) (by omega) (by decide) (by decide)).mono ?_; rintro e w4 ⟨s2, rfl, hs2, hc, ht⟩)
    go_ret
    exact ⟨s2, rfl, by omega, hc.more (by omega), HT3.out.trans ht⟩
end Go.Proofs.YtkegbbndmfnolaaGreatDoor
