/-
  FnPlacing: both sides agree; the best placing passes the check with its prices, and what passes the check is best.
-/
import Derived.Test.YtpedfjcidbopiaaPlacingQ
import Derived.Test.YtpedfjcidbopiaaCurCheck
import Derived.Test.YtpedfjcidbopiaaSame
import Derived.Test.YtpedfjcidbopiaaRow
import Derived.Test.YtpedfjcidbopiaaFaPlacing
namespace Go.Proofs.Ytpedfjcidbopiaa
open Go.RowKit Go.ChangeShapes Go.WideShapes Go.Deep
set_option linter.unusedVariables false
set_option linter.unusedSimpArgs false
set_option maxRecDepth 100000

theorem of_Bt {p : Prop} (h : B p = true) : p := by
  by_cases hp : p
  · exact hp
  · rw [B_f hp] at h; cases h
theorem of_Bf {p : Prop} (h : B p = false) : ¬ p := fun hp => by rw [B_t hp] at h; cases h


set_option maxHeartbeats 8000000 in
theorem placingLaw (w : World) (l : List Int) (A : Option Addr) (c : Nat) (h : RdL w w.heap.size A 1 encByte l) (hl : l.length ≤ 9223372036854775807) (hb : ∀ x ∈ l, Byte_small 9223372036854775807 x) (l' : List Int) (A' : Option Addr) (c' : Nat) (h' : RdL w w.heap.size A' 1 encByte l') (hl' : l'.length ≤ 9223372036854775807) (hb' : ∀ x ∈ l', Byte_small 9223372036854775807 x) :
    Calls Try.prog 3 #[.slice A l.length c, .slice A' l'.length c'] w fun e w' => e = .returned (.bool true) ∧ Below w.heap.size w w' := by
  have H := Lib.hid h
  have Hb := Lib.hid hb
  have H' := Lib.hid h'
  have Hb' := Lib.hid hb'
  clear h hb h' hb'
  obtain ⟨N, hN⟩ : ∃ N : Bool, decide ((1048576 : Int) < wrap64 ((l.length : Int) + (l'.length : Int))) = N := ⟨_, rfl⟩
  cases N
  rotate_left
  · go_enter Try.func3, Try.ntmps3
    go_wp2
    go_ret
    exact ⟨rfl, Below.refl _ _⟩
  go_enter Try.func3, Try.ntmps3
  go_upto_region 4 with (go_at_call 6; refine (drawBestPlacing_any A c l _ H.out Hb.out hl).mono ?_; rintro e w1 ⟨A1, c1, D, n, rfl, hps, hp, hb1⟩; have HP := Lib.hid hp; have HA := Lib.hid hps; have BW1 := Lib.hid hb1; clear hps hp hb1)
  clear hN
  obtain ⟨L, hL⟩ : ∃ L, Hid (D.map Psn.key = L) := ⟨_, Lib.hid rfl⟩
  have hLl : Hid (L.length = D.length) := Lib.hid (by rw [← hL.out]; simp)
  have hsm : Hid (∀ x ∈ L, Person_small 1048576 x) := Lib.hid (by rw [← hL.out]; exact small_ps HA.out.2.2.2)
  have hRd : Hid (∀ W, Below w1.heap.size w1 W → RdP W W.heap.size A1 L) := Lib.hid fun W hb => by rw [← hL.out]; exact (HP.out.below hb (Nat.le_refl _)).more hb.size
  have hDl : D.length ≤ 1048576 := by have := HA.out.1; omega
  have hDc : D.length ≤ c1 := HA.out.2.1
  obtain ⟨BE, hBE⟩ : ∃ x, Hid (bestR L n = x) := ⟨_, Lib.hid rfl⟩
  obtain ⟨PR, hPR⟩ : ∃ x, Hid (priceR L n = x) := ⟨_, Lib.hid rfl⟩
  obtain ⟨b1, hb1⟩ : ∃ x, Hid (B (bestP L n) = x) := ⟨_, Lib.hid rfl⟩
  obtain ⟨bp, hbp⟩ : ∃ x, Hid (B (peopleP L n) = x) := ⟨_, Lib.hid rfl⟩
  have hBEl : Hid (BE.length ≤ 7) := Lib.hid (by rw [← hBE.out]; exact bestR_bd _ _)
  have hPRl : Hid (PR.length ≤ 7) := Lib.hid (by rw [← hPR.out]; exact priceR_bd _ _)
  have hIB : Hid (∀ W, Below w1.heap.size w1 W → Calls Try.prog 7 #[.slice A1 D.length c1, .int .i64 n] W fun e w' => ∃ A2 c2, e = .returned (.tuple #[.slice A2 BE.length c2, .bool b1]) ∧ BE.length ≤ c2 ∧ RdL w' w'.heap.size A2 1 encInt BE ∧ Below W.heap.size W w') := Lib.hid fun W hb => by
    have := iBest_r L A1 c1 n W (hRd.out W hb) (by rw [hLl.out]; exact hDl) (by rw [hLl.out]; exact hDc) hsm.out
    rw [hLl.out, hBE.out, hb1.out] at this; exact this
  have hSB : Hid (∀ W, Below w1.heap.size w1 W → Calls Try.prog 8 #[.slice A1 D.length c1, .int .i64 n] W fun e w' => ∃ A2 c2, e = .returned (.tuple #[.slice A2 BE.length c2, .bool b1]) ∧ BE.length ≤ c2 ∧ RdL w' w'.heap.size A2 1 encInt BE ∧ Below W.heap.size W w') := Lib.hid fun W hb => by
    have := sBest_r L A1 c1 n W (hRd.out W hb) (by rw [hLl.out]; exact hDl) (by rw [hLl.out]; exact hDc) hsm.out
    rw [hLl.out, hBE.out, hb1.out] at this; exact this
  have hIP : Hid (∀ W, Below w1.heap.size w1 W → Calls Try.prog 9 #[.slice A1 D.length c1, .int .i64 n] W fun e w' => ∃ A2 c2, e = .returned (.tuple #[.slice A2 PR.length c2, .bool b1]) ∧ RdL w' w'.heap.size A2 1 encInt PR ∧ Below W.heap.size W w') := Lib.hid fun W hb => by
    have := iPrices_r L A1 c1 n W (hRd.out W hb) (by rw [hLl.out]; exact hDl) (by rw [hLl.out]; exact hDc) hsm.out
    rw [hLl.out, hPR.out, hb1.out] at this; exact this
  have hSP : Hid (∀ W, Below w1.heap.size w1 W → Calls Try.prog 10 #[.slice A1 D.length c1, .int .i64 n] W fun e w' => ∃ A2 c2, e = .returned (.tuple #[.slice A2 PR.length c2, .bool b1]) ∧ RdL w' w'.heap.size A2 1 encInt PR ∧ Below W.heap.size W w') := Lib.hid fun W hb => by
    have := sPrices_r L A1 c1 n W (hRd.out W hb) (by rw [hLl.out]; exact hDl) (by rw [hLl.out]; exact hDc) hsm.out
    rw [hLl.out, hPR.out, hb1.out] at this; exact this
  have hIE : Hid (∀ W, Below w1.heap.size w1 W → Calls Try.prog 17 #[.slice A1 D.length c1, .int .i64 n] W fun e w' => e = .returned (.bool bp) ∧ Below W.heap.size W w') := Lib.hid fun W hb => by
    have := iPeople_any L A1 c1 n W (hRd.out W hb) (by rw [hLl.out]; exact hDl) (by rw [hLl.out]; exact hDc) hsm.out
    rw [hLl.out, hbp.out] at this; exact this
  have hSE : Hid (∀ W, Below w1.heap.size w1 W → Calls Try.prog 18 #[.slice A1 D.length c1, .int .i64 n] W fun e w' => e = .returned (.bool bp) ∧ Below W.heap.size W w') := Lib.hid fun W hb => by
    have := sPeople_any L A1 c1 n W (hRd.out W hb) (by rw [hLl.out]; exact hDl) (by rw [hLl.out]; exact hDc) hsm.out
    rw [hLl.out, hbp.out] at this; exact this
  go_upto_region 9 with (first
    | (go_at_call 7; refine (hIB.out w1 (Below.refl _ _)).mono ?_; rintro e w2 ⟨A2, c2, rfl, hc2, hr2, hb2⟩; have HB2 := Lib.hid hb2; have R2 := Lib.hid hr2; clear hb2 hr2)
    | (go_at_call 8; refine (hSB.out w2 HB2.out).mono ?_; rintro e w3 ⟨A3, c3, rfl, hc3, hr3, hb3⟩; have HB3 := Lib.hid (HB2.out.trans (hb3.mono HB2.out.size)); have K3 := Lib.hid hb3; have R3 := Lib.hid hr3; clear hb3 hr3)
    | (go_at_call 9; refine (hIP.out w3 HB3.out).mono ?_; rintro e w4 ⟨A4, c4, rfl, hr4, hb4⟩; have HB4 := Lib.hid (HB3.out.trans (hb4.mono HB3.out.size)); have K4 := Lib.hid hb4; have R4 := Lib.hid hr4; clear hb4 hr4)
    | (go_at_call 10; refine (hSP.out w4 HB4.out).mono ?_; rintro e w5 ⟨A5, c5, rfl, hr5, hb5⟩; have HB5 := Lib.hid (HB4.out.trans (hb5.mono HB4.out.size)); have K5 := Lib.hid hb5; have R5 := Lib.hid hr5; clear hb5 hr5)
    | (go_at_call 11; refine (drawCheckPlacing_any A' c' l' _ ((H'.out.below (BW1.out.trans (HB5.out.mono BW1.out.size)) (Nat.le_refl _)).more (BW1.out.trans (HB5.out.mono BW1.out.size)).size) Hb'.out hl').mono ?_; rintro e w6 ⟨A6, c6, E, m, A7, c7, who, A8, c8, ps, rfl, hps, hw7, hwc, hp9, hr6, hr7, hr8, hb6⟩; have HB6 := Lib.hid (HB5.out.trans (hb6.mono HB5.out.size)); have K6 := Lib.hid hb6; have R6 := Lib.hid hr6; have R7 := Lib.hid hr7; have R8 := Lib.hid hr8; have HE := Lib.hid hps; clear hb6 hr6 hr7 hr8 hps))
  obtain ⟨M, hM⟩ : ∃ M, Hid (E.map Psn.key = M) := ⟨_, Lib.hid rfl⟩
  have hMl : Hid (M.length = E.length) := Lib.hid (by rw [← hM.out]; simp)
  have hsmM : Hid (∀ x ∈ M, Person_small 1048576 x) := Lib.hid (by rw [← hM.out]; exact small_ps HE.out.2.2.2)
  have hRdM : Hid (∀ W, Below w6.heap.size w6 W → RdP W W.heap.size A6 M) := Lib.hid fun W hb => by rw [← hM.out]; exact (R6.out.below hb (Nat.le_refl _)).more hb.size
  have hR7 : Hid (∀ W, Below w6.heap.size w6 W → RdL W W.heap.size A7 1 encInt who) := Lib.hid fun W hb => (R7.out.below hb (Nat.le_refl _)).more hb.size
  have hR8 : Hid (∀ W, Below w6.heap.size w6 W → RdL W W.heap.size A8 1 encInt ps) := Lib.hid fun W hb => (R8.out.below hb (Nat.le_refl _)).more hb.size
  have hEl : E.length ≤ 1048576 := by have := HE.out.1; omega
  have hEc : E.length ≤ c6 := HE.out.2.1
  obtain ⟨bc, hbc⟩ : ∃ x, Hid (B (checkP M m who ps) = x) := ⟨_, Lib.hid rfl⟩
  obtain ⟨bf, hbf⟩ : ∃ x, Hid (B (checkP M m who ps ∧ fairP M who ps) = x) := ⟨_, Lib.hid rfl⟩
  obtain ⟨bl, hbl⟩ : ∃ x, Hid (B (placingP M m who) = x) := ⟨_, Lib.hid rfl⟩
  obtain ⟨SK, hSK⟩ : ∃ x, Hid (skillR M m who = x) := ⟨_, Lib.hid rfl⟩
  have hIC : Hid (∀ W, Below w6.heap.size w6 W → Calls Try.prog 12 #[.slice A6 E.length c6, .int .i64 m, .slice A7 who.length c7, .slice A8 ps.length c8] W fun e w' => e = .returned (.tuple #[.bool bf, .bool bc]) ∧ Below W.heap.size W w') := Lib.hid fun W hb => by
    have := iCheck_r M who ps A6 A7 A8 c6 c7 c8 m W (hRdM.out W hb) (hR7.out W hb) (hR8.out W hb) (by rw [hMl.out]; exact hEl) (by rw [hMl.out]; exact hEc) hsmM.out (by omega) hwc (by omega)
    rw [hMl.out, hbc.out, hbf.out] at this; exact this
  have hSC : Hid (∀ W, Below w6.heap.size w6 W → Calls Try.prog 13 #[.slice A6 E.length c6, .int .i64 m, .slice A7 who.length c7, .slice A8 ps.length c8] W fun e w' => e = .returned (.tuple #[.bool bf, .bool bc]) ∧ Below W.heap.size W w') := Lib.hid fun W hb => by
    have := sCheck_r M who ps A6 A7 A8 c6 c7 c8 m W (hRdM.out W hb) (hR7.out W hb) (hR8.out W hb) (by rw [hMl.out]; exact hEl) (by rw [hMl.out]; exact hEc) hsmM.out (by omega) hwc (by omega)
    rw [hMl.out, hbc.out, hbf.out] at this; exact this
  have hIS : Hid (∀ W, Below w6.heap.size w6 W → Calls Try.prog 14 #[.slice A6 E.length c6, .int .i64 m, .slice A7 who.length c7] W fun e w' => e = .returned (.tuple #[.int .i64 SK, .bool bl]) ∧ Below W.heap.size W w') := Lib.hid fun W hb => by
    have := iSkillOf_r M who A6 A7 c6 c7 m W (hRdM.out W hb) (hR7.out W hb) (by rw [hMl.out]; exact hEl) (by rw [hMl.out]; exact hEc) hsmM.out (by omega) hwc
    rw [hMl.out, hbl.out, hSK.out] at this; exact this
  have hSS : Hid (∀ W, Below w6.heap.size w6 W → Calls Try.prog 15 #[.slice A6 E.length c6, .int .i64 m, .slice A7 who.length c7] W fun e w' => e = .returned (.tuple #[.int .i64 SK, .bool bl]) ∧ Below W.heap.size W w') := Lib.hid fun W hb => by
    have := sSkillOf_r M who A6 A7 c6 c7 m W (hRdM.out W hb) (hR7.out W hb) (by rw [hMl.out]; exact hEl) (by rw [hMl.out]; exact hEc) hsmM.out (by omega) hwc
    rw [hMl.out, hbl.out, hSK.out] at this; exact this
  have hIG : Hid (∀ W, Below w6.heap.size w6 W → Calls Try.prog 19 #[.slice A6 E.length c6, .int .i64 m, .slice A7 who.length c7] W fun e w' => e = .returned (.bool bl) ∧ Below W.heap.size W w') := Lib.hid fun W hb => by
    have := iPlacing_any M who A6 A7 c6 c7 m W (hRdM.out W hb) (hR7.out W hb) (by rw [hMl.out]; exact hEl) (by rw [hMl.out]; exact hEc) hsmM.out (by omega) hwc
    rw [hMl.out, hbl.out] at this; exact this
  go_upto_region 13 with (first
    | (go_at_call 12; refine (hIC.out w6 (Below.refl _ _)).mono ?_; rintro e w7 ⟨rfl, hb7⟩; have HB7 := Lib.hid hb7; clear hb7)
    | (go_at_call 13; refine (hSC.out w7 HB7.out).mono ?_; rintro e w8 ⟨rfl, hb8⟩; have HB8 := Lib.hid (HB7.out.trans (hb8.mono HB7.out.size)); clear hb8)
    | (go_at_call 14; refine (hIS.out w8 HB8.out).mono ?_; rintro e w9 ⟨rfl, hb9⟩; have HB9 := Lib.hid (HB8.out.trans (hb9.mono HB8.out.size)); clear hb9)
    | (go_at_call 15; refine (hSS.out w9 HB9.out).mono ?_; rintro e w10 ⟨rfl, hb10⟩; have HB10 := Lib.hid (HB9.out.trans (hb10.mono HB9.out.size)); clear hb10))
  have HA10 := Lib.hid (HB6.out.trans (HB10.out.mono HB6.out.size))
  have Q2 : Hid (∀ W, Below w6.heap.size w6 W → RdL W W.heap.size A2 1 encInt BE) := Lib.hid fun W hb => by
    have t2 := K3.out.trans ((K4.out.trans ((K5.out.trans ((K6.out.trans (hb.mono K6.out.size)).mono K5.out.size)).mono K4.out.size)).mono K3.out.size)
    exact (R2.out.below t2 (Nat.le_refl _)).more t2.size
  have Q3 : Hid (∀ W, Below w6.heap.size w6 W → RdL W W.heap.size A3 1 encInt BE) := Lib.hid fun W hb => by
    have t2 := K4.out.trans ((K5.out.trans ((K6.out.trans (hb.mono K6.out.size)).mono K5.out.size)).mono K4.out.size)
    exact (R3.out.below t2 (Nat.le_refl _)).more t2.size
  have Q4 : Hid (∀ W, Below w6.heap.size w6 W → RdL W W.heap.size A4 1 encInt PR) := Lib.hid fun W hb => by
    have t2 := K5.out.trans ((K6.out.trans (hb.mono K6.out.size)).mono K5.out.size)
    exact (R4.out.below t2 (Nat.le_refl _)).more t2.size
  have Q5 : Hid (∀ W, Below w6.heap.size w6 W → RdL W W.heap.size A5 1 encInt PR) := Lib.hid fun W hb => by
    have t2 := K6.out.trans (hb.mono K6.out.size)
    exact (R5.out.below t2 (Nat.le_refl _)).more t2.size
  have HW6 : Hid (∀ W, Below w6.heap.size w6 W → Below w1.heap.size w1 W) := Lib.hid fun W hb => HB6.out.trans (hb.mono HB6.out.size)
  go_upto_region 15 with (first
    | (go_at_call 16; with_reducible show Calls _ _ #[Value.slice A2 _ _, _] _ _; refine (qSameN_t BE A2 A3 c2 c3 _ (Q2.out _ HB10.out) (Q3.out _ HB10.out) (by have := hBEl.out; omega)).mono ?_; rintro e wa ⟨rfl, na, rfl⟩; have HBa := Lib.hid (below_drewN HB10.out na))
    | (go_at_call 16; with_reducible show Calls _ _ #[Value.slice A4 _ _, _] _ _; refine (qSameN_t PR A4 A5 c4 c5 _ (Q4.out _ HBa.out) (Q5.out _ HBa.out) (by have := hPRl.out; omega)).mono ?_; rintro e wb ⟨rfl, nb, rfl⟩; have HBb := Lib.hid (below_drewN HB10.out (na + nb)))
    | (go_at_call 17; refine (hIE.out _ (HW6.out _ HBb.out)).mono ?_; rintro e w11 ⟨rfl, hb11⟩; have HB11 := Lib.hid (HBb.out.trans (hb11.mono HBb.out.size)); clear hb11)
    | (go_at_call 18; refine (hSE.out w11 (HW6.out _ HB11.out)).mono ?_; rintro e w12 ⟨rfl, hb12⟩; have HB12 := Lib.hid (HB11.out.trans (hb12.mono HB11.out.size)); clear hb12)
    | (go_at_call 19; refine (hIG.out w12 HB12.out).mono ?_; rintro e w13 ⟨rfl, hb13⟩; have HB13 := Lib.hid (HB12.out.trans (hb13.mono HB12.out.size)); clear hb13))
  have HB13w := Lib.hid (HW6.out _ HB13.out)
  cases bc
  · cases b1
    · go_wp2
      go_ret
      exact ⟨rfl, BW1.out.trans (HB13w.out.mono BW1.out.size)⟩
    · obtain ⟨wX, rfl⟩ : ∃ wX, wX = w13 := ⟨w13, rfl⟩
      have HBX := HB13
      have hbest := of_Bt hb1.out
      obtain ⟨g1, g2, g3⟩ := place_good hbest
      rw [← priceR_t hbest, ← bestR_t hbest, hBE.out, hPR.out] at g2 g3
      rw [← bestR_t hbest, hBE.out] at g1
      have hIC2 : Hid (∀ W, Below w6.heap.size w6 W → Calls Try.prog 12 #[.slice A1 D.length c1, .int .i64 n, .slice A2 BE.length c2, .slice A4 PR.length c4] W fun e w' => e = .returned (.tuple #[.bool true, .bool true]) ∧ Below W.heap.size W w') := Lib.hid fun W hb => by
        have := iCheck_t L BE PR A1 A2 A4 c1 c2 c4 n W (hRd.out W (HW6.out W hb)) (Q2.out W hb) (Q4.out W hb) (by rw [hLl.out]; exact hDl) (by rw [hLl.out]; exact hDc) hsm.out (by have := hBEl.out; omega) hc2 (by have := hPRl.out; omega) g2
        rw [hLl.out, B_t g3] at this; exact this
      have hIG2 : Hid (∀ W, Below w6.heap.size w6 W → Calls Try.prog 19 #[.slice A1 D.length c1, .int .i64 n, .slice A2 BE.length c2] W fun e w' => e = .returned (.bool true) ∧ Below W.heap.size W w') := Lib.hid fun W hb => by
        have := iPlacing_any L BE A1 A2 c1 c2 n W (hRd.out W (HW6.out W hb)) (Q2.out W hb) (by rw [hLl.out]; exact hDl) (by rw [hLl.out]; exact hDc) hsm.out (by have := hBEl.out; omega) hc2
        rw [hLl.out, B_t g1] at this; exact this
      clear hbest g1 g2 g3
      go_wp2_with (first
        | (go_at_call 12; refine (hIC2.out wX HBX.out).mono ?_; rintro e wy ⟨rfl, hby⟩; have HBY := Lib.hid (HBX.out.trans (hby.mono HBX.out.size)); clear hby)
        | (go_at_call 19; refine (hIG2.out wy HBY.out).mono ?_; rintro e wz ⟨rfl, hbz⟩; have HBZ := Lib.hid (HBY.out.trans (hbz.mono HBY.out.size)); clear hbz))
      go_ret
      exact ⟨rfl, BW1.out.trans ((HW6.out _ HBZ.out).mono BW1.out.size)⟩
  · cases bf
    · cases b1
      · go_wp2
        go_ret
        exact ⟨rfl, BW1.out.trans (HB13w.out.mono BW1.out.size)⟩
      · obtain ⟨wX, rfl⟩ : ∃ wX, wX = w13 := ⟨w13, rfl⟩
        have HBX := HB13
        have hbest := of_Bt hb1.out
        obtain ⟨g1, g2, g3⟩ := place_good hbest
        rw [← priceR_t hbest, ← bestR_t hbest, hBE.out, hPR.out] at g2 g3
        rw [← bestR_t hbest, hBE.out] at g1
        have hIC2 : Hid (∀ W, Below w6.heap.size w6 W → Calls Try.prog 12 #[.slice A1 D.length c1, .int .i64 n, .slice A2 BE.length c2, .slice A4 PR.length c4] W fun e w' => e = .returned (.tuple #[.bool true, .bool true]) ∧ Below W.heap.size W w') := Lib.hid fun W hb => by
          have := iCheck_t L BE PR A1 A2 A4 c1 c2 c4 n W (hRd.out W (HW6.out W hb)) (Q2.out W hb) (Q4.out W hb) (by rw [hLl.out]; exact hDl) (by rw [hLl.out]; exact hDc) hsm.out (by have := hBEl.out; omega) hc2 (by have := hPRl.out; omega) g2
          rw [hLl.out, B_t g3] at this; exact this
        have hIG2 : Hid (∀ W, Below w6.heap.size w6 W → Calls Try.prog 19 #[.slice A1 D.length c1, .int .i64 n, .slice A2 BE.length c2] W fun e w' => e = .returned (.bool true) ∧ Below W.heap.size W w') := Lib.hid fun W hb => by
          have := iPlacing_any L BE A1 A2 c1 c2 n W (hRd.out W (HW6.out W hb)) (Q2.out W hb) (by rw [hLl.out]; exact hDl) (by rw [hLl.out]; exact hDc) hsm.out (by have := hBEl.out; omega) hc2
          rw [hLl.out, B_t g1] at this; exact this
        clear hbest g1 g2 g3
        go_wp2_with (first
          | (go_at_call 12; refine (hIC2.out wX HBX.out).mono ?_; rintro e wy ⟨rfl, hby⟩; have HBY := Lib.hid (HBX.out.trans (hby.mono HBX.out.size)); clear hby)
          | (go_at_call 19; refine (hIG2.out wy HBY.out).mono ?_; rintro e wz ⟨rfl, hbz⟩; have HBZ := Lib.hid (HBY.out.trans (hbz.mono HBY.out.size)); clear hbz))
        go_ret
        exact ⟨rfl, BW1.out.trans ((HW6.out _ HBZ.out).mono BW1.out.size)⟩
    · obtain ⟨hck, hfr⟩ := of_Bt hbf.out
      obtain ⟨t1, t2, t3⟩ := place_top hck hfr
      have t4 : SK = skillR M m who := hSK.out.symm
      rw [skillR_t hck.1, ← t3] at t4
      obtain ⟨BB, hBB⟩ : ∃ x, Hid (bestR M m = x) := ⟨_, Lib.hid rfl⟩
      have hBBe : best M m.toNat [] = BB := by rw [← bestR_t t1]; exact hBB.out
      have hBBl : BB.length ≤ 7 := by rw [← hBB.out]; exact bestR_bd _ _
      rw [hBBe] at t2 t4
      have hIB2 : Hid (∀ W, Below w6.heap.size w6 W → Calls Try.prog 7 #[.slice A6 E.length c6, .int .i64 m] W fun e w' => ∃ A2 c2, e = .returned (.tuple #[.slice A2 BB.length c2, .bool true]) ∧ BB.length ≤ c2 ∧ RdL w' w'.heap.size A2 1 encInt BB ∧ Below W.heap.size W w') := Lib.hid fun W hb => by
        have := iBest_r M A6 c6 m W (hRdM.out W hb) (by rw [hMl.out]; exact hEl) (by rw [hMl.out]; exact hEc) hsmM.out
        rw [hMl.out, hBB.out, B_t t1] at this; exact this
      have hIS2 : Hid (∀ W A9 c9, Below w6.heap.size w6 W → RdL W W.heap.size A9 1 encInt BB → BB.length ≤ c9 → Calls Try.prog 14 #[.slice A6 E.length c6, .int .i64 m, .slice A9 BB.length c9] W fun e w' => e = .returned (.tuple #[.int .i64 SK, .bool true]) ∧ Below W.heap.size W w') := Lib.hid fun W A9 c9 hb hr hc => by
        have := iSkillOf_t M BB A6 A9 c6 c9 m W (hRdM.out W hb) hr (by rw [hMl.out]; exact hEl) (by rw [hMl.out]; exact hEc) hsmM.out (by omega) hc t2
        rw [hMl.out, ← t4] at this; exact this
      clear t1 t2 t3 t4 hck hfr hBBe
      go_upto_region 20 with (first
        | (go_at_call 7; refine (hIB2.out w13 HB13.out).mono ?_; rintro e w14 ⟨A9, c9, rfl, hc9, hr9, hb14⟩; have HB14 := Lib.hid (HB13.out.trans (hb14.mono HB13.out.size)); have R9 := Lib.hid hr9; clear hb14 hr9)
        | (go_at_call 14; refine (hIS2.out w14 A9 c9 HB14.out R9.out hc9).mono ?_; rintro e wX ⟨rfl, hb15⟩; have HBX := Lib.hid (HB14.out.trans (hb15.mono HB14.out.size)); clear hb15))
      have HBXw := Lib.hid (HW6.out _ HBX.out)
      cases b1
      · go_wp2
        go_ret
        exact ⟨rfl, BW1.out.trans (HBXw.out.mono BW1.out.size)⟩
      · have hbest := of_Bt hb1.out
        obtain ⟨g1, g2, g3⟩ := place_good hbest
        rw [← priceR_t hbest, ← bestR_t hbest, hBE.out, hPR.out] at g2 g3
        rw [← bestR_t hbest, hBE.out] at g1
        have hIC2 : Hid (∀ W, Below w6.heap.size w6 W → Calls Try.prog 12 #[.slice A1 D.length c1, .int .i64 n, .slice A2 BE.length c2, .slice A4 PR.length c4] W fun e w' => e = .returned (.tuple #[.bool true, .bool true]) ∧ Below W.heap.size W w') := Lib.hid fun W hb => by
          have := iCheck_t L BE PR A1 A2 A4 c1 c2 c4 n W (hRd.out W (HW6.out W hb)) (Q2.out W hb) (Q4.out W hb) (by rw [hLl.out]; exact hDl) (by rw [hLl.out]; exact hDc) hsm.out (by have := hBEl.out; omega) hc2 (by have := hPRl.out; omega) g2
          rw [hLl.out, B_t g3] at this; exact this
        have hIG2 : Hid (∀ W, Below w6.heap.size w6 W → Calls Try.prog 19 #[.slice A1 D.length c1, .int .i64 n, .slice A2 BE.length c2] W fun e w' => e = .returned (.bool true) ∧ Below W.heap.size W w') := Lib.hid fun W hb => by
          have := iPlacing_any L BE A1 A2 c1 c2 n W (hRd.out W (HW6.out W hb)) (Q2.out W hb) (by rw [hLl.out]; exact hDl) (by rw [hLl.out]; exact hDc) hsm.out (by have := hBEl.out; omega) hc2
          rw [hLl.out, B_t g1] at this; exact this
        clear hbest g1 g2 g3
        go_wp2_with (first
          | (go_at_call 12; refine (hIC2.out wX HBX.out).mono ?_; rintro e wy ⟨rfl, hby⟩; have HBY := Lib.hid (HBX.out.trans (hby.mono HBX.out.size)); clear hby)
          | (go_at_call 19; refine (hIG2.out wy HBY.out).mono ?_; rintro e wz ⟨rfl, hbz⟩; have HBZ := Lib.hid (HBY.out.trans (hbz.mono HBY.out.size)); clear hbz))
        go_ret
        exact ⟨rfl, BW1.out.trans ((HW6.out _ HBZ.out).mono BW1.out.size)⟩
namespace fnPlacing
open Go.ChangeShapes Go.WideShapes Go.ChangeAt Go.RowKit Go.Deep
open Go.ChangeMaps (open_string shut_string)
theorem own : ownKnob Try.prog.godebug = none := by kernel_rfl
theorem laid : laidOutB Try.prog = true := by kernel_rfl
theorem reads : Try.f3.params.toList.all (fun t => Try.prog.readableRec t && decide (t < Try.prog.types.size)) = true := by kernel_rfl
set_option maxRecDepth 100000 in
theorem lifted (os : Os) (started : os.Started) (H : Type) (enc : TypeId × Value → H) :
    ReturnsInHanded {} Try.checked os 3 .any (Rows.fnPlacingSpec.pre6 enc Try.prog Try.f3 Rows.fnPlacingRow.domain false) (Rows.fnPlacingSpec.post enc Try.prog Try.f3 false true false false) := by
  refine returnsInHanded_of_change (C := Try.checked) own started (by kernel_rfl) Try.func3
    (ChangeSpec.witness6 (enc := enc) (C := Try.checked) false ⟨#[], #[.slice none 0 0, .slice none 0 0], []⟩ 8 (by kernel_rfl) (by kernel_rfl) (by kernel_rfl) (by kernel_rfl)) ?_
  intro W base args ds gs before hval0 hW hcnd _
  have hval : ∀ (j : Nat) t v, Try.f3.params[j]? = some t → args[j]? = some v → Value.okWide Try.prog W .any base t v := hval0
  have hW' := hW
  obtain ⟨p, q, hA0, hV, rfl, hfz, hnd⟩ := hW
  have hA : DataW.TrodAll enc Try.prog W 0 (fun _ => true) true Try.f3.params.toList args.toList ds p := hA0
  rw [Try.params3] at hA hval
  obtain ⟨rfl, rfl⟩ := trodVars_none hV
  have hlt : ∀ x ∈ p, x.block < W.heap.size := fun x hx => by simpa using hW'.lt x (List.mem_append.2 (.inl hx))
  clear hA0 hval0
  obtain ⟨v0, vs0, d0, ds0, p0, q0, hargs, rfl, rfl, h0, r0⟩ := trodAll_cons hA
  obtain ⟨v1, vs1, d1, ds1, p1, q1, rfl, rfl, rfl, h1, r1⟩ := trodAll_cons r0
  obtain ⟨rfl, rfl, rfl⟩ := trodAll_nil r1
  obtain rfl : args = #[v0, v1] := by cases args; simp_all
  clear hargs
  obtain ⟨A0, a0, c0, rfl, y0, x0, z0⟩ := open_list Try.underlying22 1 (by kernel_rfl) (by omega) encByte _ Byte_el (hval 0 22 v0 rfl rfl) h0
  obtain ⟨A1, a1, c1, rfl, y1, x1, z1⟩ := open_list Try.underlying22 1 (by kernel_rfl) (by omega) encByte _ Byte_el (hval 1 22 v1 rfl rfl) h1
  refine (placingLaw W a0 A0 c0 x0 (by unfold maxLen at y0; omega) z0 a1 A1 c1 x1 (by unfold maxLen at y1; omega) z1).mono fun e W' ⟨he, hg⟩ => ?_
  subst he
  exact ⟨_, rfl, law_post laid reads rfl Try.underlying4 rfl rfl hW' hg⟩
theorem over : Rows.fnPlacingRow.holds Try.pinned (OpenSpec.ofChange Rows.fnPlacingSpec) :=
  OpenClaim.holds_of_wide 3 Try.f3 rfl rfl rfl rfl rfl rfl rfl ⟨rfl, rfl, rfl, rfl, rfl⟩ rfl rfl rfl rfl rfl (by kernel_rfl) Try.func3 facts
    (of_decide_eq_true (by kernel_rfl)) (by unfold Func.isWrapper; first | (rw [if_pos (by decide +kernel)]; kernel_rfl) | (rw [if_neg (by decide +kernel)]; exact ⟨rfl, rfl⟩))
    (fun os started H enc _ => lifted os started H enc)
theorem proved : Rows.FnPlacingSaid := over
end fnPlacing
end Go.Proofs.Ytpedfjcidbopiaa
