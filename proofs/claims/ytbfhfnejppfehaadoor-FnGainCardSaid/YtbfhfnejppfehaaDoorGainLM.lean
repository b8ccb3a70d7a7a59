import Derived.Test.YtbfhfnejppfehaaDoorMGainL36
import Derived.Test.YtbfhfnejppfehaaDoorMGainL38
import Derived.Test.YtbfhfnejppfehaaDoorMGainL39
/-
  FnGain: both sides agree; a placing's text is read back; no exchange gains on the best placing. The tied card.
-/
namespace Go.Proofs.YtbfhfnejppfehaaDoor
open Go.RowKit Go.ChangeShapes Go.WideShapes Go.Deep
set_option linter.unusedVariables false
set_option linter.unusedSimpArgs false
set_option maxRecDepth 100000

theorem of_Bt {p : Prop} (h : B p = true) : p := by
  by_cases hp : p
  · exact hp
  · rw [B_f hp] at h; cases h


set_option maxHeartbeats 8000000 in
theorem gainLaw (w : World) (l : List Int) (A : Option Addr) (c : Nat) (h : RdL w w.heap.size A 1 encByte l) (hl : l.length ≤ 9223372036854775807) (hb : ∀ x ∈ l, Byte_small 9223372036854775807 x) (l' : List Int) (A' : Option Addr) (c' : Nat) (h' : RdL w w.heap.size A' 1 encByte l') (hl' : l'.length ≤ 9223372036854775807) (hb' : ∀ x ∈ l', Byte_small 9223372036854775807 x) (htab : TabM w) :
    Calls Tryd.prog 4 #[.slice A l.length c, .slice A' l'.length c'] w fun e w' => e = .returned (.bool true) ∧ Below w.heap.size w w' := by
  have H := Lib.hid h
  have Hb := Lib.hid hb
  have H' := Lib.hid h'
  have Hb' := Lib.hid hb'
  have Htab := Lib.hid htab
  clear h hb h' hb' htab
  obtain ⟨N, hN⟩ : ∃ N : Bool, decide ((1048576 : Int) < wrap64 ((l.length : Int) + (l'.length : Int))) = N := ⟨_, rfl⟩
  cases N
  rotate_left
  · go_enter Tryd.func4, Tryd.ntmps4
    go_wp2
    go_ret
    exact ⟨rfl, Below.refl _ _⟩
  go_enter Tryd.func4, Tryd.ntmps4
  go_upto_region 4 with (go_at_call 16; refine (drawGainOf_any A c l _ H.out Hb.out hl).mono ?_; rintro e w1 ⟨A1, c1, D, n, A2, c2, who, i, j, rfl, hps, hw7, hwc, hp, hr, hb1⟩; have HP := Lib.hid hp; have HA := Lib.hid hps; have HW := Lib.hid hr; have BW1 := Lib.hid hb1; clear hps hp hr hb1)
  clear hN
  obtain ⟨L, hL⟩ : ∃ L, Hid (D.map Psn.key = L) := ⟨_, Lib.hid rfl⟩
  have hLl : Hid (L.length = D.length) := Lib.hid (by rw [← hL.out]; simp)
  have hLs : Hid (∀ x ∈ L, Person_small 1048576 x) := Lib.hid (by rw [← hL.out]; exact small_ps HA.out.2.2.2)
  have hLr : Hid (∀ W, Below w1.heap.size w1 W → RdP W W.heap.size A1 L) := Lib.hid fun W hb => by rw [← hL.out]; exact (HP.out.below hb (Nat.le_refl _)).more hb.size
  have hLn : D.length ≤ 1048576 := by have := HA.out.1; omega
  have hLc : D.length ≤ c1 := HA.out.2.1
  have hWr : Hid (∀ W, Below w1.heap.size w1 W → RdL W W.heap.size A2 1 encInt who) := Lib.hid fun W hb => (HW.out.below hb (Nat.le_refl _)).more hb.size
  obtain ⟨BE, hBE⟩ : ∃ x, Hid (bestR L n = x) := ⟨_, Lib.hid rfl⟩
  obtain ⟨b1, hb1⟩ : ∃ x, Hid (B (bestP L n) = x) := ⟨_, Lib.hid rfl⟩
  obtain ⟨G, hG⟩ : ∃ x, Hid (gainR L n who i j = x) := ⟨_, Lib.hid rfl⟩
  obtain ⟨bg, hbg⟩ : ∃ x, Hid (B (gainP L n who i j) = x) := ⟨_, Lib.hid rfl⟩
  have hBEl : Hid (BE.length ≤ 7) := Lib.hid (by rw [← hBE.out]; exact bestR_bd _ _)
  have hIB : Hid (∀ W, Below w1.heap.size w1 W → Calls Tryd.prog 26 #[.slice A1 D.length c1, .int .i64 n] W fun e w' => ∃ A2 c2, e = .returned (.tuple #[.slice A2 BE.length c2, .bool b1]) ∧ BE.length ≤ c2 ∧ RdL w' w'.heap.size A2 1 encInt BE ∧ Below W.heap.size W w') := Lib.hid fun W hb => by
    have := iBest_r L A1 c1 n W (hLr.out W hb) (by rw [hLl.out]; exact hLn) (by rw [hLl.out]; exact hLc) hLs.out
    rw [hLl.out, hBE.out, hb1.out] at this; exact this
  have hIG : Hid (∀ W, Below w1.heap.size w1 W → Calls Tryd.prog 17 #[.slice A1 D.length c1, .int .i64 n, .slice A2 who.length c2, .int .i64 i, .int .i64 j] W fun e w' => e = .returned (.tuple #[.int .i64 G, .bool bg]) ∧ Below W.heap.size W w') := Lib.hid fun W hb => by
    have := iGainOf_r L who A1 A2 c1 c2 n i j W (hLr.out W hb) (hWr.out W hb) (by rw [hLl.out]; exact hLn) (by rw [hLl.out]; exact hLc) hLs.out (by omega) hwc
    rw [hLl.out, hG.out, hbg.out] at this; exact this
  have hSG : Hid (∀ W, Below w1.heap.size w1 W → Calls Tryd.prog 18 #[.slice A1 D.length c1, .int .i64 n, .slice A2 who.length c2, .int .i64 i, .int .i64 j] W fun e w' => e = .returned (.tuple #[.int .i64 G, .bool bg]) ∧ Below W.heap.size W w') := Lib.hid fun W hb => by
    have := sGainOf_r L who A1 A2 c1 c2 n i j W (hLr.out W hb) (hWr.out W hb) (by rw [hLl.out]; exact hLn) (by rw [hLl.out]; exact hLc) hLs.out (by omega) hwc
    rw [hLl.out, hG.out, hbg.out] at this; exact this
  go_upto_region 7 with (first
    | (go_at_call 17; refine (hIG.out w1 (Below.refl _ _)).mono ?_; rintro e w2 ⟨rfl, hb2⟩; have HB2 := Lib.hid hb2; clear hb2)
    | (go_at_call 18; refine (hSG.out w2 HB2.out).mono ?_; rintro e w3 ⟨rfl, hb3⟩; have HB3 := Lib.hid (HB2.out.trans (hb3.mono HB2.out.size)); clear hb3)
    | (go_at_call 19; refine (drawPlacingText_any A' c' l' _ ((H'.out.below (BW1.out.trans (HB3.out.mono BW1.out.size)) (Nat.le_refl _)).more (BW1.out.trans (HB3.out.mono BW1.out.size)).size) Hb'.out hl').mono ?_; rintro e w4 ⟨A4, c4, E, m, A5, c5, pl, rfl, hps, hp7, hpc, hp, hr, hb4⟩; have HP4 := Lib.hid hp; have HA4 := Lib.hid hps; have HW4 := Lib.hid hr; have HB4 := Lib.hid (HB3.out.trans (hb4.mono HB3.out.size)); clear hps hp hr hb4))
  have BW4 := Lib.hid (BW1.out.trans (HB4.out.mono BW1.out.size))
  obtain ⟨M, hM⟩ : ∃ L, Hid (E.map Psn.key = L) := ⟨_, Lib.hid rfl⟩
  have hMl : Hid (M.length = E.length) := Lib.hid (by rw [← hM.out]; simp)
  have hMs : Hid (∀ x ∈ M, Person_small 1048576 x) := Lib.hid (by rw [← hM.out]; exact small_ps HA4.out.2.2.2)
  have hMr : Hid (∀ W, Below w4.heap.size w4 W → RdP W W.heap.size A4 M) := Lib.hid fun W hb => by rw [← hM.out]; exact (HP4.out.below hb (Nat.le_refl _)).more hb.size
  have hMn : E.length ≤ 1048576 := by have := HA4.out.1; omega
  have hMc : E.length ≤ c4 := HA4.out.2.1
  have hPr : Hid (∀ W, Below w4.heap.size w4 W → RdL W W.heap.size A5 1 encInt pl) := Lib.hid fun W hb => (HW4.out.below hb (Nat.le_refl _)).more hb.size
  obtain ⟨T, hT⟩ : ∃ x, Hid (textR M m pl = x) := ⟨_, Lib.hid rfl⟩
  obtain ⟨bt, hbt⟩ : ∃ x, Hid (B (placingP M m pl) = x) := ⟨_, Lib.hid rfl⟩
  have hT154 : T.size ≤ 154 := by rw [← hT.out]; exact textR_bd _ _ _
  have hIT : Hid (∀ W, Below w4.heap.size w4 W → Calls Tryd.prog 20 #[.slice A4 E.length c4, .int .i64 m, .slice A5 pl.length c5] W fun e w' => e = .returned (.tuple #[.string T, .bool bt]) ∧ Below W.heap.size W w') := Lib.hid fun W hb => by
    have := iPlacingText_r M pl A4 A5 c4 c5 m W (hMr.out W hb) (hPr.out W hb) (by rw [hMl.out]; exact hMn) (by rw [hMl.out]; exact hMc) hMs.out (by omega) hpc (Htab.out.later (BW4.out.trans (hb.mono BW4.out.size))).1
    rw [hMl.out, hT.out, hbt.out] at this; exact this
  have hST : Hid (∀ W, Below w4.heap.size w4 W → Calls Tryd.prog 21 #[.slice A4 E.length c4, .int .i64 m, .slice A5 pl.length c5] W fun e w' => e = .returned (.tuple #[.string T, .bool bt]) ∧ Below W.heap.size W w') := Lib.hid fun W hb => by
    have := sPlacingText_r M pl A4 A5 c4 c5 m W (hMr.out W hb) (hPr.out W hb) (by rw [hMl.out]; exact hMn) (by rw [hMl.out]; exact hMc) hMs.out (by omega) hpc (Htab.out.later (BW4.out.trans (hb.mono BW4.out.size))).1
    rw [hMl.out, hT.out, hbt.out] at this; exact this
  have hIRM : Hid (bt = true → ∀ W, Below w4.heap.size w4 W → Calls Tryd.prog 23 #[.slice A4 E.length c4, .int .i64 m, .string T] W fun e w' => ∃ A2 c2, e = .returned (.tuple #[.slice A2 pl.length c2, .bool true]) ∧ RdL w' w'.heap.size A2 1 encInt pl ∧ Below W.heap.size W w') := Lib.hid fun hbt2 W hb => by
    have hpl := of_Bt (hbt.out.trans hbt2)
    have ht := text_back hpl
    rw [hT.out] at ht
    have := iReadPlacing_r M A4 c4 m T W (hMr.out W hb) (by rw [hMl.out]; exact hMn) (by rw [hMl.out]; exact hMc) hMs.out (by omega) (Htab.out.later (BW4.out.trans (hb.mono BW4.out.size)))
    rw [hMl.out, readR_t ht, B_t ⟨_, ht⟩] at this; exact this
  go_upto_region 10 with (first
    | (go_at_call 20; refine (hIT.out w4 (Below.refl _ _)).mono ?_; rintro e w5 ⟨rfl, hb5⟩; have HB5 := Lib.hid hb5; clear hb5)
    | (go_at_call 21; refine (hST.out w5 HB5.out).mono ?_; rintro e w6 ⟨rfl, hb6⟩; have HB6 := Lib.hid (HB5.out.trans (hb6.mono HB5.out.size)); clear hb6)
    | (go_at_call 22; refine (drawReadPlacing_any A' c' l' _ ((H'.out.below (BW4.out.trans (HB6.out.mono BW4.out.size)) (Nat.le_refl _)).more (BW4.out.trans (HB6.out.mono BW4.out.size)).size) Hb'.out hl' (Htab.out.later (BW4.out.trans (HB6.out.mono BW4.out.size))).1).mono ?_; rintro e w7 ⟨A7, c7, F, v, s, rfl, hps, hs, hp, hb7⟩; have HP7 := Lib.hid hp; have HA7 := Lib.hid hps; have HB7 := Lib.hid (HB6.out.trans (hb7.mono HB6.out.size)); clear hps hp hb7))
  have BW7 := Lib.hid (BW4.out.trans (HB7.out.mono BW4.out.size))
  obtain ⟨K, hK⟩ : ∃ L, Hid (F.map Psn.key = L) := ⟨_, Lib.hid rfl⟩
  have hKl : Hid (K.length = F.length) := Lib.hid (by rw [← hK.out]; simp)
  have hKs : Hid (∀ x ∈ K, Person_small 1048576 x) := Lib.hid (by rw [← hK.out]; exact small_ps HA7.out.2.2.2)
  have hKr : Hid (∀ W, Below w7.heap.size w7 W → RdP W W.heap.size A7 K) := Lib.hid fun W hb => by rw [← hK.out]; exact (HP7.out.below hb (Nat.le_refl _)).more hb.size
  have hKn : F.length ≤ 1048576 := by have := HA7.out.1; omega
  have hKc : F.length ≤ c7 := HA7.out.2.1
  obtain ⟨RR, hRR⟩ : ∃ x, Hid (readR K v s = x) := ⟨_, Lib.hid rfl⟩
  obtain ⟨br, hbr⟩ : ∃ x, Hid (B (∃ who, TxtP K v who s) = x) := ⟨_, Lib.hid rfl⟩
  have hRRl : Hid (RR.length ≤ 7) := Lib.hid (by rw [← hRR.out]; exact readR_bd _ _ _)
  have hIR : Hid (∀ W, Below w7.heap.size w7 W → Calls Tryd.prog 23 #[.slice A7 F.length c7, .int .i64 v, .string s] W fun e w' => ∃ A2 c2, e = .returned (.tuple #[.slice A2 RR.length c2, .bool br]) ∧ RdL w' w'.heap.size A2 1 encInt RR ∧ Below W.heap.size W w') := Lib.hid fun W hb => by
    have := iReadPlacing_r K A7 c7 v s W (hKr.out W hb) (by rw [hKl.out]; exact hKn) (by rw [hKl.out]; exact hKc) hKs.out (by omega) (Htab.out.later (BW7.out.trans (hb.mono BW7.out.size)))
    rw [hKl.out, hRR.out, hbr.out] at this; exact this
  have hSR : Hid (∀ W, Below w7.heap.size w7 W → Calls Tryd.prog 24 #[.slice A7 F.length c7, .int .i64 v, .string s] W fun e w' => ∃ A2 c2, e = .returned (.tuple #[.slice A2 RR.length c2, .bool br]) ∧ RdL w' w'.heap.size A2 1 encInt RR ∧ Below W.heap.size W w') := Lib.hid fun W hb => by
    have := sReadPlacing_r K A7 c7 v s W (hKr.out W hb) (by rw [hKl.out]; exact hKn) (by rw [hKl.out]; exact hKc) hKs.out (by omega) (Htab.out.later (BW7.out.trans (hb.mono BW7.out.size)))
    rw [hKl.out, hRR.out, hbr.out] at this; exact this
  go_upto_region 14 with (first
    | (go_at_call 23; refine (hIR.out w7 (Below.refl _ _)).mono ?_; rintro e w8 ⟨A8, c8, rfl, hr8, hb8⟩; have HB8 := Lib.hid hb8; have R8 := Lib.hid hr8; clear hb8 hr8)
    | (go_at_call 24; refine (hSR.out w8 HB8.out).mono ?_; rintro e w9 ⟨A9, c9, rfl, hr9, hb9⟩; have HB9 := Lib.hid (HB8.out.trans (hb9.mono HB8.out.size)); have R9 := Lib.hid hr9; have R89 := Lib.hid ((R8.out.below hb9 (Nat.le_refl _)).more hb9.size); clear hb9 hr9)
    | (go_at_call 25; refine (qSameN_t RR A8 A9 c8 c9 _ R89.out R9.out (by have := hRRl.out; omega)).mono ?_; rintro e wa ⟨rfl, na, rfl⟩; have HBa := Lib.hid (below_drewN HB9.out na)))
  have HBa4 := Lib.hid (HB7.out.trans (HBa.out.mono HB7.out.size))
  have HBa1 := Lib.hid (HB4.out.trans (HBa4.out.mono HB4.out.size))
  have HBaw := Lib.hid (BW7.out.trans (HBa.out.mono BW7.out.size))
  cases bt
  · cases b1
    · go_wp2_with (go_at_call 26; refine (hIB.out _ HBa1.out).mono ?_; rintro e wx ⟨Ax, cx, rfl, hcx, hrx, hbx⟩; have HBx := Lib.hid (HBaw.out.trans (hbx.mono HBaw.out.size)); clear hbx hrx)
      go_ret
      exact ⟨rfl, HBx.out⟩
    · have hbest := of_Bt hb1.out
      obtain ⟨b2, hb2⟩ : ∃ x, Hid (B (gainP L n BE i j) = x) := ⟨_, Lib.hid rfl⟩
      obtain ⟨G2, hG2⟩ : ∃ x, Hid (gainR L n BE i j = x) := ⟨_, Lib.hid rfl⟩
      have hG0 : G2 ≤ 0 := by
        rw [← hG2.out]
        by_cases hg : gainP L n BE i j
        · rw [gainR_t hg]
          have hg2 : gainP L n (bestR L n) i j := by rw [hBE.out]; exact hg
          have := gain_best hbest hg2
          rw [hBE.out] at this; exact this
        · rw [gainR_f hg]; exact Int.le_refl _
      have hG0d : decide (G2 ≤ 0) = true := decide_eq_true hG0
      have hIG2 : Hid (∀ W Ax cx, Below w1.heap.size w1 W → RdL W W.heap.size Ax 1 encInt BE → BE.length ≤ cx → Calls Tryd.prog 17 #[.slice A1 D.length c1, .int .i64 n, .slice Ax BE.length cx, .int .i64 i, .int .i64 j] W fun e w' => e = .returned (.tuple #[.int .i64 G2, .bool b2]) ∧ Below W.heap.size W w') := Lib.hid fun W Ax cx hb hr hc => by
        have := iGainOf_r L BE A1 Ax c1 cx n i j W (hLr.out W hb) hr (by rw [hLl.out]; exact hLn) (by rw [hLl.out]; exact hLc) hLs.out (by have := hBEl.out; omega) hc
        rw [hLl.out, hG2.out, hb2.out] at this; exact this
      obtain ⟨ij, hij⟩ : ∃ x : Bool, (i == j) = x := ⟨_, rfl⟩
      clear hbest hG0
      cases ij
      · cases b2
        · go_wp2_with (first
            | (go_at_call 26; refine (hIB.out _ HBa1.out).mono ?_; rintro e wx ⟨Ax, cx, rfl, hcx, hrx, hbx⟩; have HBx := Lib.hid (HBaw.out.trans (hbx.mono HBaw.out.size)); have HRx := Lib.hid hrx; have HBx1 := Lib.hid ((HBa1.out).trans (hbx.mono (HBa1.out).size)); clear hbx hrx)
            | (go_at_call 17; refine (hIG2.out wx Ax cx HBx1.out HRx.out hcx).mono ?_; rintro e wy ⟨rfl, hby⟩; have HBy := Lib.hid (HBx.out.trans (hby.mono HBx.out.size)); clear hby))
          go_ret
          exact ⟨rfl, HBy.out⟩
        · go_wp2_with (first
            | (go_at_call 26; refine (hIB.out _ HBa1.out).mono ?_; rintro e wx ⟨Ax, cx, rfl, hcx, hrx, hbx⟩; have HBx := Lib.hid (HBaw.out.trans (hbx.mono HBaw.out.size)); have HRx := Lib.hid hrx; have HBx1 := Lib.hid ((HBa1.out).trans (hbx.mono (HBa1.out).size)); clear hbx hrx)
            | (go_at_call 17; refine (hIG2.out wx Ax cx HBx1.out HRx.out hcx).mono ?_; rintro e wy ⟨rfl, hby⟩; have HBy := Lib.hid (HBx.out.trans (hby.mono HBx.out.size)); clear hby))
          go_ret
          exact ⟨rfl, HBy.out⟩
      · go_wp2_with (go_at_call 26; refine (hIB.out _ HBa1.out).mono ?_; rintro e wx ⟨Ax, cx, rfl, hcx, hrx, hbx⟩; have HBx := Lib.hid (HBaw.out.trans (hbx.mono HBaw.out.size)); clear hbx hrx)
        go_ret
        exact ⟨rfl, HBx.out⟩
  · have hT200 : decide ((T.size : Int) ≤ 200) = true := by simp; omega
    have hIRM2 := Lib.hid (hIRM.out rfl)
    go_upto_region 18 with (first
      | (go_at_call 23; refine (hIRM2.out _ HBa4.out).mono ?_; rintro e wb ⟨Ab, cb, rfl, hrb, hbb⟩; have HBb4 := Lib.hid (HBa4.out.trans (hbb.mono HBa4.out.size)); have Rb := Lib.hid hrb; clear hbb hrb)
      | (go_at_call 25; refine (qSameN_t pl Ab A5 cb c5 _ Rb.out (hPr.out _ HBb4.out) (by omega)).mono ?_; rintro e wc ⟨rfl, nc, rfl⟩; have HBc4 := Lib.hid (below_drewN HBb4.out nc)))
    have HBc1 := Lib.hid (HB4.out.trans (HBc4.out.mono HB4.out.size))
    have HBcw := Lib.hid (BW4.out.trans (HBc4.out.mono BW4.out.size))
    cases b1
    · go_wp2_with (go_at_call 26; refine (hIB.out _ HBc1.out).mono ?_; rintro e wx ⟨Ax, cx, rfl, hcx, hrx, hbx⟩; have HBx := Lib.hid (HBcw.out.trans (hbx.mono HBcw.out.size)); clear hbx hrx)
      go_ret
      exact ⟨rfl, HBx.out⟩
    · have hbest := of_Bt hb1.out
      obtain ⟨b2, hb2⟩ : ∃ x, Hid (B (gainP L n BE i j) = x) := ⟨_, Lib.hid rfl⟩
      obtain ⟨G2, hG2⟩ : ∃ x, Hid (gainR L n BE i j = x) := ⟨_, Lib.hid rfl⟩
      have hG0 : G2 ≤ 0 := by
        rw [← hG2.out]
        by_cases hg : gainP L n BE i j
        · rw [gainR_t hg]
          have hg2 : gainP L n (bestR L n) i j := by rw [hBE.out]; exact hg
          have := gain_best hbest hg2
          rw [hBE.out] at this; exact this
        · rw [gainR_f hg]; exact Int.le_refl _
      have hG0d : decide (G2 ≤ 0) = true := decide_eq_true hG0
      have hIG2 : Hid (∀ W Ax cx, Below w1.heap.size w1 W → RdL W W.heap.size Ax 1 encInt BE → BE.length ≤ cx → Calls Tryd.prog 17 #[.slice A1 D.length c1, .int .i64 n, .slice Ax BE.length cx, .int .i64 i, .int .i64 j] W fun e w' => e = .returned (.tuple #[.int .i64 G2, .bool b2]) ∧ Below W.heap.size W w') := Lib.hid fun W Ax cx hb hr hc => by
        have := iGainOf_r L BE A1 Ax c1 cx n i j W (hLr.out W hb) hr (by rw [hLl.out]; exact hLn) (by rw [hLl.out]; exact hLc) hLs.out (by have := hBEl.out; omega) hc
        rw [hLl.out, hG2.out, hb2.out] at this; exact this
      obtain ⟨ij, hij⟩ : ∃ x : Bool, (i == j) = x := ⟨_, rfl⟩
      clear hbest hG0
      cases ij
      · cases b2
        · go_wp2_with (first
            | (go_at_call 26; refine (hIB.out _ HBc1.out).mono ?_; rintro e wx ⟨Ax, cx, rfl, hcx, hrx, hbx⟩; have HBx := Lib.hid (HBcw.out.trans (hbx.mono HBcw.out.size)); have HRx := Lib.hid hrx; have HBx1 := Lib.hid ((HBc1.out).trans (hbx.mono (HBc1.out).size)); clear hbx hrx)
            | (go_at_call 17; refine (hIG2.out wx Ax cx HBx1.out HRx.out hcx).mono ?_; rintro e wy ⟨rfl, hby⟩; have HBy := Lib.hid (HBx.out.trans (hby.mono HBx.out.size)); clear hby))
          go_ret
          exact ⟨rfl, HBy.out⟩
        · go_wp2_with (first
            | (go_at_call 26; refine (hIB.out _ HBc1.out).mono ?_; rintro e wx ⟨Ax, cx, rfl, hcx, hrx, hbx⟩; have HBx := Lib.hid (HBcw.out.trans (hbx.mono HBcw.out.size)); have HRx := Lib.hid hrx; have HBx1 := Lib.hid ((HBc1.out).trans (hbx.mono (HBc1.out).size)); clear hbx hrx)
            | (go_at_call 17; refine (hIG2.out wx Ax cx HBx1.out HRx.out hcx).mono ?_; rintro e wy ⟨rfl, hby⟩; have HBy := Lib.hid (HBx.out.trans (hby.mono HBx.out.size)); clear hby))
          go_ret
          exact ⟨rfl, HBy.out⟩
      · go_wp2_with (go_at_call 26; refine (hIB.out _ HBc1.out).mono ?_; rintro e wx ⟨Ax, cx, rfl, hcx, hrx, hbx⟩; have HBx := Lib.hid (HBcw.out.trans (hbx.mono HBcw.out.size)); clear hbx hrx)
        go_ret
        exact ⟨rfl, HBx.out⟩
namespace fnGain
open Go.ChangeShapes Go.WideShapes Go.ChangeAt Go.RowKit Go.Deep
open Go.ChangeMaps (open_string shut_string)
theorem own : ownKnob Tryd.prog.godebug = none := by kernel_rfl
theorem laid : laidOutB Tryd.prog = true := by kernel_rfl
theorem reads : Tryd.f4.params.toList.all (fun t => Tryd.prog.readableRec t && decide (t < Tryd.prog.types.size)) = true := by kernel_rfl
set_option maxRecDepth 100000 in
theorem lifted (os : Os) (started : os.Started) (H : Type) (enc : TypeId × Value → H) :
    ReturnsInHanded {} Tryd.checked os 4 .any (fun w args => (Rows.fnGainSpec.pre enc Tryd.prog Tryd.f4 [] false w args ∧ laidMetH Tryd.prog Rows.fnGainRow.laid w) ∧ sizedMet enc Tryd.prog Tryd.f4 (OpenSpec.ofChange Rows.fnGainSpec) false w args) (Rows.fnGainSpec.post enc Tryd.prog Tryd.f4 false true false false) := by
  refine handed_shaped (C := Tryd.checked) (X := fun w _ => laidMetH Tryd.prog Rows.fnGainRow.laid w) (fun _ _ _ hh h => h.of_heap hh) own started (by kernel_rfl) Tryd.func4
    (ChangeSpec.witness_shaped (enc := enc) (C := Tryd.checked) (os := os) (X := fun w _ => laidMetH Tryd.prog Rows.fnGainRow.laid w) false (World.laidAll Tryd.prog os Rows.fnGainRow.laid) #[.slice none 0 0, .slice none 0 0] 8 (World.laidAll_os _ _ _) (World.shaped_of_ZipB (by kernel_rfl) (by kernel_rfl)) (by kernel_rfl) (by kernel_rfl) (by kernel_rfl) (by rw [MakeChecks.laidMetH_plain _ _ _ (by kernel_rfl)]; exact laidMet_laidAll _ (by kernel_rfl) (by kernel_rfl))) ?_
  intro W base args ds gs before hsh0 hval0 hW _ _ hL _
  have hmlW : Mlen W := mlen_of hsh0
  have htabW : Tab W := tab_of (by rw [MakeChecks.laidMetH_plain _ _ _ (by kernel_rfl)] at hL; exact hL)
  have hval : ∀ (j : Nat) t v, Tryd.f4.params[j]? = some t → args[j]? = some v → Value.okWide Tryd.prog W .any base t v := hval0
  have hW' := hW
  obtain ⟨p, q, hA0, hV, rfl, hfz, hnd⟩ := hW
  have hA : DataW.TrodAll enc Tryd.prog W 0 (fun _ => true) true Tryd.f4.params.toList args.toList ds p := hA0
  rw [Tryd.params4] at hA hval
  obtain ⟨rfl, rfl⟩ := trodVars_none hV
  have hlt : ∀ x ∈ p, x.block < W.heap.size := fun x hx => by simpa using hW'.lt x (List.mem_append.2 (.inl hx))
  clear hA0 hval0
  obtain ⟨v0, vs0, d0, ds0, p0, q0, hargs, rfl, rfl, h0, r0⟩ := trodAll_cons hA
  obtain ⟨v1, vs1, d1, ds1, p1, q1, rfl, rfl, rfl, h1, r1⟩ := trodAll_cons r0
  obtain ⟨rfl, rfl, rfl⟩ := trodAll_nil r1
  obtain rfl : args = #[v0, v1] := by cases args; simp_all
  clear hargs
  obtain ⟨A0, a0, c0, rfl, y0, x0, z0⟩ := open_list Tryd.underlying40 1 (by kernel_rfl) (by omega) encByte _ Byte_el (hval 0 40 v0 rfl rfl) h0
  obtain ⟨A1, a1, c1, rfl, y1, x1, z1⟩ := open_list Tryd.underlying40 1 (by kernel_rfl) (by omega) encByte _ Byte_el (hval 1 40 v1 rfl rfl) h1
  refine (gainLaw W a0 A0 c0 x0 (by unfold maxLen at y0; omega) z0 a1 A1 c1 x1 (by unfold maxLen at y1; omega) z1 ⟨htabW, hmlW⟩).mono fun e W' ⟨he, hg⟩ => ?_
  subst he
  exact ⟨_, rfl, law_post laid reads rfl Tryd.underlying4 rfl rfl hW' hg⟩
theorem over : Rows.fnGainRow.holds Tryd.pinned (OpenSpec.ofChange Rows.fnGainSpec) :=
  OpenClaim.holds_of_wide 4 Tryd.f4 rfl rfl rfl rfl rfl rfl rfl ⟨rfl, rfl, rfl, rfl, rfl⟩ rfl rfl rfl rfl rfl (by kernel_rfl) Tryd.func4 facts
    (of_decide_eq_true (by kernel_rfl)) (by unfold Func.isWrapper; first | (rw [if_pos (by decide +kernel)]; kernel_rfl) | (rw [if_neg (by decide +kernel)]; exact ⟨rfl, rfl⟩))
    (fun os started H enc _ => lifted os started H enc)
theorem proved : Rows.FnGainCardSaid :=
  Claim7.holds_tied_plain_at .later [] [.data, .data, .data, .data, .pinned] true (true, "22eada7432c92aaa50ed3d218d6b17cca8d55101b5a36205df56ea99271da9eb") false
    over (fun _ h => by cases h) (by kernel_rfl) (fun _ h => by cases h) fnGain_row_tie rfl ⟨rfl, rfl⟩ (by kernel_rfl) rfl
    (fun f fn hf hfn => by
      obtain rfl : f = 4 := Option.some.inj ((show Tryd.prog.funcNamed "loop.example/g00894/laws.FnGain" = some 4 by kernel_rfl).symm.trans hf) |>.symm
      obtain rfl : fn = Tryd.f4 := (Option.some.inj (Tryd.func4.symm.trans hfn)).symm
      exact ⟨by kernel_rfl, fun j t ht => by
        have hm : t ∈ Tryd.f4.params.toList := Array.mem_toList_iff.2 (Array.mem_of_getElem? ht)
        have hall : (Tryd.f4.params.toList.all fun u => !Tryd.prog.wantsStandIn u) = true := by kernel_rfl
        exact (show Tryd.prog.wantsStandIn t = false by simpa using List.all_eq_true.1 hall t hm)⟩)
    (by kernel_rfl)
end fnGain
end Go.Proofs.YtbfhfnejppfehaaDoor
