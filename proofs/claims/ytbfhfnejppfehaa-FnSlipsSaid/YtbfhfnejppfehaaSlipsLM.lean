import Derived.Test.YtbfhfnejppfehaaMSlipsL33
import Derived.Test.YtbfhfnejppfehaaMSlipsL34
import Derived.Test.YtbfhfnejppfehaaMSlipsL22
import Derived.Test.YtbfhfnejppfehaaMSlipsL03
import Derived.Test.YtbfhfnejppfehaaMSlipsL35
/-
  FnSlips: both sides agree; the slips that are found reproduce the rows rung, and slips made twice restore the last row.
-/
namespace Go.Proofs.Ytbfhfnejppfehaa
open Go.RowKit Go.ChangeShapes Go.WideShapes Go.Deep
set_option linter.unusedVariables false
set_option linter.unusedSimpArgs false
set_option maxRecDepth 100000

theorem rungR_2 (rows : List ByteArray) (l : List Slp) : (rungR rows l).2 = B (slipsP rows l) := by
  by_cases h : slipsP rows l
  · rw [rungR_t h, B_t h]
  · rw [rungR_f h, B_f h]
theorem slR_2 {a b : List ByteArray} (h : (slR a b).2 = true) : slipsOfP a b := by
  by_cases hp : slipsOfP a b
  · exact hp
  · rw [slR_f hp] at h; cases h
theorem rungR_2t {a : List ByteArray} {b : List Slp} (h : (rungR a b).2 = true) : slipsP a b := by
  by_cases hp : slipsP a b
  · exact hp
  · rw [rungR_f hp] at h; cases h
theorem recon_R {a b : List ByteArray} (h : (slR a b).2 = true) : rungR a (slR a b).1 = (b, true) := by
  have hp := slR_2 h
  rw [slR_t hp, rungR_t (recon_ok hp), recon_rung hp]
theorem rdS_drew {w : World} {b : Nat} {A : Option Addr} {l : List (List Int)} (h : RdS w b A l) (n : Nat) : RdS (w.drewN n) b A l := h

set_option maxHeartbeats 8000000 in
theorem slipsLaw (w : World) (l : List Int) (A : Option Addr) (c : Nat) (h : RdL w w.heap.size A 1 encByte l) (hl : l.length ≤ 9223372036854775807) (hb : ∀ x ∈ l, Byte_small 9223372036854775807 x) (l' : List Int) (A' : Option Addr) (c' : Nat) (h' : RdL w w.heap.size A' 1 encByte l') (hl' : l'.length ≤ 9223372036854775807) (hb' : ∀ x ∈ l', Byte_small 9223372036854775807 x) :
    Calls Try.prog 3 #[.slice A l.length c, .slice A' l'.length c'] w fun e w' => e = .returned (.bool true) ∧ Below w.heap.size w w' := by
  have H := Lib.hid h
  have Hb := Lib.hid hb
  have H' := Lib.hid h'
  have Hb' := Lib.hid hb'
  clear h hb h' hb'
  obtain ⟨N, hN⟩ : ∃ N : Bool, decide ((1048576 : Int) < wrap64 ((l.length : Int) + (l'.length : Int))) = N := ⟨_, rfl⟩
  cases N
  rotate_left
  · go_enter Try.func3, Try.ntmps3
    go_wp2
    go_ret
    exact ⟨rfl, Below.refl _ _⟩
  go_enter Try.func3, Try.ntmps3
  go_upto_region 4 with (go_at_call 6; refine (drawSlipsOf_any A c l _ H.out Hb.out hl).mono ?_; rintro e w1 ⟨want, A1, c1, rung, A1r, c1r, rfl, h1, h2, h3, h4, h5⟩; have H1 := Lib.hid h1; have H2 := Lib.hid h2; have H3 := Lib.hid h3; have H4 := Lib.hid h4; have BW1 := Lib.hid h5; clear h1 h2 h3 h4 h5)
  clear hN
  have hw12 := H1.out.1
  have hr12 := H2.out.1
  obtain ⟨P, hF⟩ : ∃ P, Hid (slR want rung = P) := ⟨_, Lib.hid rfl⟩
  have hFl : Hid (P.1.length ≤ 20) := Lib.hid (by rw [← hF.out]; exact slR_len _ _)
  have hIF : Hid (∀ W, Below w1.heap.size w1 W → Calls Try.prog 7 #[.slice A1 want.length c1, .slice A1r rung.length c1r] W fun e w' => ∃ A2 c2, e = .returned (.tuple #[.slice A2 P.1.length c2, .bool P.2]) ∧ RdL w' w'.heap.size A2 3 Slp.enc P.1 ∧ Below W.heap.size W w') := Lib.hid fun W hb => by
    have := iSlips_r want rung A1 A1r c1 c1r W ((H3.out.below hb (Nat.le_refl _)).more hb.size) ((H4.out.below hb (Nat.le_refl _)).more hb.size) (by omega) (by omega) (rw_small H1.out.2.2) (rw_small H2.out.2) H1.out.2.1
    rw [hF.out] at this; exact this
  have hSF : Hid (∀ W, Below w1.heap.size w1 W → Calls Try.prog 8 #[.slice A1 want.length c1, .slice A1r rung.length c1r] W fun e w' => ∃ A2 c2, e = .returned (.tuple #[.slice A2 P.1.length c2, .bool P.2]) ∧ RdL w' w'.heap.size A2 3 Slp.enc P.1 ∧ Below W.heap.size W w') := Lib.hid fun W hb => by
    have := sSlips_r want rung A1 A1r c1 c1r W ((H3.out.below hb (Nat.le_refl _)).more hb.size) ((H4.out.below hb (Nat.le_refl _)).more hb.size) (by omega) (by omega) (rw_small H1.out.2.2) (rw_small H2.out.2) H1.out.2.1
    rw [hF.out] at this; exact this
  obtain ⟨F, okF⟩ := P
  simp only at hFl hIF hSF
  go_upto_region 7 with (first
    | (go_at_call 7; refine (hIF.out w1 (Below.refl _ _)).mono ?_; rintro e w2 ⟨A2, c2, rfl, hr2, hb2⟩; have R2 := Lib.hid hr2; have K2 := Lib.hid hb2; clear hr2 hb2)
    | (go_at_call 8; refine (hSF.out w2 K2.out).mono ?_; rintro e w3 ⟨A3, c3, rfl, hr3, hb3⟩; have R3 := Lib.hid hr3; have K3 := Lib.hid hb3; have BW3 := Lib.hid (BW1.out.trans ((K2.out.trans (hb3.mono K2.out.size)).mono BW1.out.size)); clear hr3 hb3)
    | (go_at_call 9; refine (drawRungRows_any A' c' l' w3 ((H'.out.below BW3.out (Nat.le_refl _)).more BW3.out.size) Hb'.out hl').mono ?_; rintro e w4 ⟨rows, A4, c4, f, A4f, c4f, rfl, h1, h2, h3, h4, h5⟩; have J1 := Lib.hid h1; have J2 := Lib.hid h2; have J3 := Lib.hid h3; have J4 := Lib.hid h4; have K4 := Lib.hid h5; clear h1 h2 h3 h4 h5))
  have hrw12 := J1.out.1
  have hf21 := J2.out.1
  obtain ⟨Q, hRG⟩ : ∃ P, Hid (rungR rows f = P) := ⟨_, Lib.hid rfl⟩
  have hRl : Hid (Q.1.length ≤ 12) := Lib.hid (by rw [← hRG.out]; exact Nat.le_trans (rungR_len _ _) hrw12)
  have hQ2 : Hid (B (slipsP rows f) = Q.2) := Lib.hid (by rw [← hRG.out, rungR_2])
  have hIR : Hid (∀ W, Below w4.heap.size w4 W → Calls Try.prog 10 #[.slice A4 rows.length c4, .slice A4f f.length c4f] W fun e w' => ∃ A2 c2, e = .returned (.tuple #[.slice A2 Q.1.length c2, .bool Q.2]) ∧ RdL w' w'.heap.size A2 1 encString Q.1 ∧ Below W.heap.size W w') := Lib.hid fun W hb => by
    have := iRung_r rows f A4 A4f c4 c4f W ((J3.out.below hb (Nat.le_refl _)).more hb.size) ((J4.out.below hb (Nat.le_refl _)).more hb.size) (by omega) (by omega) (rw_small J1.out.2.2)
    rw [hRG.out] at this
    exact this.mono fun e w' ⟨A9, c9, h1, h2, h3⟩ => ⟨A9, c9, h1, h2.1, h3⟩
  have hSR : Hid (∀ W, Below w4.heap.size w4 W → Calls Try.prog 11 #[.slice A4 rows.length c4, .slice A4f f.length c4f] W fun e w' => ∃ A2 c2, e = .returned (.tuple #[.slice A2 Q.1.length c2, .bool Q.2]) ∧ RdL w' w'.heap.size A2 1 encString Q.1 ∧ Below W.heap.size W w') := Lib.hid fun W hb => by
    have := sRung_r rows f A4 A4f c4 c4f W ((J3.out.below hb (Nat.le_refl _)).more hb.size) ((J4.out.below hb (Nat.le_refl _)).more hb.size) (by omega) (by omega) (rw_small J1.out.2.2)
    rw [hRG.out] at this
    exact this.mono fun e w' ⟨A9, c9, h1, h2, h3⟩ => ⟨A9, c9, h1, h2.1, h3⟩
  have hGS : Hid (∀ W, Below w4.heap.size w4 W → Calls Try.prog 20 #[.slice A4 rows.length c4, .slice A4f f.length c4f] W fun e w' => e = .returned (.bool Q.2) ∧ Below W.heap.size W w') := Lib.hid fun W hb => by
    have := iGoodSlips_any rows f A4 A4f c4 c4f W ((J3.out.below hb (Nat.le_refl _)).more hb.size) ((J4.out.below hb (Nat.le_refl _)).more hb.size) (by omega) (by omega) (rw_small J1.out.2.2)
    rw [hQ2.out] at this; exact this
  obtain ⟨RG, okR⟩ := Q
  simp only at hRl hIR hSR hGS hQ2
  go_upto_region 10 with (first
    | (go_at_call 10; refine (hIR.out w4 (Below.refl _ _)).mono ?_; rintro e w5 ⟨A5, c5, rfl, hr5, hb5⟩; have R5 := Lib.hid hr5; have K5 := Lib.hid hb5; clear hr5 hb5)
    | (go_at_call 11; refine (hSR.out w5 K5.out).mono ?_; rintro e w6 ⟨A6, c6, rfl, hr6, hb6⟩; have R6 := Lib.hid hr6; have K6 := Lib.hid hb6; have BW6 := Lib.hid (BW3.out.trans (((K4.out.trans (K5.out.mono K4.out.size)).trans (hb6.mono (Nat.le_trans K4.out.size K5.out.size))).mono BW3.out.size)); clear hr6 hb6)
    | (go_at_call 12; refine (drawFirstSlip_any A' c' l' w6 ((H'.out.below BW6.out (Nat.le_refl _)).more BW6.out.size) Hb'.out hl').mono ?_; rintro e w7 ⟨a, A7, c7, b, A7b, c7b, rfl, h1, h2, h3, h4, h5⟩; have G1 := Lib.hid h1; have G2 := Lib.hid h2; have G3 := Lib.hid h3; have G4 := Lib.hid h4; have K7 := Lib.hid h5; clear h1 h2 h3 h4 h5))
  have ha12 := G1.out.1
  have hb12 := G2.out.1
  obtain ⟨I, hI⟩ : ∃ P, Hid (fsR a b = P) := ⟨_, Lib.hid rfl⟩
  obtain ⟨S, hS⟩ : ∃ P, Hid (spR a b = P) := ⟨_, Lib.hid rfl⟩
  have hSl : Hid (S.1.length ≤ 800 ∧ ∀ x ∈ S.1, x.length ≤ 1048576) := Lib.hid (by
    have := spR_len a b
    rw [hS.out] at this
    exact ⟨this.1, fun x hx => by have := tot_le hx; omega⟩)
  have hII : Hid (∀ W, Below w7.heap.size w7 W → Calls Try.prog 13 #[.slice A7 a.length c7, .slice A7b b.length c7b] W fun e w' => e = .returned (.tuple #[.int .i64 I.1, .bool I.2]) ∧ Below W.heap.size W w') := Lib.hid fun W hb => by
    have := iFirst_r a b A7 A7b c7 c7b W ((G3.out.below hb (Nat.le_refl _)).more hb.size) ((G4.out.below hb (Nat.le_refl _)).more hb.size) (by omega) (by omega) (rw_small G1.out.2.2) (rw_small G2.out.2)
    rw [hI.out] at this; exact this
  have hSI : Hid (∀ W, Below w7.heap.size w7 W → Calls Try.prog 14 #[.slice A7 a.length c7, .slice A7b b.length c7b] W fun e w' => e = .returned (.tuple #[.int .i64 I.1, .bool I.2]) ∧ Below W.heap.size W w') := Lib.hid fun W hb => by
    have := sFirst_r a b A7 A7b c7 c7b W ((G3.out.below hb (Nat.le_refl _)).more hb.size) ((G4.out.below hb (Nat.le_refl _)).more hb.size) (by omega) (by omega) (rw_small G1.out.2.2) (rw_small G2.out.2)
    rw [hI.out] at this; exact this
  have hIS : Hid (∀ W, Below w7.heap.size w7 W → Calls Try.prog 15 #[.slice A7 a.length c7, .slice A7b b.length c7b] W fun e w' => ∃ A2 c2, e = .returned (.tuple #[.slice A2 S.1.length c2, .bool S.2]) ∧ RdS w' w'.heap.size A2 S.1 ∧ Below W.heap.size W w') := Lib.hid fun W hb => by
    have := iSpans_r a b A7 A7b c7 c7b W ((G3.out.below hb (Nat.le_refl _)).more hb.size) ((G4.out.below hb (Nat.le_refl _)).more hb.size) (by omega) (by omega) (rw_small G1.out.2.2) (rw_small G2.out.2)
    rw [hS.out] at this; exact this
  have hSS : Hid (∀ W, Below w7.heap.size w7 W → Calls Try.prog 16 #[.slice A7 a.length c7, .slice A7b b.length c7b] W fun e w' => ∃ A2 c2, e = .returned (.tuple #[.slice A2 S.1.length c2, .bool S.2]) ∧ RdS w' w'.heap.size A2 S.1 ∧ Below W.heap.size W w') := Lib.hid fun W hb => by
    have := sSpans_r a b A7 A7b c7 c7b W ((G3.out.below hb (Nat.le_refl _)).more hb.size) ((G4.out.below hb (Nat.le_refl _)).more hb.size) (by omega) (by omega) (rw_small G1.out.2.2) (rw_small G2.out.2)
    rw [hS.out] at this; exact this
  obtain ⟨fi, okI⟩ := I
  obtain ⟨SP, okS⟩ := S
  simp only at hSl hII hSI hIS hSS
  go_upto_region 14 with (first
    | (go_at_call 13; refine (hII.out w7 (Below.refl _ _)).mono ?_; rintro e w8 ⟨rfl, hb8⟩; have K8 := Lib.hid hb8; clear hb8)
    | (go_at_call 14; refine (hSI.out w8 K8.out).mono ?_; rintro e w9 ⟨rfl, hb9⟩; have K9 := Lib.hid hb9; have L9 := Lib.hid (K8.out.trans (hb9.mono K8.out.size)); clear hb9)
    | (go_at_call 15; refine (hIS.out w9 L9.out).mono ?_; rintro e w10 ⟨A10, c10, rfl, hr10, hb10⟩; have R10 := Lib.hid hr10; have K10 := Lib.hid hb10; have L10 := Lib.hid (L9.out.trans (hb10.mono L9.out.size)); clear hr10 hb10)
    | (go_at_call 16; refine (hSS.out w10 L10.out).mono ?_; rintro e w11 ⟨A11, c11, rfl, hr11, hb11⟩; have R11 := Lib.hid hr11; have K11 := Lib.hid hb11; clear hr11 hb11))
  have E10 := K11.out
  have E9 := K10.out.trans (E10.mono K10.out.size)
  have E8 := K9.out.trans (E9.mono K9.out.size)
  have E7 := K8.out.trans (E8.mono K8.out.size)
  have E6 := K7.out.trans (E7.mono K7.out.size)
  have E5 := K6.out.trans (E6.mono K6.out.size)
  have E4 := K5.out.trans (E5.mono K5.out.size)
  have E3 := K4.out.trans (E4.mono K4.out.size)
  have E2 := K3.out.trans (E3.mono K3.out.size)
  have E1 := K2.out.trans (E2.mono K2.out.size)
  have HBw := Lib.hid (BW1.out.trans (E1.mono BW1.out.size))
  have Rw := Lib.hid ((H3.out.below E1 (Nat.le_refl _)).more E1.size)
  have Rr := Lib.hid ((H4.out.below E1 (Nat.le_refl _)).more E1.size)
  have RF := Lib.hid ((R2.out.below E2 (Nat.le_refl _)).more E2.size)
  have RF3 := Lib.hid ((R3.out.below E3 (Nat.le_refl _)).more E3.size)
  have Rrows := Lib.hid ((J3.out.below E4 (Nat.le_refl _)).more E4.size)
  have Rf := Lib.hid ((J4.out.below E4 (Nat.le_refl _)).more E4.size)
  have RG5 := Lib.hid ((R5.out.below E5 (Nat.le_refl _)).more E5.size)
  have RG6 := Lib.hid ((R6.out.below E6 (Nat.le_refl _)).more E6.size)
  have RS10 : Hid (RdS w11 w11.heap.size A10 SP) := Lib.hid (by obtain ⟨D, hD, hd⟩ := R10.out; exact ⟨D, hD, (hd.below E10 (Nat.le_refl _)).more E10.size⟩)
  have hE4 := Lib.hid E4
  clear E1 E2 E3 E4 E5 E6 E7 E8 E9 E10 K2 K3 K4 K5 K6 K7 K8 K9 K10 K11 L9 L10 hIF hSF hIR hSR hII hSI hIS hSS R2 R3 R5 R6 R10 H3 H4 J3 J4 G3 G4 BW3 BW6 BW1 H H' Hb Hb'
  go_upto_region 16 with (first
    | (go_at_call 17; refine (qSameSlips_t F A2 A3 c2 c3 _ RF.out RF3.out (by have := hFl.out; omega)).mono ?_; rintro e wa ⟨rfl, na, rfl⟩)
    | (go_at_call 18; refine (qSameS_t RG A5 A6 c5 c6 _ (RG5.out.drewN na) (RG6.out.drewN na) (by have := hRl.out; omega)).mono ?_; rintro e wa ⟨rfl, nb, rfl⟩)
    | (go_at_call 19; refine (qSameP_t SP A10 A11 c10 c11 _ (rdS_drew RS10.out _) (rdS_drew R11.out _) (by have := hSl.out.1; omega) hSl.out.2).mono ?_; rintro e wa ⟨rfl, nc, rfl⟩)
    | (go_at_call 20; refine (hGS.out _ (below_drewN hE4.out _)).mono ?_; rintro e w12 ⟨rfl, hb12⟩; have K12 := Lib.hid hb12; clear hb12))
  have hB12 : Hid (Below w11.heap.size w11 w12) := Lib.hid ((below_drewN (Below.refl _ _) _).trans K12.out)
  clear K12
  have hF20 := hFl.out
  cases okR
  · cases okF
    · go_wp2
      go_ret
      exact ⟨rfl, HBw.out.trans (hB12.out.mono HBw.out.size)⟩
    · have hrc : Hid (rungR want F = (rung, true)) := Lib.hid (by
        have := recon_R (a := want) (b := rung) (by rw [hF.out])
        rw [hF.out] at this; exact this)
      have hRR : Hid (∀ W, Below w11.heap.size w11 W → Calls Try.prog 10 #[.slice A1 want.length c1, .slice A2 F.length c2] W fun e w' => ∃ A9 c9, e = .returned (.tuple #[.slice A9 rung.length c9, .bool true]) ∧ RdL w' w'.heap.size A9 1 encString rung ∧ Below W.heap.size W w') := Lib.hid fun W hb => by
        have := iRung_r want F A1 A2 c1 c2 W ((Rw.out.below hb (Nat.le_refl _)).more hb.size) ((RF.out.below hb (Nat.le_refl _)).more hb.size) (by omega) (by omega) (rw_small H1.out.2.2)
        rw [hrc.out] at this
        exact this.mono fun e w' ⟨A9, c9, h1, h2, h3⟩ => ⟨A9, c9, h1, h2.1, h3⟩
      have hBt : Hid (Below w11.heap.size w11 w12) := Lib.hid hB12.out
      go_wp2_with (first
        | (go_at_call 10; refine (hRR.out _ hBt.out).mono ?_; rintro e wt ⟨A9, c9, rfl, hr9, hb9⟩; have R9 := Lib.hid hr9; have hBt2 := Lib.hid (hBt.out.trans (hb9.mono hBt.out.size)); clear hr9 hb9)
        | (go_at_call 18; refine (qSameS_t rung A9 A1r c9 c1r _ R9.out ((Rr.out.below hBt2.out (Nat.le_refl _)).more hBt2.out.size) (by omega)).mono ?_; rintro e wa ⟨rfl, na, rfl⟩))
      go_ret
      exact ⟨rfl, below_drewN (HBw.out.trans (hBt2.out.mono HBw.out.size)) na⟩
  · have hsp : Hid (slipsP rows f) := Lib.hid (rungR_2t (by rw [hRG.out]))
    by_cases hq0 : f.length = 0
    · obtain rfl := List.eq_nil_of_length_eq_zero hq0
      clear hq0
      simp only [List.length_nil]
      cases okF
      · go_wp2
        go_ret
        exact ⟨rfl, HBw.out.trans (hB12.out.mono HBw.out.size)⟩
      · have hrc : Hid (rungR want F = (rung, true)) := Lib.hid (by
          have := recon_R (a := want) (b := rung) (by rw [hF.out])
          rw [hF.out] at this; exact this)
        have hRR : Hid (∀ W, Below w11.heap.size w11 W → Calls Try.prog 10 #[.slice A1 want.length c1, .slice A2 F.length c2] W fun e w' => ∃ A9 c9, e = .returned (.tuple #[.slice A9 rung.length c9, .bool true]) ∧ RdL w' w'.heap.size A9 1 encString rung ∧ Below W.heap.size W w') := Lib.hid fun W hb => by
          have := iRung_r want F A1 A2 c1 c2 W ((Rw.out.below hb (Nat.le_refl _)).more hb.size) ((RF.out.below hb (Nat.le_refl _)).more hb.size) (by omega) (by omega) (rw_small H1.out.2.2)
          rw [hrc.out] at this
          exact this.mono fun e w' ⟨A9, c9, h1, h2, h3⟩ => ⟨A9, c9, h1, h2.1, h3⟩
        have hBt : Hid (Below w11.heap.size w11 w12) := Lib.hid hB12.out
        go_wp2_with (first
          | (go_at_call 10; refine (hRR.out _ hBt.out).mono ?_; rintro e wt ⟨A9, c9, rfl, hr9, hb9⟩; have R9 := Lib.hid hr9; have hBt2 := Lib.hid (hBt.out.trans (hb9.mono hBt.out.size)); clear hr9 hb9)
          | (go_at_call 18; refine (qSameS_t rung A9 A1r c9 c1r _ R9.out ((Rr.out.below hBt2.out (Nat.le_refl _)).more hBt2.out.size) (by omega)).mono ?_; rintro e wa ⟨rfl, na, rfl⟩))
        go_ret
        exact ⟨rfl, below_drewN (HBw.out.trans (hBt2.out.mono HBw.out.size)) na⟩
    by_cases hq1 : f.length ≤ 10
    rotate_left
    · cases okF
      · go_wp2
        go_ret
        exact ⟨rfl, HBw.out.trans (hB12.out.mono HBw.out.size)⟩
      · have hrc : Hid (rungR want F = (rung, true)) := Lib.hid (by
          have := recon_R (a := want) (b := rung) (by rw [hF.out])
          rw [hF.out] at this; exact this)
        have hRR : Hid (∀ W, Below w11.heap.size w11 W → Calls Try.prog 10 #[.slice A1 want.length c1, .slice A2 F.length c2] W fun e w' => ∃ A9 c9, e = .returned (.tuple #[.slice A9 rung.length c9, .bool true]) ∧ RdL w' w'.heap.size A9 1 encString rung ∧ Below W.heap.size W w') := Lib.hid fun W hb => by
          have := iRung_r want F A1 A2 c1 c2 W ((Rw.out.below hb (Nat.le_refl _)).more hb.size) ((RF.out.below hb (Nat.le_refl _)).more hb.size) (by omega) (by omega) (rw_small H1.out.2.2)
          rw [hrc.out] at this
          exact this.mono fun e w' ⟨A9, c9, h1, h2, h3⟩ => ⟨A9, c9, h1, h2.1, h3⟩
        have hBt : Hid (Below w11.heap.size w11 w12) := Lib.hid hB12.out
        go_wp2_with (first
          | (go_at_call 10; refine (hRR.out _ hBt.out).mono ?_; rintro e wt ⟨A9, c9, rfl, hr9, hb9⟩; have R9 := Lib.hid hr9; have hBt2 := Lib.hid (hBt.out.trans (hb9.mono hBt.out.size)); clear hr9 hb9)
          | (go_at_call 18; refine (qSameS_t rung A9 A1r c9 c1r _ R9.out ((Rr.out.below hBt2.out (Nat.le_refl _)).more hBt2.out.size) (by omega)).mono ?_; rintro e wa ⟨rfl, na, rfl⟩))
        go_ret
        exact ⟨rfl, below_drewN (HBw.out.trans (hBt2.out.mono HBw.out.size)) na⟩
    have hf0 : 0 < f.length := by omega
    clear hq0
    have Rf12 := Lib.hid ((Rf.out.below hB12.out (Nat.le_refl _)).more hB12.out.size)
    have Rrows12 := Lib.hid ((Rrows.out.below hB12.out (Nat.le_refl _)).more hB12.out.size)
    obtain ⟨gf, off, hAf, hgf, _⟩ := Rf12.out.at hf0
    subst hAf
    obtain ⟨m0, hm0⟩ : ∃ m0, Hid (f.length = m0 + 1) := ⟨f.length - 1, Lib.hid (by omega)⟩
    have hw1 : IntKind.i64.wrap ((f.length : Int) - 1) = (m0 : Int) := by have := hm0.out; rw [IntWalk.i64_in _ (by omega)]; omega
    have hm0l : m0 < f.length := by have := hm0.out; omega
    obtain ⟨R, hR⟩ : ∃ R, Hid (lastRow f = R) := ⟨_, Lib.hid rfl⟩
    have hRe : Hid (f[m0].row = R) := Lib.hid (by
      rw [← hR.out]; unfold lastRow
      rw [List.getD_eq_getElem?_getD, show f.length - 1 = m0 by have := hm0.out; omega, List.getElem?_eq_getElem hm0l]; rfl)
    have hc0 : w12.cell? ⟨gf, off + m0 * 3, none⟩ = some (.int .i64 R) := by
      obtain ⟨g', off', hA', _, hcell⟩ := Rf12.out.at hm0l
      simp only [Option.some.injEq, Addr.mk.injEq, and_true] at hA'
      obtain ⟨rfl, rfl⟩ := hA'
      have := hcell 0 _ rfl
      rw [hRe.out] at this; exact this
    have HC0 := Lib.hid hc0
    clear hc0
    go_upto_region 19 with fail
    go_loopw [27, 28] (fun v i wr => ∃ (z : Int) (T : List Slp), i = .int .i64 z ∧ -1 ≤ z ∧ z < f.length ∧ (T.length : Int) + z + 1 = f.length ∧ Hid (T = (f.reverse.take T.length).map (twiceOf R)) ∧ Grow wr w12.heap.size 43 3 Slp.enc v T ∧ Below w12.heap.size w12 wr) (fun _ i _ => (intOf i + 1).toNat)
    case atStart => exact ⟨(m0 : Int), [], by rfl, by omega, by omega, (by have := hm0.out; simp; omega), Lib.hid (by simp), Grow.nil, Below.refl _ _⟩
    case round =>
      obtain ⟨z, T, rfl, hz1, hz2, hTz, hT, hgr, hbl⟩ := hrel
      have HG := Lib.hid hgr
      have HB := Lib.hid hbl
      have hzr := hbl.size
      have HTz := Lib.hid hTz
      have hT10 : T.length ≤ 10 := by omega
      clear hgr hbl hTz
      by_cases hz0 : 0 ≤ z
      · obtain ⟨m, rfl⟩ : ∃ m : Nat, z = (m : Int) := ⟨z.toNat, by omega⟩
        have hm : m < f.length := by omega
        have r0 := (HB.out.cell (p := ⟨gf, off + m0 * 3, none⟩) hgf).trans HC0.out
        obtain ⟨g', off', hA', _, hcell⟩ := Rf12.out.at hm
        simp only [Option.some.injEq, Addr.mk.injEq, and_true] at hA'
        obtain ⟨rfl, rfl⟩ := hA'
        have r1 : wr.cell? ⟨gf, off + m * 3 + 1, none⟩ = some (.int .i64 f[m].a) := (HB.out.cell (p := ⟨gf, off + (m * 3 + 1), none⟩) hgf).trans (hcell 1 _ rfl)
        have r2 : wr.cell? ⟨gf, off + m * 3 + 2, none⟩ = some (.int .i64 f[m].b) := (HB.out.cell (p := ⟨gf, off + (m * 3 + 2), none⟩) hgf).trans (hcell 2 _ rfl)
        clear hcell
        have hTn : Hid (T ++ [⟨R, f[m].a, f[m].b⟩] = (f.reverse.take (T.length + 1)).map (twiceOf R)) := Lib.hid (by
          have hlt : T.length < f.reverse.length := by have := HTz.out; simp; omega
          have e : f.reverse[T.length] = f[m] := by
            rw [List.getElem_reverse]; congr 1; have := HTz.out; omega
          rw [List.take_succ_eq_append_getElem hlt, List.map_append, ← hT.out, e]; rfl)
        obtain ⟨x, hx⟩ : ∃ x, Hid (f[m] = x) := ⟨_, Lib.hid rfl⟩
        rw [hx.out] at r1 r2 hTn
        have Hone : Hid (∀ p q r : Int, ∀ u ∈ [Value.int .i64 p, .int .i64 q, .int .i64 r], u.oneCell' = true) := Lib.hid (by intro p q r u hu; simp at hu; rcases hu with rfl | rfl | rfl <;> rfl)
        have hwz : IntKind.i64.wrap ((m : Int) - 1) = (m : Int) - 1 := IntWalk.i64_in _ (by omega)
        go_upto_region 21 with fail
        go_region_law (first
          | (show (if _ = true then Oper.wp _ _ _ ((wr.drew).alloc (.cells #[.int .i64 R, .int .i64 x.a, .int .i64 x.b] 43)) _ _ else _); refine step_pushA rfl (.tmp 168) (.tmp 187) 26 rfl w12.heap.size 43 _ 3 24 Slp.enc rfl Slip_info rfl (by omega) _ T [⟨R, x.a, x.b⟩] 1 rfl rfl rfl (by exact HG.out) rfl Slp_enc_len (by exact Hone.out _ _ _) (by simp) (by simp only [List.length_singleton]; omega) (by omega) (by exact hzr) ?_; intro v' w4 hg4 hb4 hgb4 hk4; have HG4 := Lib.hid hg4; have HB4 : Hid (Below w12.heap.size wr w4) := Lib.hid ⟨hb4.os, hb4.tape, hb4.output, hb4.size, hb4.block⟩; clear hg4 hb4 hgb4 hk4))
        all_goals
          go_wp2
          go_roundw
          case rel => exact ⟨(m : Int) - 1, T ++ [⟨R, x.a, x.b⟩], by go_num, by omega, by omega, (by have := HTz.out; simp; omega), Lib.hid (by rw [List.length_append]; exact hTn.out), HG4.out, HB.out.trans HB4.out⟩
          case measure => (simp [intOf] <;> omega)
      · obtain rfl : z = -1 := by omega
        have hTl : Hid (T.length = f.length) := Lib.hid (by have := HTz.out; omega)
        have hTe : Hid (T = twiceL f) := Lib.hid (by
          rw [hT.out, hTl.out, ← List.length_reverse, List.take_length, ← hR.out]; rfl)
        have hMR : Hid (rungR rows (f ++ T) = (rungTo rows (f ++ T) rows.length, true)) := Lib.hid (rungR_t (by rw [hTe.out]; exact twice_ok hsp.out hf0 hq1))
        have hB13 := Lib.hid (hB12.out.trans (HB.out.mono hB12.out.size))
        have hT0 : 0 < T.length := by have := hTl.out; omega
        have hBE : Hid (Below wr.heap.size wr (wr.alloc (.cells #[] 43))) := Lib.hid ((Below.refl _ _).alloc (Nat.le_refl _) _)
        have hRfE : Hid (RdL (wr.alloc (.cells #[] 43)) (wr.alloc (.cells #[] 43)).heap.size (some ⟨gf, off, none⟩) 3 Slp.enc f) := Lib.hid ((((Rf12.out.below HB.out (Nat.le_refl _)).more hzr).below hBE.out (Nat.le_refl _)).more hBE.out.size)
        obtain ⟨AT, cT, hvT, hoT⟩ := HG.out.own Slp_enc_len
        subst hvT
        have HOT := Lib.hid (hoT.rd Slp_enc_len)
        clear hoT
        obtain ⟨Z, hZ⟩ : ∃ Z, Hid (rungTo rows (f ++ T) rows.length = Z) := ⟨_, Lib.hid rfl⟩
        have hZl : Hid (Z.length = rows.length) := Lib.hid (by rw [← hZ.out, rungTo_len])
        have hrows0 : 0 < rows.length := hsp.out.1.2
        obtain ⟨p0, hp0⟩ : ∃ p0, Hid (rows.length = p0 + 1) := ⟨rows.length - 1, Lib.hid (by omega)⟩
        have hp0l : p0 < rows.length := by have := hp0.out; omega
        have hwp : IntKind.i64.wrap ((rows.length : Int) - 1) = (p0 : Int) := by have := hp0.out; rw [IntWalk.i64_in _ (by omega)]; omega
        have hlast : Hid (∀ h : p0 < Z.length, Z[p0] = rows[p0]) := Lib.hid (fun h => by
          have h1 := hZ.out
          rw [hTe.out] at h1
          subst h1
          have h2 := twice_last hsp.out hf0 hq1 (by rw [rungTo_len]; omega)
          have h3 : rows.length - 1 = p0 := by have := hp0.out; omega
          simp only [h3] at h2
          exact h2)
        have hRM : Hid (∀ W AM cM, Below w11.heap.size w11 W → RdL W W.heap.size AM 3 Slp.enc (f ++ T) → Calls Try.prog 10 #[.slice A4 rows.length c4, .slice AM (f.length + T.length) cM] W fun e w' => ∃ A9 c9, e = .returned (.tuple #[.slice A9 rows.length c9, .bool true]) ∧ RdL w' w'.heap.size A9 1 encString Z ∧ Below W.heap.size W w') := Lib.hid fun W AM cM hb hr => by
          have := iRung_r rows (f ++ T) A4 AM c4 cM W ((Rrows.out.below hb (Nat.le_refl _)).more hb.size) hr (by omega) (by rw [List.length_append]; have := hTl.out; omega) (rw_small J1.out.2.2)
          rw [hMR.out, List.length_append] at this
          simp only [hZ.out, hZl.out] at this
          exact this.mono fun e w' ⟨A9, c9, h1, h2, h3⟩ => ⟨A9, c9, h1, h2.1, h3⟩
        go_wp2_with (first
          | (at_builtin; refine wpList_pushAllA rfl (.tmp 191) (.tmp 192) 26 rfl wr.heap.size 43 _ 3 24 Slp.enc rfl Slip_info rfl (by omega) _ [] f (some ⟨gf, off, none⟩) c4f _ rfl rfl hRfE.out hf0 (Grow.empty (Nat.le_refl _)) Slp_enc_len (by simp [Slp.enc, Value.oneCell']) (by simp only [List.length_nil]; omega) (by omega) (by simp) ?_; intro v5 w5 g5 b5 gb5 k5; have HG5 := Lib.hid g5; have HB5 := Lib.hid (hBE.out.trans b5); have hz5 := HB5.out.size; clear g5 b5 gb5 k5)
          | (at_builtin; refine wpList_pushAllA rfl (.tmp 193) (.tmp 194) 26 rfl wr.heap.size 43 _ 3 24 Slp.enc rfl Slip_info rfl (by omega) _ ([] ++ f) T AT cT _ rfl rfl ((HOT.out.below HB5.out (Nat.le_refl _)).more HB5.out.size) hT0 HG5.out Slp_enc_len (by simp [Slp.enc, Value.oneCell']) (by simp; omega) (by omega) (by omega) ?_; intro v6 w6 g6 b6 gb6 k6; have HB6 := Lib.hid (HB5.out.trans (b6.mono (Nat.le_refl _))); obtain ⟨AM, cM, hvM, hoM⟩ := g6.own Slp_enc_len; subst hvM; have RM : Hid (RdL w6 w6.heap.size AM 3 Slp.enc (f ++ T)) := Lib.hid (hoM.rd Slp_enc_len); have hB16 := Lib.hid (hB13.out.trans (HB6.out.mono hB13.out.size)); clear g6 b6 gb6 k6 hoM)
          | (go_at_call 10; refine (hRM.out w6 AM cM hB16.out RM.out).mono ?_; rintro e w7 ⟨A9, c9, rfl, hr9, hb9⟩; have R9 := Lib.hid hr9; have hB17 := Lib.hid (hB16.out.trans (hb9.mono hB16.out.size)); clear hr9 hb9))
        have hpZ : p0 < Z.length := by rw [hZl.out]; exact hp0l
        obtain ⟨gz, oz, hAz, hgz, hcz⟩ := R9.out.at hpZ
        subst hAz
        obtain ⟨gr, orr, hAr, hgr2, hcr⟩ := (((Rrows.out.below hB17.out (Nat.le_refl _)).more hB17.out.size)).at hp0l
        subst hAr
        have z0 := hcz 0 _ rfl
        have z1 := hcr 0 _ rfl
        rw [Nat.mul_one, Nat.add_zero, hlast.out hpZ] at z0
        rw [Nat.mul_one, Nat.add_zero] at z1
        obtain ⟨LR, hLR⟩ : ∃ x, Hid (rows[p0] = x) := ⟨_, Lib.hid rfl⟩
        rw [hLR.out] at z0 z1
        clear hcz hcr
        go_quiet (fail)
        cases okF
        · go_wp2
          go_ret
          exact ⟨rfl, below_drewN (HBw.out.trans (hB17.out.mono HBw.out.size)) nq⟩
        · have hrc : Hid (rungR want F = (rung, true)) := Lib.hid (by
            have := recon_R (a := want) (b := rung) (by rw [hF.out])
            rw [hF.out] at this; exact this)
          have hRR : Hid (∀ W, Below w11.heap.size w11 W → Calls Try.prog 10 #[.slice A1 want.length c1, .slice A2 F.length c2] W fun e w' => ∃ A9 c9, e = .returned (.tuple #[.slice A9 rung.length c9, .bool true]) ∧ RdL w' w'.heap.size A9 1 encString rung ∧ Below W.heap.size W w') := Lib.hid fun W hb => by
            have := iRung_r want F A1 A2 c1 c2 W ((Rw.out.below hb (Nat.le_refl _)).more hb.size) ((RF.out.below hb (Nat.le_refl _)).more hb.size) (by omega) (by omega) (rw_small H1.out.2.2)
            rw [hrc.out] at this
            exact this.mono fun e w' ⟨A9, c9, h1, h2, h3⟩ => ⟨A9, c9, h1, h2.1, h3⟩
          have hBt : Hid (Below w11.heap.size w11 (w7.drewN nq)) := Lib.hid below_drewN hB17.out nq
          go_wp2_with (first
            | (go_at_call 10; refine (hRR.out _ hBt.out).mono ?_; rintro e wt ⟨A9, c9, rfl, hr9, hb9⟩; have R9 := Lib.hid hr9; have hBt2 := Lib.hid (hBt.out.trans (hb9.mono hBt.out.size)); clear hr9 hb9)
            | (go_at_call 18; refine (qSameS_t rung A9 A1r c9 c1r _ R9.out ((Rr.out.below hBt2.out (Nat.le_refl _)).more hBt2.out.size) (by omega)).mono ?_; rintro e wa ⟨rfl, na, rfl⟩))
          go_ret
          exact ⟨rfl, below_drewN (HBw.out.trans (hBt2.out.mono HBw.out.size)) na⟩
namespace fnSlips
open Go.ChangeShapes Go.WideShapes Go.ChangeAt Go.RowKit Go.Deep
open Go.ChangeMaps (open_string shut_string)
theorem own : ownKnob Try.prog.godebug = none := by kernel_rfl
theorem laid : laidOutB Try.prog = true := by kernel_rfl
theorem reads : Try.f3.params.toList.all (fun t => Try.prog.readableRec t && decide (t < Try.prog.types.size)) = true := by kernel_rfl
set_option maxRecDepth 100000 in
theorem lifted (os : Os) (started : os.Started) (H : Type) (enc : TypeId × Value → H) :
    ReturnsInHanded {} Try.checked os 3 .any (Rows.fnSlipsSpec.pre6 enc Try.prog Try.f3 Rows.fnSlipsRow.domain false) (Rows.fnSlipsSpec.post enc Try.prog Try.f3 false true false false) := by
  refine returnsInHanded_of_change (C := Try.checked) own started (by kernel_rfl) Try.func3
    (ChangeSpec.witness6 (enc := enc) (C := Try.checked) false ⟨#[], #[.slice none 0 0, .slice none 0 0], []⟩ 8 (by kernel_rfl) (by kernel_rfl) (by kernel_rfl) (by kernel_rfl)) ?_
  intro W base args ds gs before hval0 hW hcnd _
  have hval : ∀ (j : Nat) t v, Try.f3.params[j]? = some t → args[j]? = some v → Value.okWide Try.prog W .any base t v := hval0
  have hW' := hW
  obtain ⟨p, q, hA0, hV, rfl, hfz, hnd⟩ := hW
  have hA : DataW.TrodAll enc Try.prog W 0 (fun _ => true) true Try.f3.params.toList args.toList ds p := hA0
  rw [Try.params3] at hA hval
  obtain ⟨rfl, rfl⟩ := trodVars_none hV
  have hlt : ∀ x ∈ p, x.block < W.heap.size := fun x hx => by simpa using hW'.lt x (List.mem_append.2 (.inl hx))
  clear hA0 hval0
  obtain ⟨v0, vs0, d0, ds0, p0, q0, hargs, rfl, rfl, h0, r0⟩ := trodAll_cons hA
  obtain ⟨v1, vs1, d1, ds1, p1, q1, rfl, rfl, rfl, h1, r1⟩ := trodAll_cons r0
  obtain ⟨rfl, rfl, rfl⟩ := trodAll_nil r1
  obtain rfl : args = #[v0, v1] := by cases args; simp_all
  clear hargs
  obtain ⟨A0, a0, c0, rfl, y0, x0, z0⟩ := open_list Try.underlying22 1 (by kernel_rfl) (by omega) encByte _ Byte_el (hval 0 22 v0 rfl rfl) h0
  obtain ⟨A1, a1, c1, rfl, y1, x1, z1⟩ := open_list Try.underlying22 1 (by kernel_rfl) (by omega) encByte _ Byte_el (hval 1 22 v1 rfl rfl) h1
  refine (slipsLaw W a0 A0 c0 x0 (by unfold maxLen at y0; omega) z0 a1 A1 c1 x1 (by unfold maxLen at y1; omega) z1).mono fun e W' ⟨he, hg⟩ => ?_
  subst he
  exact ⟨_, rfl, law_post laid reads rfl Try.underlying4 rfl rfl hW' hg⟩
theorem over : Rows.fnSlipsRow.holds Try.pinned (OpenSpec.ofChange Rows.fnSlipsSpec) :=
  OpenClaim.holds_of_wide 3 Try.f3 rfl rfl rfl rfl rfl rfl rfl ⟨rfl, rfl, rfl, rfl, rfl⟩ rfl rfl rfl rfl rfl (by kernel_rfl) Try.func3 facts
    (of_decide_eq_true (by kernel_rfl)) (by unfold Func.isWrapper; first | (rw [if_pos (by decide +kernel)]; kernel_rfl) | (rw [if_neg (by decide +kernel)]; exact ⟨rfl, rfl⟩))
    (fun os started H enc _ => lifted os started H enc)
theorem proved : Rows.FnSlipsSaid := over
end fnSlips
end Go.Proofs.Ytbfhfnejppfehaa
