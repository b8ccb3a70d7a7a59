/-
  FnSwaps: both sides agree; the exchanges are as many as the cycles and the inversions say.
-/
import Derived.Test.YtdecjijldcbnjaaSwapsP
import Derived.Test.YtdecjijldcbnjaaByte
import Derived.Test.YtdecjijldcbnjaaRow
import Derived.Test.YtdecjijldcbnjaaFaSwaps
namespace Go.Proofs.Ytdecjijldcbnjaa
open CycT (Cy Part Run)
open Go.RowKit Go.ChangeShapes Go.WideShapes Go.Deep
set_option linter.unusedVariables false
set_option linter.unusedSimpArgs false
set_option maxRecDepth 100000

set_option maxHeartbeats 8000000 in
theorem swapsLaw (w : World) (l : List Int) (A : Option Addr) (c : Nat) (h : RdL w w.heap.size A 1 encByte l) (hl : l.length ≤ 9223372036854775807) (hb : ∀ x ∈ l, Byte_small 9223372036854775807 x) (l' : List Int) (A' : Option Addr) (c' : Nat) (h' : RdL w w.heap.size A' 1 encByte l') (hl' : l'.length ≤ 9223372036854775807) (hb' : ∀ x ∈ l', Byte_small 9223372036854775807 x) :
    Calls Try.prog 3 #[.slice A l.length c, .slice A' l'.length c'] w fun e w' => e = .returned (.bool true) ∧ Below w.heap.size w w' := by
  have H := Lib.hid h
  have Hb := Lib.hid hb
  clear h hb h' hb'
  obtain ⟨N, hN⟩ : ∃ N : Bool, decide ((1048576 : Int) < wrap64 ((l.length : Int) + (l'.length : Int))) = N := ⟨_, rfl⟩
  cases N
  rotate_left
  · go_enter Try.func3, Try.ntmps3
    go_wp2
    go_ret
    exact ⟨rfl, Below.refl _ _⟩
  go_enter Try.func3, Try.ntmps3
  go_upto_region 4 with (go_at_call 11; refine (drawLeastSwaps_any A c l _ H.out Hb.out hl).mono ?_; rintro e w1 ⟨a, b, rfl, ha9, hb9, hb1⟩; have HB1 := Lib.hid hb1; clear hb1)
  clear hN
  by_cases ht : two a b
  rotate_left
  · have H2 := Lib.hid ht
    clear ht
    go_wp2_with (first
      | (go_at_call 12; refine (iLeast_f a b _ H2.out).mono ?_; rintro e w2 ⟨rfl, hb2⟩; have HB2 := Lib.hid (HB1.out.trans (hb2.mono HB1.out.size)); clear hb2)
      | (go_at_call 13; refine (sLeast_f a b _ H2.out).mono ?_; rintro e w3 ⟨rfl, hb3⟩; have HB3 := Lib.hid (HB2.out.trans (hb3.mono HB2.out.size)); clear hb3)
      | (go_at_call 14; refine (iSide_f a b _ H2.out).mono ?_; rintro e w4 ⟨rfl, hb4⟩; have HB4 := Lib.hid (HB3.out.trans (hb4.mono HB3.out.size)); clear hb4)
      | (go_at_call 15; refine (sSide_f a b _ H2.out).mono ?_; rintro e w5 ⟨rfl, hb5⟩; have HB5 := Lib.hid (HB4.out.trans (hb5.mono HB4.out.size)); clear hb5)
      | (go_at_call 16; refine (iDrift_f a b _ H2.out).mono ?_; rintro e w6 ⟨rfl, hb6⟩; have HB6 := Lib.hid (HB5.out.trans (hb6.mono HB5.out.size)); clear hb6)
      | (go_at_call 17; refine (sDrift_f a b _ H2.out).mono ?_; rintro e w7 ⟨rfl, hb7⟩; have HB7 := Lib.hid (HB6.out.trans (hb7.mono HB6.out.size)); clear hb7)
      | (go_at_call 18; refine (iWrong_f a b _ H2.out).mono ?_; rintro e w8 ⟨rfl, hb8⟩; have HB8 := Lib.hid (HB7.out.trans (hb8.mono HB7.out.size)); clear hb8)
      | (go_at_call 19; refine (sWrong_f a b _ H2.out).mono ?_; rintro e w9 ⟨rfl, hb9⟩; have HB9 := Lib.hid (HB8.out.trans (hb9.mono HB8.out.size)); clear hb9)
      | (go_at_call 20; refine (qSameP_t [] none none 0 0 _ ⟨[], rfl, RdL.nil, by simp⟩ ⟨[], rfl, RdL.nil, by simp⟩ (by simp) (by simp)).mono ?_; rintro e wa ⟨rfl, na, rfl⟩)
      | (go_at_call 21; refine (qSameN_t [] none none 0 0 _ RdL.nil RdL.nil (by simp)).mono ?_; rintro e wa ⟨rfl, nb, rfl⟩))
    go_ret
    exact ⟨rfl, by repeat (first | exact HB9.out | refine below_drewN ?_ _)⟩
  obtain ⟨LE, hLE⟩ : ∃ x, Hid (leastL a b = x) := ⟨_, Lib.hid rfl⟩
  obtain ⟨SL, hSL⟩ : ∃ x, Hid (bubS b 600 a = x) := ⟨_, Lib.hid rfl⟩
  obtain ⟨WL, hWL⟩ : ∃ x, Hid (wrongL a b a.size = x) := ⟨_, Lib.hid rfl⟩
  obtain ⟨DR, hDR⟩ : ∃ x, Hid (driftS a b = x) := ⟨_, Lib.hid rfl⟩
  have hIL : Hid (∀ W, Calls Try.prog 12 #[.string a, .string b] W fun e w' => ∃ A c, e = .returned (.tuple #[.slice A LE.length c, .bool true]) ∧ OwnS w' W.heap.size w'.heap.size A LE ∧ Below W.heap.size W w') := Lib.hid fun W => by have := iLeast_t a b W ht; rw [hLE.out] at this; exact this
  have hSL2 : Hid (∀ W, Calls Try.prog 13 #[.string a, .string b] W fun e w' => ∃ A c, e = .returned (.tuple #[.slice A LE.length c, .bool true]) ∧ OwnS w' W.heap.size w'.heap.size A LE ∧ Below W.heap.size W w') := Lib.hid fun W => by have := sLeast_t a b W ht; rw [hLE.out] at this; exact this
  have hIS : Hid (∀ W, Calls Try.prog 14 #[.string a, .string b] W fun e w' => ∃ A c, e = .returned (.tuple #[.slice A SL.length c, .bool true]) ∧ OwnL w' W.heap.size w'.heap.size A 1 encInt SL ∧ Below W.heap.size W w') := Lib.hid fun W => by have := iSide_t a b W ht; rw [hSL.out] at this; exact this
  have hSS : Hid (∀ W, Calls Try.prog 15 #[.string a, .string b] W fun e w' => ∃ A c, e = .returned (.tuple #[.slice A SL.length c, .bool true]) ∧ OwnL w' W.heap.size w'.heap.size A 1 encInt SL ∧ Below W.heap.size W w') := Lib.hid fun W => by have := sSide_t a b W ht; rw [hSL.out] at this; exact this
  have hID : Hid (∀ W, Calls Try.prog 16 #[.string a, .string b] W fun e w' => e = .returned (.tuple #[.string DR, .bool true]) ∧ Below W.heap.size W w') := Lib.hid fun W => by have := iDrift_t a b W ht; rw [hDR.out] at this; exact this
  have hSD : Hid (∀ W, Calls Try.prog 17 #[.string a, .string b] W fun e w' => e = .returned (.tuple #[.string DR, .bool true]) ∧ Below W.heap.size W w') := Lib.hid fun W => by have := sDrift_t a b W ht; rw [hDR.out] at this; exact this
  have hIW : Hid (∀ W, Calls Try.prog 18 #[.string a, .string b] W fun e w' => ∃ A c, e = .returned (.tuple #[.slice A WL.length c, .bool true]) ∧ OwnL w' W.heap.size w'.heap.size A 1 encInt WL ∧ Below W.heap.size W w') := Lib.hid fun W => by have := iWrong_t a b W ht; rw [hWL.out] at this; exact this
  have hSW : Hid (∀ W, Calls Try.prog 19 #[.string a, .string b] W fun e w' => ∃ A c, e = .returned (.tuple #[.slice A WL.length c, .bool true]) ∧ OwnL w' W.heap.size w'.heap.size A 1 encInt WL ∧ Below W.heap.size W w') := Lib.hid fun W => by have := sWrong_t a b W ht; rw [hWL.out] at this; exact this
  have hDrow : Hid (isRow DR) := Lib.hid (hDR.out ▸ drift_row ht)
  have hDsz : Hid (DR.size = a.size) := Lib.hid (hDR.out ▸ size_drift a b)
  have hT1 : Hid (∀ W, Calls Try.prog 23 #[.string DR, .string a] W fun e w' => e = .returned (.tuple #[.string b, .bool true]) ∧ Below W.heap.size W w') := Lib.hid fun W => by have := sTimes_t DR a W ⟨hDrow.out, ht.1, hDsz.out⟩; rw [← hDR.out, drift_back ht] at this; rw [← hDR.out]; exact this
  have hLe1 : Hid (LE.length ≤ 8 ∧ ∀ x ∈ LE, x.length ≤ 1048576) := Lib.hid (by
    have h8 := ht.1.2.1
    have := lsw_len a b a.size
    rw [← hLE.out]
    refine ⟨by unfold leastL; omega, fun x hx => ?_⟩
    have h2 := tot_le hx
    unfold leastL at h2 hx
    omega)
  have hSl1 : Hid (SL.length ≤ 600) := Lib.hid (hSL.out ▸ bubS_len b 600 a)
  have hWl1 : Hid (WL.length ≤ 8) := Lib.hid (by have h8 := ht.1.2.1; have := wrongL_len a b a.size; rw [← hWL.out]; omega)
  go_upto_region 12 with (first
    | (go_at_call 12; refine (hIL.out _).mono ?_; rintro e w2 ⟨A2, c2, rfl, ho2, hb2⟩; have O2 := Lib.hid ho2; have K2 := Lib.hid hb2; clear ho2 hb2)
    | (go_at_call 13; refine (hSL2.out _).mono ?_; rintro e w3 ⟨A3, c3, rfl, ho3, hb3⟩; have O3 := Lib.hid ho3; have K3 := Lib.hid hb3; clear ho3 hb3)
    | (go_at_call 14; refine (hIS.out _).mono ?_; rintro e w4 ⟨A4, c4, rfl, ho4, hb4⟩; have O4 := Lib.hid ho4; have K4 := Lib.hid hb4; clear ho4 hb4)
    | (go_at_call 15; refine (hSS.out _).mono ?_; rintro e w5 ⟨A5, c5, rfl, ho5, hb5⟩; have O5 := Lib.hid ho5; have K5 := Lib.hid hb5; clear ho5 hb5)
    | (go_at_call 16; refine (hID.out _).mono ?_; rintro e w6 ⟨rfl, hb6⟩; have K6 := Lib.hid hb6; clear hb6)
    | (go_at_call 17; refine (hSD.out _).mono ?_; rintro e w7 ⟨rfl, hb7⟩; have K7 := Lib.hid hb7; clear hb7)
    | (go_at_call 18; refine (hIW.out _).mono ?_; rintro e w8 ⟨A8, c8, rfl, ho8, hb8⟩; have O8 := Lib.hid ho8; have K8 := Lib.hid hb8; clear ho8 hb8)
    | (go_at_call 19; refine (hSW.out _).mono ?_; rintro e w9 ⟨A9, c9, rfl, ho9, hb9⟩; have O9 := Lib.hid ho9; have K9 := Lib.hid hb9; clear ho9 hb9))
  have E8 := K9.out
  have E7 := K8.out.trans (E8.mono K8.out.size)
  have E6 := K7.out.trans (E7.mono K7.out.size)
  have E5 := K6.out.trans (E6.mono K6.out.size)
  have E4 := K5.out.trans (E5.mono K5.out.size)
  have E3 := K4.out.trans (E4.mono K4.out.size)
  have E2 := K3.out.trans (E3.mono K3.out.size)
  have E1 := K2.out.trans (E2.mono K2.out.size)
  have BW9 := Lib.hid (HB1.out.trans (E1.mono HB1.out.size))
  have R2 := Lib.hid ((O2.out.later E2).rd trivial)
  have R3 := Lib.hid ((O3.out.later E3).rd trivial)
  have R4 := Lib.hid ((O4.out.later E4).rd encInt_len)
  have R5 := Lib.hid ((O5.out.later E5).rd encInt_len)
  have R8 := Lib.hid ((O8.out.later E8).rd encInt_len)
  have R9 := Lib.hid (O9.out.rd encInt_len)
  clear E1 E2 E3 E4 E5 E6 E7 E8 K2 K3 K4 K5 K6 K7 K8 K9 O2 O3 O4 O5 O8 O9 hIL hSL2 hIS hSS hID hSD hIW hSW
  go_upto_region 16 with (first
    | (go_at_call 20; refine (qSameP_t LE A2 A3 c2 c3 _ R2.out R3.out (by have := hLe1.out.1; omega) hLe1.out.2).mono ?_; rintro e wa ⟨rfl, na, rfl⟩)
    | (go_at_call 21; with_reducible show Calls _ _ #[Value.slice A4 _ _, _] _ _; refine (qSameN_t SL A4 A5 c4 c5 _ (R4.out.drewN na) (R5.out.drewN na) (by have := hSl1.out; omega)).mono ?_; rintro e wa ⟨rfl, nb, rfl⟩)
    | (go_at_call 21; with_reducible show Calls _ _ #[Value.slice A8 _ _, _] _ _; refine (qSameN_t WL A8 A9 c8 c9 _ ((R8.out.drewN na).drewN nb) ((R9.out.drewN na).drewN nb) (by have := hWl1.out; omega)).mono ?_; rintro e wa ⟨rfl, nc, rfl⟩))
  have BW12 : Hid (Below w.heap.size w (w9.drewN (na + nb + nc))) := Lib.hid (below_drewN BW9.out _)
  generalize w9.drewN (na + nb + nc) = w10 at *
  obtain ⟨TU, hTU⟩ : ∃ x, Hid (turnS b = x) := ⟨_, Lib.hid rfl⟩
  have hTr : Hid (∀ W, Calls Try.prog 24 #[.string b] W fun e w' => e = .returned (.tuple #[.string TU, .bool true]) ∧ Below W.heap.size W w') := Lib.hid fun W => by have := sTurnRow_t b W ht.2.1; rw [hTU.out] at this; exact this
  obtain ⟨X, hX⟩ : ∃ x, Hid (timesS TU a = x) := ⟨_, Lib.hid rfl⟩
  have hT2 : Hid (∀ W, Calls Try.prog 23 #[.string TU, .string a] W fun e w' => e = .returned (.tuple #[.string X, .bool true]) ∧ Below W.heap.size W w') := Lib.hid fun W => by
    have := sTimes_t TU a W ⟨by rw [← hTU.out]; exact turn_row ht.2.1, ht.1, by rw [← hTU.out, size_turn]; exact ht.2.2.symm⟩
    rw [hX.out] at this; exact this
  go_upto_region 22 with (first
    | (go_at_call 22; refine (cyclesOf_t DR _ hDrow.out).mono ?_; rintro e w11 ⟨AC, cC, hs, C, rfl, hP, hH, hr, hb11⟩; have HP := Lib.hid hP; have HH := Lib.hid hH; have HR := Lib.hid hr; have K11 := Lib.hid hb11; clear hP hH hr hb11)
    | (go_at_call 24; refine (hTr.out _).mono ?_; rintro e w13 ⟨rfl, hb13⟩; have K13 := Lib.hid hb13; clear hb13)
    | (go_at_call 23; with_reducible show Calls _ _ #[Value.string DR, _] _ _; refine (hT1.out _).mono ?_; rintro e w12 ⟨rfl, hb12⟩; have K12 := Lib.hid hb12; clear hb12)
    | (go_at_call 23; with_reducible show Calls _ _ #[Value.string TU, _] _ _; refine (hT2.out _).mono ?_; rintro e w14 ⟨rfl, hb14⟩; have K14 := Lib.hid hb14; clear hb14))
  have F13 := K13.out.trans (K14.out.mono K13.out.size)
  have F12 := K12.out.trans (F13.mono K12.out.size)
  have F11 := K11.out.trans (F12.mono K11.out.size)
  have BW := Lib.hid (BW12.out.trans (F11.mono BW12.out.size))
  have HR2 := Lib.hid ((HR.out.below F12 (Nat.le_refl _)).more F12.size)
  have h8 := ht.1.2.1
  have hEx : CycT.excess C + C.length ≤ 8 := by
    have h1 := CycT.nodupN_le _ _ HP.out.nd HP.out.lt
    rw [CycT.len_flat, hDsz.out] at h1; omega
  have hhl := HH.out.len
  have hP2 : Part a.size (rowF (driftS a b)) C a.size := by have := HP.out; rw [hDsz.out, ← hDR.out] at this; exact this
  have n1 : LE.length = CycT.excess C := by rw [← hLE.out]; exact least_len ht hP2
  have n2 : SL.length = InvT.inv (plc b a) a.size := by rw [← hSL.out]; exact side_len ht
  have n3 : WL.length = CycT.excess C + C.length := by rw [← hWL.out]; exact wrong_len ht hP2
  have N1 := Lib.hid n1
  have N2 := Lib.hid n2
  have N3 := Lib.hid n3
  have Hhl := Lib.hid hhl
  have hhs8 : hs.length ≤ 8 := by omega
  obtain ⟨EX, hEXd⟩ : ∃ EX : Nat → Int, Hid (EX = fun j => (CycT.excess (C.take j) : Int)) := ⟨_, Lib.hid rfl⟩
  have hE1 : Hid (∀ (j : Nat) (hj : j < hs.length), EX (j + 1) = EX j + ((hs[j].n : Int) - 1) ∧ 1 ≤ hs[j].n) := Lib.hid fun j hj => by rw [hEXd.out]; exact exc_step HH.out j hj
  have hE2 : Hid (∀ j, 0 ≤ EX j ∧ EX j ≤ 8) := Lib.hid fun j => by rw [hEXd.out]; have := exc_le C j; simp only; omega
  have hE3 : Hid (EX hs.length = (CycT.excess C : Int)) := Lib.hid (by rw [hEXd.out]; simp only; rw [hhl, List.take_length])
  have hE0 : Hid (EX 0 = 0) := Lib.hid (by rw [hEXd.out]; rfl)
  clear n1 n2 n3 hhl hP2 F11 F12 F13 K11 K12 K13 K14 hT1 hT2 hTr
  go_upto_region 24 with fail
  go_loop [31, 182] (fun s j => ∃ k : Nat, k ≤ hs.length ∧ j = .int .i64 k ∧ s = .int .i64 (EX k)) (fun _ j => hs.length - (intOf j).toNat)
  case atStart => exact ⟨0, by omega, by rfl, by rw [hE0.out]⟩
  case round =>
    obtain ⟨k, hk, rfl, rfl⟩ := hrel
    obtain ⟨e1, e2⟩ := hE2.out k
    by_cases hlt : k < hs.length
    · obtain ⟨f1, f2⟩ := hE1.out k hlt
      obtain ⟨g1, g2⟩ := hE2.out (k + 1)
      have F1 := Lib.hid f1
      obtain ⟨g, off, hA, hg, hcell⟩ := HR2.out.at hlt
      subst hA
      have r0 : w14.cell? ⟨g, off + k, none⟩ = some (.slice hs[k].A hs[k].n hs[k].c) := by have := hcell 0 _ rfl; rw [Nat.mul_one] at this; exact this
      clear hcell
      generalize hs[k] = x at r0 f1 f2 F1
      have hxn : x.n ≤ 10 := by omega
      clear f1
      go_wp2
      go_round
      case rel => exact ⟨k + 1, by omega, by go_num, by rw [F1.out]⟩
      case measure => simp [intOf]; omega
    · obtain rfl : k = hs.length := by omega
      rw [hE3.out]
      clear hE1 hE2 e1 e2
      have hXs : X.size = a.size := by rw [← hX.out, size_times]
      have hXb : Hid (∀ i, i < a.size → bat X i = 48 + plc b a i) := Lib.hid (fun i hi => by rw [← hX.out, ← hTU.out]; exact bat_x ht hi)
      have hpl : Hid (∀ i, i < a.size → 1 ≤ plc b a i ∧ plc b a i ≤ 8) := Lib.hid (fun i hi => by have := plc_in b a ht.2.1 ht.1 ht.2.2 i hi; have := ht.2.2; omega)
      obtain ⟨p, hp⟩ : ∃ p, Hid (plc b a = p) := ⟨_, Lib.hid rfl⟩
      rw [hp.out] at hXb hpl N2
      have h128 : Hid (∀ i (hi : i < X.size), (X[i]'hi).toNat < 128) := Lib.hid (fun i hi => by
        have h1 := hXb.out i (by omega)
        have h2 := hpl.out i (by omega)
        have h3 : bat X i = ((X[i]'hi).toNat : Int) := by
          unfold bat
          rw [show ((i : Nat) : Int).toNat = i by omega, List.getD_eq_getElem?_getD, List.getElem?_eq_getElem (by simpa using hi)]
          rfl
        omega)
      have hk0 : Hid ((w14.iter X 0).heap[w14.heap.size]? = some (.stringIter X 0)) := Lib.hid (World.iter_heap w14 X 0)
      have hb0 : Hid (Below w14.heap.size w14 (w14.iter X 0)) := Lib.hid ((Below.refl _ w14).alloc (Nat.le_refl _) _)
      have hiv : Hid (∀ i, i ≤ a.size → InvT.inv p i ≤ 64) := Lib.hid (fun i hi => by have := inv_le p i (by omega); omega)
      go_upto_region 30 with fail
      go_loopw [34] (fun s wr => ∃ i : Nat, i ≤ a.size ∧ s = .int .i64 (InvT.inv p i : Nat) ∧ Hid (wr.heap[w14.heap.size]? = some (.stringIter X i)) ∧ Below w14.heap.size w14 wr) (fun _ wr => X.size - wr.iterPos w14.heap.size)
      case atStart => exact ⟨0, by omega, by rfl, hk0, hb0.out⟩
      case round =>
        obtain ⟨i, hi, rfl, hit, hbl⟩ := hrel
        have Hbl := Lib.hid hbl
        clear hbl hk0 hb0
        by_cases hlt : i < X.size
        · have hnext : ∀ ty, (Instr.next (.pointer (some ⟨w14.heap.size, 0, none⟩)) true ty).run Try.prog wr = _ := fun ty => Lib.run_next_ascii_at wr w14.heap.size X i ty hit.out hlt (h128.out i hlt)
          have hk1 := Lib.hid (Lib.iterAt_heap wr w14.heap.size X i (i + 1) hit.out)
          have hb1 : Hid (Below w14.heap.size w14 (wr.iterAt w14.heap.size X (i + 1))) := Lib.hid (Lib.below_iterAt Hbl.out (Nat.le_refl _) X (i + 1))
          have hmu : wr.iterPos w14.heap.size = i := by simp [World.iterPos, hit.out]
          generalize wr.iterAt w14.heap.size X (i + 1) = W1 at hnext hk1 hb1
          go_upto_region 33 with fail
          have hia : i < a.size := by omega
          obtain ⟨AB, hAB⟩ : ∃ AB : Nat → Int, Hid (AB = fun j => ((InvT.above p (p i) j : Nat) : Int)) := ⟨_, Lib.hid rfl⟩
          have hA0 : Hid (AB 0 = 0) := Lib.hid (by rw [hAB.out]; rfl)
          have hA1 : Hid (∀ j, p j > p i → AB (j + 1) = AB j + 1) := Lib.hid (fun j hj => by rw [hAB.out]; simp only [InvT.above]; rw [if_pos hj]; omega)
          have hA2 : Hid (∀ j, ¬ p j > p i → AB (j + 1) = AB j) := Lib.hid (fun j hj => by rw [hAB.out]; simp only [InvT.above]; rw [if_neg hj]; omega)
          have hA3 : Hid (∀ j, j ≤ i → 0 ≤ AB j ∧ AB j ≤ 8) := Lib.hid (fun j hj => by rw [hAB.out]; have := above_le p (p i) j; simp only; omega)
          obtain ⟨I0, hI0⟩ : ∃ I0 : Int, Hid (((InvT.inv p i : Nat) : Int) = I0) := ⟨_, Lib.hid rfl⟩
          have hI1 : 0 ≤ I0 ∧ I0 ≤ 64 := by have := hiv.out i (by omega); rw [← hI0.out]; omega
          obtain ⟨i1, i2⟩ := hI1
          have hI2 : Hid (((InvT.inv p (i + 1) : Nat) : Int) = I0 + AB i) := Lib.hid (by rw [hAB.out, ← hI0.out]; simp only [InvT.inv]; omega)
          rw [hI0.out]
          go_loopw [34, 36] (fun s k wi => ∃ j : Nat, j ≤ i ∧ k = .int .i64 j ∧ s = .int .i64 (I0 + AB j) ∧ ∃ m, wi = W1.drewN m) (fun _ k _ => i - (intOf k).toNat)
          case atStart => exact ⟨0, by omega, by rfl, by rw [hA0.out]; simp, 0, rfl⟩
          case round =>
            obtain ⟨j, hj, rfl, rfl, m, rfl⟩ := hrel
            obtain ⟨a1, a2⟩ := hA3.out j hj
            by_cases hji : j < i
            · have hja : j < X.size := by omega
              obtain ⟨a3, a4⟩ := hA3.out (j + 1) (by omega)
              have v1 := hXb.out j (by omega)
              have v2 := hXb.out i hia
              by_cases hgt : p j > p i
              · have dg : decide (bat X i < bat X j) = true := by simp; omega
                have st := hA1.out j hgt
                have St := Lib.hid st
                clear st v1 v2 hgt
                go_wp2
                go_quiet (fail)
                go_wp2
                go_roundw
                case rel => exact ⟨j + 1, by omega, by go_num, by rw [St.out, Int.add_assoc], by first | exact ⟨_, rfl⟩ | exact ⟨_, drew2 _ _ _⟩⟩
                case measure => simp [intOf]; omega
              · have dg : decide (bat X i < bat X j) = false := by simp; omega
                have st := hA2.out j hgt
                have St := Lib.hid st
                clear st v1 v2 hgt
                go_wp2
                go_quiet (fail)
                go_wp2
                go_roundw
                case rel => exact ⟨j + 1, by omega, by go_num, by rw [St.out], by first | exact ⟨_, rfl⟩ | exact ⟨_, drew2 _ _ _⟩⟩
                case measure => simp [intOf]; omega
            · obtain rfl : j = i := by omega
              rw [← hI2.out]
              go_wp2
              go_roundw
              case rel => exact ⟨j + 1, by omega, rfl, hk1, below_drewN hb1.out m⟩
              case measure =>
                have hmu2 : (W1.drewN m).iterPos w14.heap.size = j + 1 := by have := hk1.out; simp [World.iterPos, this]
                rw [hmu, hmu2]; omega
        · obtain rfl : i = a.size := by omega
          have hnext : ∀ ty, (Instr.next (.pointer (some ⟨w14.heap.size, 0, none⟩)) true ty).run Try.prog wr = _ := fun ty => Lib.run_next_end_at wr w14.heap.size X a.size ty (by have := hit.out; exact this) (by omega)
          have d1 : ((LE.length : Int) == (CycT.excess C : Int)) = true := beq_iff_eq.2 (by rw [N1.out])
          have d2 : ((SL.length : Int) == (InvT.inv p a.size : Int)) = true := beq_iff_eq.2 (by rw [N2.out])
          have d3 : ((WL.length : Int) == (CycT.excess C : Int) + (hs.length : Int)) = true := beq_iff_eq.2 (by rw [N3.out, Hhl.out]; simp)
          go_wp2
          go_ret
          exact ⟨rfl, BW.out.trans (Hbl.out.mono BW.out.size)⟩
namespace fnSwaps
open Go.ChangeShapes Go.WideShapes Go.ChangeAt Go.RowKit Go.Deep
open Go.ChangeMaps (open_string shut_string)
theorem own : ownKnob Try.prog.godebug = none := by kernel_rfl
theorem laid : laidOutB Try.prog = true := by kernel_rfl
theorem reads : Try.f3.params.toList.all (fun t => Try.prog.readableRec t && decide (t < Try.prog.types.size)) = true := by kernel_rfl
set_option maxRecDepth 100000 in
theorem lifted (os : Os) (started : os.Started) (H : Type) (enc : TypeId × Value → H) :
    ReturnsInHanded {} Try.checked os 3 .any (Rows.fnSwapsSpec.pre6 enc Try.prog Try.f3 Rows.fnSwapsRow.domain false) (Rows.fnSwapsSpec.post enc Try.prog Try.f3 false true false false) := by
  refine returnsInHanded_of_change (C := Try.checked) own started (by kernel_rfl) Try.func3
    (ChangeSpec.witness6 (enc := enc) (C := Try.checked) false ⟨#[], #[.slice none 0 0, .slice none 0 0], []⟩ 8 (by kernel_rfl) (by kernel_rfl) (by kernel_rfl) (by kernel_rfl)) ?_
  intro W base args ds gs before hval0 hW hcnd _
  have hval : ∀ (j : Nat) t v, Try.f3.params[j]? = some t → args[j]? = some v → Value.okWide Try.prog W .any base t v := hval0
  have hW' := hW
  obtain ⟨p, q, hA0, hV, rfl, hfz, hnd⟩ := hW
  have hA : DataW.TrodAll enc Try.prog W 0 (fun _ => true) true Try.f3.params.toList args.toList ds p := hA0
  rw [Try.params3] at hA hval
  obtain ⟨rfl, rfl⟩ := trodVars_none hV
  have hlt : ∀ x ∈ p, x.block < W.heap.size := fun x hx => by simpa using hW'.lt x (List.mem_append.2 (.inl hx))
  clear hA0 hval0
  obtain ⟨v0, vs0, d0, ds0, p0, q0, hargs, rfl, rfl, h0, r0⟩ := trodAll_cons hA
  obtain ⟨v1, vs1, d1, ds1, p1, q1, rfl, rfl, rfl, h1, r1⟩ := trodAll_cons r0
  obtain ⟨rfl, rfl, rfl⟩ := trodAll_nil r1
  obtain rfl : args = #[v0, v1] := by cases args; simp_all
  clear hargs
  obtain ⟨A0, a0, c0, rfl, y0, x0, z0⟩ := open_list Try.underlying22 1 (by kernel_rfl) (by omega) encByte _ Byte_el (hval 0 22 v0 rfl rfl) h0
  obtain ⟨A1, a1, c1, rfl, y1, x1, z1⟩ := open_list Try.underlying22 1 (by kernel_rfl) (by omega) encByte _ Byte_el (hval 1 22 v1 rfl rfl) h1
  refine (swapsLaw W a0 A0 c0 x0 (by unfold maxLen at y0; omega) z0 a1 A1 c1 x1 (by unfold maxLen at y1; omega) z1).mono fun e W' ⟨he, hg⟩ => ?_
  subst he
  exact ⟨_, rfl, law_post laid reads rfl Try.underlying4 rfl rfl hW' hg⟩
theorem over : Rows.fnSwapsRow.holds Try.pinned (OpenSpec.ofChange Rows.fnSwapsSpec) :=
  OpenClaim.holds_of_wide 3 Try.f3 rfl rfl rfl rfl rfl rfl rfl ⟨rfl, rfl, rfl, rfl, rfl⟩ rfl rfl rfl rfl rfl (by kernel_rfl) Try.func3 facts
    (of_decide_eq_true (by kernel_rfl)) (by unfold Func.isWrapper; first | (rw [if_pos (by decide +kernel)]; kernel_rfl) | (rw [if_neg (by decide +kernel)]; exact ⟨rfl, rfl⟩))
    (fun os started H enc _ => lifted os started H enc)
theorem proved : Rows.FnSwapsSaid := over
end fnSwaps
end Go.Proofs.Ytdecjijldcbnjaa
