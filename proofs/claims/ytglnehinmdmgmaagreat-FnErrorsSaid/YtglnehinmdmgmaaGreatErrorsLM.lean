import Derived.Test.YtglnehinmdmgmaaGreatMErrorsL26
import Derived.Test.YtglnehinmdmgmaaGreatMErrorsL28
import Derived.Test.YtglnehinmdmgmaaGreatMErrorsL33
import Derived.Test.YtglnehinmdmgmaaGreatMErrorsL35
import Derived.Test.YtglnehinmdmgmaaGreatMErrorsL01
import Derived.Test.YtglnehinmdmgmaaGreatMErrorsL36
/-
  FnErrors: errors are the differences from the beat, and the sums by bell are those of its blows: no condition.
-/
namespace Go.Proofs.YtglnehinmdmgmaaGreat
open Go.RowKit Go.ChangeShapes Go.WideShapes Go.Deep
set_option linter.unusedVariables false
set_option linter.unusedSimpArgs false
set_option maxRecDepth 100000

theorem neBlow_f (a b c : Int) (w : World) : (binOp .neq 43 (.agg #[.int .i64 a, .int .i64 b, .int .i64 c]) (.agg #[.int .i64 a, .int .i64 b, .int .i64 c])).run Tryz.prog w = .ok (.bool false) w := by
  have hs : (Tryz.prog).stoodInHeld 43 = false := by kernel_rfl
  rw [run_neq_struct, show (10000 : Nat) = 9999 + 1 from rfl, run_equalIn_struct w 9999 43 _ _ (by simp [Program.fieldsOf, Tryz.underlying43]) hs]
  simp only [Program.fieldsOf, Tryz.underlying43]
  simp [go_sem]
theorem drew2E (w : World) (n m : Nat) : (w.drewN n).drewN m = w.drewN (n + m) := by simp [World.drewN]; omega
theorem sameInts_t (l : List Int) (A A' : Option Addr) (c c' : Nat) (w : World) (h : RdL w w.heap.size A 1 encInt l) (h' : RdL w w.heap.size A' 1 encInt l) (hl : l.length ≤ 1048576) :
    Calls Tryz.prog 8 #[.slice A l.length c, .slice A' l.length c'] w fun e w' => e = .returned (.bool true) ∧ Below w.heap.size w w' := by
  have H := Lib.hid h
  have H' := Lib.hid h'
  clear h h'
  go_enter Tryz.func8, Tryz.ntmps8
  go_wp2
  go_loopw [13] (fun i wr => ∃ k : Nat, k ≤ l.length ∧ i = .int .i64 k ∧ ∃ n, wr = w.drewN n) (fun i _ => l.length - (intOf i).toNat)
  case atStart => exact ⟨0, by omega, by rfl, 0, rfl⟩
  case round =>
    obtain ⟨k, hk, rfl, hdr⟩ := hrel
    have Hdr := Lib.hid hdr
    clear hdr
    by_cases hlt : k < l.length
    · obtain ⟨g, off, hA, hg, hcell⟩ := H.out.at hlt
      obtain ⟨g', off', hA', hg', hcell'⟩ := H'.out.at hlt
      subst hA hA'
      have r0 : wr.cell? ⟨g, off + k, none⟩ = some (.int .i64 l[k]) := by obtain ⟨n, e⟩ := Hdr.out; rw [e]; have := hcell 0 _ rfl; rw [Nat.mul_one] at this; exact this
      have q0 : wr.cell? ⟨g', off' + k, none⟩ = some (.int .i64 l[k]) := by obtain ⟨n, e⟩ := Hdr.out; rw [e]; have := hcell' 0 _ rfl; rw [Nat.mul_one] at this; exact this
      clear hcell hcell'
      obtain ⟨x, hx⟩ : ∃ x, Hid (l[k] = x) := ⟨_, Lib.hid rfl⟩
      rw [hx.out] at r0 q0
      go_wp2
      go_quiet (fail)
      go_wp2
      go_roundw
      case rel => exact ⟨k + 1, by omega, by go_num, by obtain ⟨n, e⟩ := Hdr.out; rw [e, drew2E]; exact ⟨_, rfl⟩⟩
      case measure => simp [intOf]; omega
    · go_wp2
      go_ret
      exact ⟨rfl, by obtain ⟨n, e⟩ := Hdr.out; rw [e]; exact below_drewN (Below.refl _ _) n⟩



set_option maxHeartbeats 12800000 in
theorem errorsLaw (w : World) (l : List Int) (A : Option Addr) (c : Nat) (h : RdL w w.heap.size A 1 encByte l) (hl : l.length ≤ 9223372036854775807) (hb : ∀ x ∈ l, Byte_small 9223372036854775807 x) (l' : List Int) (A' : Option Addr) (c' : Nat) (h' : RdL w w.heap.size A' 1 encByte l') (hl' : l'.length ≤ 9223372036854775807) (hb' : ∀ x ∈ l', Byte_small 9223372036854775807 x) :
    Calls Tryz.prog 3 #[.slice A l.length c, .slice A' l'.length c'] w fun e w' => e = .returned (.bool true) ∧ Below w.heap.size w w' := by
  have H := Lib.hid h
  have Hb := Lib.hid hb
  have H' := Lib.hid h'
  have Hb' := Lib.hid hb'
  clear h hb h' hb'
  by_cases hbig : 1048576 < l.length + l'.length
  · have e0 := B_t hbig
    go_enter Tryz.func3, Tryz.ntmps3
    go_wp2_with (first | (go_at_call 4; refine (calls_bool (bigB_any _ _ A A' c c' w hl hl') e0).mono ?_; rintro e w1 ⟨rfl, rfl⟩) | fail)
    go_ret
    exact ⟨rfl, Below.refl _ _⟩
  have e0 := B_f hbig
  clear hbig
  go_enter Tryz.func3, Tryz.ntmps3
  go_upto_region 4 with (first | (go_at_call 4; refine (calls_bool (bigB_any _ _ A A' c c' w hl hl') e0).mono ?_; rintro e w1 ⟨rfl, rfl⟩) | (go_at_call 5; refine (drawWorstOf_any A c l _ H.out Hb.out hl).mono ?_; rintro e w1 ⟨E, A1, c1, R, A2, c2, L, A3, c3, rfl, hE, hR12, hR8, hL30, hL3, hr1, hr2, hr3, hb1⟩; have R1 := Lib.hid hr1; have R2 := Lib.hid hr2; have R3 := Lib.hid hr3; have B1 := Lib.hid hb1; have HR8 := Lib.hid hR8; clear hr1 hr2 hr3 hb1 hR8) | fail)
  clear e0
  obtain ⟨D1, hD1⟩ : ∃ D, Hid (woR E R L = D) := ⟨_, Lib.hid rfl⟩
  have hs1 : Hid (∀ x ∈ R, String_small 1048576 x) := Lib.hid fun x hx => by have := HR8.out x hx; unfold String_small; omega
  have hI1 : Hid (∀ W, Below w1.heap.size w1 W → Calls Tryz.prog 6 #[.slice A1 E.length c1, .slice A2 R.length c2, .slice A3 L.length c3] W fun e w' => WoC D1 W e w') := Lib.hid fun W hb => by
    have := iWo_r E R L A1 A2 A3 c1 c2 c3 W (R1.out.go hb) (R2.out.go hb) (R3.out.go hb) (by omega) (by omega) (by omega) hs1.out hL3
    rw [hD1.out] at this; exact this
  have hS1 : Hid (∀ W, Below w1.heap.size w1 W → Calls Tryz.prog 7 #[.slice A1 E.length c1, .slice A2 R.length c2, .slice A3 L.length c3] W fun e w' => WoC D1 W e w') := Lib.hid fun W hb => by
    have := sWo_r E R L A1 A2 A3 c1 c2 c3 W (R1.out.go hb) (R2.out.go hb) (R3.out.go hb) (by omega) (by omega) (by omega) hs1.out hL3
    rw [hD1.out] at this; exact this
  have hDl : D1.1.length ≤ 8 := by rw [← hD1.out]; exact woR_len
  obtain ⟨D, ok⟩ := D1
  simp only at hDl
  go_upto_region 6 with (first
    | (go_at_call 6; refine (hI1.out w1 (Below.refl _ _)).mono ?_; rintro e w2 ⟨A4, c4, rfl, ho2, hb2⟩; have O2 := Lib.hid ho2; have J2 := Lib.hid hb2; clear ho2 hb2)
    | (go_at_call 7; refine (hS1.out w2 J2.out).mono ?_; rintro e w3 ⟨A5, c5, rfl, ho3, hb3⟩; have O3 := Lib.hid ho3; have J3 := Lib.hid hb3; clear ho3 hb3)
    | fail)
  have K3 := Lib.hid (bgo J2.out J3.out)
  have hz2 := J2.out.size
  have hz3 := J3.out.size
  have QD := Lib.hid (((O2.out.later J3.out).mono (Nat.le_refl _) hz3).rd encInt_len)
  have QW := Lib.hid (O3.out.rd encInt_len)
  go_upto_region 8 with (first | (go_at_call 8; refine (sameInts_t D A4 A5 c4 c5 w3 QD.out QW.out (by omega)).mono ?_; rintro e ws ⟨rfl, hbs⟩; have JS := Lib.hid hbs; clear hbs) | fail)
  have K1S := Lib.hid (bgo K3.out JS.out)
  have BS := Lib.hid (bgo B1.out K1S.out)
  have QDs := Lib.hid (QD.out.go JS.out)
  have QEs := Lib.hid (R1.out.go K1S.out)
  clear hI1 hS1 O2 O3 QD QW R2 R3 hs1 HR8
  cases ok
  · go_upto_region 24 with fail
    clear hD1 QDs QEs
    go_upto_region 25 with (first | (go_at_call 9; refine (drawErrorsOf_any A' c' l' ws (H'.out.go BS.out) Hb'.out hl').mono ?_; rintro e w7 ⟨n, L2, A7, c7, ea, eb, ed, rfl, hL2, hc7, hr7, hb7⟩; have R7 := Lib.hid hr7; have B7 := Lib.hid (bgo BS.out hb7); clear hr7 hb7) | fail)
    obtain ⟨V7, hV7, HB7, HX7, hVs7⟩ : ∃ V : World, Hid (w7.alloc (.cells #[.int .i64 ea, .int .i64 eb, .int .i64 ed] 33) = V) ∧ Hid (Below w7.heap.size w7 V) ∧ Hid (Cells V w7.heap.size 3 (fun i => (#[Value.int .i64 ea, .int .i64 eb, .int .i64 ed] : Array Value).getD i undef)) ∧ w7.heap.size < V.heap.size := ⟨_, Lib.hid rfl, Lib.hid ((Below.refl _ _).alloc (Nat.le_refl _) _), Lib.hid (box3_new w7 _ _ _ _), by simp⟩
    rw [hV7.out]
    clear hV7
    have BV7 := Lib.hid (bgo B7.out HB7.out)
    obtain ⟨D2, hD2⟩ : ∃ D, Hid (errR n ea eb ed L2 = D) := ⟨_, Lib.hid rfl⟩
    have hEl : D2.1.length ≤ 400 := by rw [← hD2.out]; exact errR_len
    have hI2 : Hid (∀ W, Below w7.heap.size w7 W → Calls Tryz.prog 10 #[.int .i64 n, .slice A7 L2.length c7, .agg #[.int .i64 ea, .int .i64 eb, .int .i64 ed]] W fun e w' => ErC D2 W e w') := Lib.hid fun W hb => by
      have := iErrs_any n ea eb ed L2 A7 c7 W (R7.out.go hb) (by omega) hc7
      rw [hD2.out] at this; exact this
    have hS2 : Hid (∀ W, Below w7.heap.size w7 W → Calls Tryz.prog 11 #[.int .i64 n, .slice A7 L2.length c7, .agg #[.int .i64 ea, .int .i64 eb, .int .i64 ed]] W fun e w' => ErC D2 W e w') := Lib.hid fun W hb => by
      have := sErrs_any n ea eb ed L2 A7 c7 W (R7.out.go hb) (by omega) hc7
      rw [hD2.out] at this; exact this
    obtain ⟨E2, ok2⟩ := D2
    simp only at hEl
    clear hD2
    have p_0 : V7.cell? ⟨w7.heap.size, 0, none⟩ = some (.int .i64 ea) := (HX7.out).cell (i := 0) (by omega); have p_1 : V7.cell? ⟨w7.heap.size, 1, none⟩ = some (.int .i64 eb) := (HX7.out).cell (i := 1) (by omega); have p_2 : V7.cell? ⟨w7.heap.size, 2, none⟩ = some (.int .i64 ed) := (HX7.out).cell (i := 2) (by omega)
    go_upto_region 26 with (first | (go_at_call 10; refine (hI2.out V7 HB7.out).mono ?_; rintro e w8 ⟨A8, c8, rfl, _, ho8, hb8⟩; have O8 := Lib.hid ho8; have J8 := Lib.hid hb8; clear ho8 hb8) | fail)
    clear p_0 p_1 p_2
    have p_0 : w8.cell? ⟨w7.heap.size, 0, none⟩ = some (.int .i64 ea) := ((HX7.out.later J8.out)).cell (i := 0) (by omega); have p_1 : w8.cell? ⟨w7.heap.size, 1, none⟩ = some (.int .i64 eb) := ((HX7.out.later J8.out)).cell (i := 1) (by omega); have p_2 : w8.cell? ⟨w7.heap.size, 2, none⟩ = some (.int .i64 ed) := ((HX7.out.later J8.out)).cell (i := 2) (by omega)
    have K8 := Lib.hid (bgo HB7.out J8.out)
    go_upto_region 27 with (first | (go_at_call 11; refine (hS2.out w8 K8.out).mono ?_; rintro e w9 ⟨A9, c9, rfl, _, ho9, hb9⟩; have O9 := Lib.hid ho9; have J9 := Lib.hid hb9; clear ho9 hb9) | fail)
    clear p_0 p_1 p_2
    have O89 := Lib.hid (O8.out.later J9.out)
    have B9 := Lib.hid (bgo B7.out (bgo K8.out J9.out))
    have hz8 := J8.out.size
    have hz9 := J9.out.size
    clear hI2 hS2 HX7 R7
    go_upto_region 28 with (first | (go_at_call 12; refine (drawBlowsIn_any A' c' l' w9 (H'.out.go B9.out) Hb'.out hl').mono ?_; rintro e wA ⟨ba, bb, bd, R3, A3, c3, L3, A4, c4, sk, rfl, hR3, hR38, hL3, hr3, hr4, hbA⟩; have R3r := Lib.hid hr3; have L3r := Lib.hid hr4; have JA := Lib.hid hbA; have HR38 := Lib.hid hR38; clear hr3 hr4 hbA hR38) | fail)
    obtain ⟨VA, hVA, HBA, HXA, hVsA⟩ : ∃ V : World, Hid (wA.alloc (.cells #[.int .i64 ba, .int .i64 bb, .int .i64 bd] 33) = V) ∧ Hid (Below wA.heap.size wA V) ∧ Hid (Cells V wA.heap.size 3 (fun i => (#[Value.int .i64 ba, .int .i64 bb, .int .i64 bd] : Array Value).getD i undef)) ∧ wA.heap.size < V.heap.size := ⟨_, Lib.hid rfl, Lib.hid ((Below.refl _ _).alloc (Nat.le_refl _) _), Lib.hid (box3_new wA _ _ _ _), by simp⟩
    rw [hVA.out]
    clear hVA
    obtain ⟨D3, hD3⟩ : ∃ D, Hid (biR ba bb bd R3 L3 sk = D) := ⟨_, Lib.hid rfl⟩
    have hBl : D3.1.length ≤ 400 := by rw [← hD3.out]; exact biR_len
    have hs3 : Hid (∀ x ∈ R3, String_small 1048576 x) := Lib.hid fun x hx => by have := HR38.out x hx; unfold String_small; omega
    have hI3 : Hid (∀ W, Below wA.heap.size wA W → Calls Tryz.prog 13 #[.agg #[.int .i64 ba, .int .i64 bb, .int .i64 bd], .slice A3 R3.length c3, .slice A4 L3.length c4, .int .i64 sk] W fun e w' => BiC D3 W e w') := Lib.hid fun W hb => by
      have := iBlowsIn_any ba bb bd R3 L3 sk A3 A4 c3 c4 W (R3r.out.go hb) (L3r.out.go hb) (by omega) (by omega) hs3.out
      rw [hD3.out] at this; exact this
    have hS3 : Hid (∀ W, Below wA.heap.size wA W → Calls Tryz.prog 14 #[.agg #[.int .i64 ba, .int .i64 bb, .int .i64 bd], .slice A3 R3.length c3, .slice A4 L3.length c4, .int .i64 sk] W fun e w' => BiC D3 W e w') := Lib.hid fun W hb => by
      have := sBlowsIn_any ba bb bd R3 L3 sk A3 A4 c3 c4 W (R3r.out.go hb) (L3r.out.go hb) (by omega) (by omega) hs3.out
      rw [hD3.out] at this; exact this
    obtain ⟨S3, ok3⟩ := D3
    simp only at hBl
    clear hD3 R3r L3r hs3 HR38
    have p_0 : VA.cell? ⟨wA.heap.size, 0, none⟩ = some (.int .i64 ba) := (HXA.out).cell (i := 0) (by omega); have p_1 : VA.cell? ⟨wA.heap.size, 1, none⟩ = some (.int .i64 bb) := (HXA.out).cell (i := 1) (by omega); have p_2 : VA.cell? ⟨wA.heap.size, 2, none⟩ = some (.int .i64 bd) := (HXA.out).cell (i := 2) (by omega)
    go_upto_region 29 with (first | (go_at_call 13; refine (hI3.out VA HBA.out).mono ?_; rintro e wB ⟨AB, cB, rfl, hoB, hbB⟩; have OB := Lib.hid hoB; have JB := Lib.hid hbB; clear hoB hbB) | fail)
    clear p_0 p_1 p_2
    have p_0 : wB.cell? ⟨wA.heap.size, 0, none⟩ = some (.int .i64 ba) := ((HXA.out.later JB.out)).cell (i := 0) (by omega); have p_1 : wB.cell? ⟨wA.heap.size, 1, none⟩ = some (.int .i64 bb) := ((HXA.out.later JB.out)).cell (i := 1) (by omega); have p_2 : wB.cell? ⟨wA.heap.size, 2, none⟩ = some (.int .i64 bd) := ((HXA.out.later JB.out)).cell (i := 2) (by omega)
    have KB := Lib.hid (bgo HBA.out JB.out)
    go_upto_region 30 with (first | (go_at_call 14; refine (hS3.out wB KB.out).mono ?_; rintro e wC ⟨AC, cC, rfl, hoC, hbC⟩; have OC := Lib.hid hoC; have JC := Lib.hid hbC; clear hoC hbC) | fail)
    clear p_0 p_1 p_2 hI3 hS3 HXA
    have OBC := Lib.hid (OB.out.later JC.out)
    have J9C := Lib.hid (bgo JA.out (bgo KB.out JC.out))
    have BC := Lib.hid (bgo B9.out J9C.out)
    have hzC := J9C.out.size
    have hzB := JC.out.size
    have QE8 := Lib.hid (((O89.out.later J9C.out).mono (Nat.le_refl _) (by omega : w8.heap.size ≤ wC.heap.size)).rd encInt_len)
    have QE9 := Lib.hid (((O9.out.later J9C.out).mono (Nat.le_refl _) hzC).rd encInt_len)
    go_upto_region 32 with (first | (go_at_call 8; refine (sameInts_t E2 A8 A9 c8 c9 wC QE8.out QE9.out (by omega)).mono ?_; rintro e wD ⟨rfl, hbD⟩; have JD := Lib.hid hbD; clear hbD) | fail)
    have BD := Lib.hid (bgo BC.out JD.out)
    have QB := Lib.hid (((OBC.out.later JD.out).mono (Nat.le_refl _) (Nat.le_trans hzB JD.out.size)).rd Blw_enc_len)
    have QC := Lib.hid (((OC.out.later JD.out).mono (Nat.le_refl _) JD.out.size).rd Blw_enc_len)
    have EN := neBlow_f
    clear O8 O9 O89 OB OC OBC QE8 QE9
    go_upto_region 33 with fail
    go_loopw [159] (fun i wr => ∃ k : Nat, k ≤ S3.length ∧ i = .int .i64 k ∧ ∃ n, wr = wD.drewN n) (fun i _ => S3.length - (intOf i).toNat)
    case atStart => exact ⟨0, by omega, by rfl, 0, rfl⟩
    case round =>
      obtain ⟨k, hk, rfl, hdr⟩ := hrel
      have Hdr := Lib.hid hdr
      clear hdr
      by_cases hlt : k < S3.length
      · obtain ⟨g, off, hA, hg, hcell⟩ := QB.out.at hlt
        obtain ⟨g', off', hA', hg', hcell'⟩ := QC.out.at hlt
        subst hA hA'
        have r0 : wr.cell? ⟨g, off + k * 3, none⟩ = some (.int .i64 S3[k].row) := by obtain ⟨n, e⟩ := Hdr.out; rw [e]; exact hcell 0 _ rfl
        have r1 : wr.cell? ⟨g, off + k * 3 + 1, none⟩ = some (.int .i64 S3[k].place) := by obtain ⟨n, e⟩ := Hdr.out; rw [e]; exact hcell 1 _ rfl
        have r2 : wr.cell? ⟨g, off + k * 3 + 2, none⟩ = some (.int .i64 S3[k].at_) := by obtain ⟨n, e⟩ := Hdr.out; rw [e]; exact hcell 2 _ rfl
        have q0 : wr.cell? ⟨g', off' + k * 3, none⟩ = some (.int .i64 S3[k].row) := by obtain ⟨n, e⟩ := Hdr.out; rw [e]; exact hcell' 0 _ rfl
        have q1 : wr.cell? ⟨g', off' + k * 3 + 1, none⟩ = some (.int .i64 S3[k].place) := by obtain ⟨n, e⟩ := Hdr.out; rw [e]; exact hcell' 1 _ rfl
        have q2 : wr.cell? ⟨g', off' + k * 3 + 2, none⟩ = some (.int .i64 S3[k].at_) := by obtain ⟨n, e⟩ := Hdr.out; rw [e]; exact hcell' 2 _ rfl
        clear hcell hcell'
        obtain ⟨x, hx⟩ : ∃ x, Hid (S3[k] = x) := ⟨_, Lib.hid rfl⟩
        rw [hx.out] at r0 r1 r2 q0 q1 q2
        go_wp2
        go_quiet (fail)
        go_wp2
        go_roundw
        case rel => exact ⟨k + 1, by omega, by go_num, by obtain ⟨n, e⟩ := Hdr.out; rw [e, drew2E]; exact ⟨_, rfl⟩⟩
        case measure => simp [intOf]; omega
      · go_wp2
        go_ret
        exact ⟨rfl, by obtain ⟨n, e⟩ := Hdr.out; rw [e]; exact below_drewN BD.out n⟩
  obtain ⟨hsum, _, hDb, hE4, hEb⟩ := wo_facts hD1.out
  have Hsum := Lib.hid hsum
  have HDb := Lib.hid hDb
  have HEb := Lib.hid hEb
  have HDt := Lib.hid (fun k => sI_bdT (B := 4000000000) (by omega) hDb k)
  have HEt : Hid (∀ k, 0 ≤ sI ((E.map absI).take k) ∧ sI ((E.map absI).take k) ≤ 400 * 10000000) := Lib.hid fun k => by
    have h1 := sI_bdT (B := 10000000) (by omega) (l := E.map absI) (fun j hj => by
      rw [List.getElem_map]
      exact absI_bd (hEb j (by simpa using hj))) k
    have h2 : ((E.map absI).length : Int) * 10000000 ≤ 400 * 10000000 := Int.mul_le_mul_of_nonneg_right (by rw [List.length_map]; omega) (by omega)
    omega
  have HDs := Lib.hid (fun k (hk : k < D.length) => sI_take (l := D) hk)
  have HEs : Hid (∀ k (hk : k < E.length), sI ((E.map absI).take (k + 1)) = sI ((E.map absI).take k) + absI E[k]) := Lib.hid fun k hk => by
    rw [sI_take (by simpa using hk), List.getElem_map]
  have hDe : sI (D.take D.length) = sI D := by rw [List.take_length]
  have hEe : sI ((E.map absI).take E.length) = sI (E.map absI) := by rw [List.take_of_length_le (by simp)]
  have HDe := Lib.hid hDe
  have HEe := Lib.hid hEe
  clear hsum hDb hEb hDe hEe hD1
  obtain ⟨PD, hPD⟩ : ∃ P : Nat → Int, Hid ((fun k => sI (D.take k)) = P) := ⟨_, Lib.hid rfl⟩
  obtain ⟨PE, hPE⟩ : ∃ P : Nat → Int, Hid ((fun k => sI ((E.map absI).take k)) = P) := ⟨_, Lib.hid rfl⟩
  have hP0 : PD 0 = 0 := by rw [← hPD.out]; rfl
  have hQ0 : PE 0 = 0 := by rw [← hPE.out]; rfl
  have HPs : Hid (∀ k (hk : k < D.length), PD (k + 1) = PD k + D[k]) := Lib.hid fun k hk => by rw [← hPD.out]; exact HDs.out k hk
  have HQs : Hid (∀ k (hk : k < E.length), PE (k + 1) = PE k + absI E[k]) := Lib.hid fun k hk => by rw [← hPE.out]; exact HEs.out k hk
  have HPb : Hid (∀ k, 0 ≤ PD k ∧ PD k ≤ 8 * 4000000000) := Lib.hid fun k => by
    have h1 := HDt.out k
    have h2 : (D.length : Int) * 4000000000 ≤ 8 * 4000000000 := Int.mul_le_mul_of_nonneg_right (by omega) (by omega)
    rw [← hPD.out]; show 0 ≤ sI (D.take k) ∧ sI (D.take k) ≤ _; omega
  have HQb : Hid (∀ k, 0 ≤ PE k ∧ PE k ≤ 400 * 10000000) := Lib.hid fun k => by rw [← hPE.out]; exact HEt.out k
  have HEnd : Hid (PD D.length = PE E.length) := Lib.hid (by rw [← hPD.out, ← hPE.out]; show sI (D.take D.length) = sI ((E.map absI).take E.length); rw [HDe.out, HEe.out, Hsum.out])
  have HP0 := Lib.hid hP0
  have HQ0 := Lib.hid hQ0
  clear hP0 hQ0 HDt HEt HDs HEs HDe HEe Hsum hPD hPE
  go_upto_region 11 with fail
  go_loop [12, 68] (fun s i => ∃ k : Nat, k ≤ D.length ∧ i = .int .i64 k ∧ s = .int .i64 (PD k)) (fun _ i => D.length - (intOf i).toNat)
  case atStart => exact ⟨0, by omega, by rfl, by rw [HP0.out]⟩
  case round =>
    obtain ⟨k, hk, rfl, rfl⟩ := hrel
    obtain ⟨b1, b2⟩ := HPb.out k
    by_cases hlt : k < D.length
    · obtain ⟨gD, oD, hAD, hgD, hcD⟩ := QDs.out.at hlt
      have r0 : ws.cell? ⟨gD, oD + k, none⟩ = some (.int .i64 D[k]) := by have := hcD 0 _ rfl; rw [Nat.mul_one] at this; exact this
      obtain ⟨d1, d2⟩ := HDb.out k hlt
      have hst := HPs.out k hlt
      obtain ⟨x, hx⟩ : ∃ x, Hid (D[k] = x) := ⟨_, Lib.hid rfl⟩
      obtain ⟨p, hp⟩ : ∃ p, Hid (PD k = p) := ⟨_, Lib.hid rfl⟩
      rw [hx.out] at r0 d1 d2 hst
      rw [hp.out] at b1 b2 hst ⊢
      have Hst := Lib.hid hst
      subst hAD
      clear hcD hst
      go_wp2
      go_round
      case rel => exact ⟨k + 1, by omega, by go_num, by rw [Hst.out]⟩
      case measure => simp [intOf]; omega
    · obtain rfl : k = D.length := by omega
      obtain ⟨T, hT⟩ : ∃ T, Hid (PD D.length = T) := ⟨_, Lib.hid rfl⟩
      rw [hT.out] at b1 b2 ⊢
      have HEnd2 : Hid (T = PE E.length) := Lib.hid (by rw [← hT.out]; exact HEnd.out)
      go_upto_region 16 with fail
      go_loop [12, 78] (fun s i => ∃ k : Nat, k ≤ E.length ∧ i = .int .i64 k ∧ s = .int .i64 (T - PE k)) (fun _ i => E.length - (intOf i).toNat)
      case atStart => exact ⟨0, by omega, by rfl, by rw [HQ0.out, Int.sub_zero]⟩
      case round =>
        obtain ⟨k, hk, rfl, rfl⟩ := hrel
        obtain ⟨b3, b4⟩ := HQb.out k
        by_cases hlt : k < E.length
        · obtain ⟨gD, oD, hAD, hgD, hcD⟩ := QEs.out.at hlt
          have r0 : ws.cell? ⟨gD, oD + k, none⟩ = some (.int .i64 E[k]) := by have := hcD 0 _ rfl; rw [Nat.mul_one] at this; exact this
          obtain ⟨d1, d2⟩ := HEb.out k hlt
          have hst := HQs.out k hlt
          obtain ⟨x, hx⟩ : ∃ x, Hid (E[k] = x) := ⟨_, Lib.hid rfl⟩
          obtain ⟨p, hp⟩ : ∃ p, Hid (PE k = p) := ⟨_, Lib.hid rfl⟩
          rw [hx.out] at r0 d1 d2 hst
          rw [hp.out] at b3 b4 hst ⊢
          have Hst := Lib.hid hst
          subst hAD
          clear hcD hst
          by_cases hx0 : x < 0
          · have hab : Hid (absI x = -x) := Lib.hid (if_pos hx0)
            go_wp2
            go_round
            case rel => exact ⟨k + 1, by omega, by go_num, by rw [Hst.out, hab.out]; refine congrArg (Value.int .i64) ?_; omega⟩
            case measure => simp [intOf]; omega
          · have hab : Hid (absI x = x) := Lib.hid (if_neg hx0)
            go_wp2
            go_round
            case rel => exact ⟨k + 1, by omega, by go_num, by rw [Hst.out, hab.out]; refine congrArg (Value.int .i64) ?_; omega⟩
            case measure => simp [intOf]; omega
        · obtain rfl : k = E.length := by omega
          rw [HEnd2.out, Int.sub_self]
          go_upto_region 24 with fail
          clear QDs QEs
          go_upto_region 25 with (first | (go_at_call 9; refine (drawErrorsOf_any A' c' l' ws (H'.out.go BS.out) Hb'.out hl').mono ?_; rintro e w7 ⟨n, L2, A7, c7, ea, eb, ed, rfl, hL2, hc7, hr7, hb7⟩; have R7 := Lib.hid hr7; have B7 := Lib.hid (bgo BS.out hb7); clear hr7 hb7) | fail)
          obtain ⟨V7, hV7, HB7, HX7, hVs7⟩ : ∃ V : World, Hid (w7.alloc (.cells #[.int .i64 ea, .int .i64 eb, .int .i64 ed] 33) = V) ∧ Hid (Below w7.heap.size w7 V) ∧ Hid (Cells V w7.heap.size 3 (fun i => (#[Value.int .i64 ea, .int .i64 eb, .int .i64 ed] : Array Value).getD i undef)) ∧ w7.heap.size < V.heap.size := ⟨_, Lib.hid rfl, Lib.hid ((Below.refl _ _).alloc (Nat.le_refl _) _), Lib.hid (box3_new w7 _ _ _ _), by simp⟩
          rw [hV7.out]
          clear hV7
          have BV7 := Lib.hid (bgo B7.out HB7.out)
          obtain ⟨D2, hD2⟩ : ∃ D, Hid (errR n ea eb ed L2 = D) := ⟨_, Lib.hid rfl⟩
          have hEl : D2.1.length ≤ 400 := by rw [← hD2.out]; exact errR_len
          have hI2 : Hid (∀ W, Below w7.heap.size w7 W → Calls Tryz.prog 10 #[.int .i64 n, .slice A7 L2.length c7, .agg #[.int .i64 ea, .int .i64 eb, .int .i64 ed]] W fun e w' => ErC D2 W e w') := Lib.hid fun W hb => by
            have := iErrs_any n ea eb ed L2 A7 c7 W (R7.out.go hb) (by omega) hc7
            rw [hD2.out] at this; exact this
          have hS2 : Hid (∀ W, Below w7.heap.size w7 W → Calls Tryz.prog 11 #[.int .i64 n, .slice A7 L2.length c7, .agg #[.int .i64 ea, .int .i64 eb, .int .i64 ed]] W fun e w' => ErC D2 W e w') := Lib.hid fun W hb => by
            have := sErrs_any n ea eb ed L2 A7 c7 W (R7.out.go hb) (by omega) hc7
            rw [hD2.out] at this; exact this
          obtain ⟨E2, ok2⟩ := D2
          simp only at hEl
          clear hD2
          have p_0 : V7.cell? ⟨w7.heap.size, 0, none⟩ = some (.int .i64 ea) := (HX7.out).cell (i := 0) (by omega); have p_1 : V7.cell? ⟨w7.heap.size, 1, none⟩ = some (.int .i64 eb) := (HX7.out).cell (i := 1) (by omega); have p_2 : V7.cell? ⟨w7.heap.size, 2, none⟩ = some (.int .i64 ed) := (HX7.out).cell (i := 2) (by omega)
          go_upto_region 26 with (first | (go_at_call 10; refine (hI2.out V7 HB7.out).mono ?_; rintro e w8 ⟨A8, c8, rfl, _, ho8, hb8⟩; have O8 := Lib.hid ho8; have J8 := Lib.hid hb8; clear ho8 hb8) | fail)
          clear p_0 p_1 p_2
          have p_0 : w8.cell? ⟨w7.heap.size, 0, none⟩ = some (.int .i64 ea) := ((HX7.out.later J8.out)).cell (i := 0) (by omega); have p_1 : w8.cell? ⟨w7.heap.size, 1, none⟩ = some (.int .i64 eb) := ((HX7.out.later J8.out)).cell (i := 1) (by omega); have p_2 : w8.cell? ⟨w7.heap.size, 2, none⟩ = some (.int .i64 ed) := ((HX7.out.later J8.out)).cell (i := 2) (by omega)
          have K8 := Lib.hid (bgo HB7.out J8.out)
          go_upto_region 27 with (first | (go_at_call 11; refine (hS2.out w8 K8.out).mono ?_; rintro e w9 ⟨A9, c9, rfl, _, ho9, hb9⟩; have O9 := Lib.hid ho9; have J9 := Lib.hid hb9; clear ho9 hb9) | fail)
          clear p_0 p_1 p_2
          have O89 := Lib.hid (O8.out.later J9.out)
          have B9 := Lib.hid (bgo B7.out (bgo K8.out J9.out))
          have hz8 := J8.out.size
          have hz9 := J9.out.size
          clear hI2 hS2 HX7 R7
          go_upto_region 28 with (first | (go_at_call 12; refine (drawBlowsIn_any A' c' l' w9 (H'.out.go B9.out) Hb'.out hl').mono ?_; rintro e wA ⟨ba, bb, bd, R3, A3, c3, L3, A4, c4, sk, rfl, hR3, hR38, hL3, hr3, hr4, hbA⟩; have R3r := Lib.hid hr3; have L3r := Lib.hid hr4; have JA := Lib.hid hbA; have HR38 := Lib.hid hR38; clear hr3 hr4 hbA hR38) | fail)
          obtain ⟨VA, hVA, HBA, HXA, hVsA⟩ : ∃ V : World, Hid (wA.alloc (.cells #[.int .i64 ba, .int .i64 bb, .int .i64 bd] 33) = V) ∧ Hid (Below wA.heap.size wA V) ∧ Hid (Cells V wA.heap.size 3 (fun i => (#[Value.int .i64 ba, .int .i64 bb, .int .i64 bd] : Array Value).getD i undef)) ∧ wA.heap.size < V.heap.size := ⟨_, Lib.hid rfl, Lib.hid ((Below.refl _ _).alloc (Nat.le_refl _) _), Lib.hid (box3_new wA _ _ _ _), by simp⟩
          rw [hVA.out]
          clear hVA
          obtain ⟨D3, hD3⟩ : ∃ D, Hid (biR ba bb bd R3 L3 sk = D) := ⟨_, Lib.hid rfl⟩
          have hBl : D3.1.length ≤ 400 := by rw [← hD3.out]; exact biR_len
          have hs3 : Hid (∀ x ∈ R3, String_small 1048576 x) := Lib.hid fun x hx => by have := HR38.out x hx; unfold String_small; omega
          have hI3 : Hid (∀ W, Below wA.heap.size wA W → Calls Tryz.prog 13 #[.agg #[.int .i64 ba, .int .i64 bb, .int .i64 bd], .slice A3 R3.length c3, .slice A4 L3.length c4, .int .i64 sk] W fun e w' => BiC D3 W e w') := Lib.hid fun W hb => by
            have := iBlowsIn_any ba bb bd R3 L3 sk A3 A4 c3 c4 W (R3r.out.go hb) (L3r.out.go hb) (by omega) (by omega) hs3.out
            rw [hD3.out] at this; exact this
          have hS3 : Hid (∀ W, Below wA.heap.size wA W → Calls Tryz.prog 14 #[.agg #[.int .i64 ba, .int .i64 bb, .int .i64 bd], .slice A3 R3.length c3, .slice A4 L3.length c4, .int .i64 sk] W fun e w' => BiC D3 W e w') := Lib.hid fun W hb => by
            have := sBlowsIn_any ba bb bd R3 L3 sk A3 A4 c3 c4 W (R3r.out.go hb) (L3r.out.go hb) (by omega) (by omega) hs3.out
            rw [hD3.out] at this; exact this
          obtain ⟨S3, ok3⟩ := D3
          simp only at hBl
          clear hD3 R3r L3r hs3 HR38
          have p_0 : VA.cell? ⟨wA.heap.size, 0, none⟩ = some (.int .i64 ba) := (HXA.out).cell (i := 0) (by omega); have p_1 : VA.cell? ⟨wA.heap.size, 1, none⟩ = some (.int .i64 bb) := (HXA.out).cell (i := 1) (by omega); have p_2 : VA.cell? ⟨wA.heap.size, 2, none⟩ = some (.int .i64 bd) := (HXA.out).cell (i := 2) (by omega)
          go_upto_region 29 with (first | (go_at_call 13; refine (hI3.out VA HBA.out).mono ?_; rintro e wB ⟨AB, cB, rfl, hoB, hbB⟩; have OB := Lib.hid hoB; have JB := Lib.hid hbB; clear hoB hbB) | fail)
          clear p_0 p_1 p_2
          have p_0 : wB.cell? ⟨wA.heap.size, 0, none⟩ = some (.int .i64 ba) := ((HXA.out.later JB.out)).cell (i := 0) (by omega); have p_1 : wB.cell? ⟨wA.heap.size, 1, none⟩ = some (.int .i64 bb) := ((HXA.out.later JB.out)).cell (i := 1) (by omega); have p_2 : wB.cell? ⟨wA.heap.size, 2, none⟩ = some (.int .i64 bd) := ((HXA.out.later JB.out)).cell (i := 2) (by omega)
          have KB := Lib.hid (bgo HBA.out JB.out)
          go_upto_region 30 with (first | (go_at_call 14; refine (hS3.out wB KB.out).mono ?_; rintro e wC ⟨AC, cC, rfl, hoC, hbC⟩; have OC := Lib.hid hoC; have JC := Lib.hid hbC; clear hoC hbC) | fail)
          clear p_0 p_1 p_2 hI3 hS3 HXA
          have OBC := Lib.hid (OB.out.later JC.out)
          have J9C := Lib.hid (bgo JA.out (bgo KB.out JC.out))
          have BC := Lib.hid (bgo B9.out J9C.out)
          have hzC := J9C.out.size
          have hzB := JC.out.size
          have QE8 := Lib.hid (((O89.out.later J9C.out).mono (Nat.le_refl _) (by omega : w8.heap.size ≤ wC.heap.size)).rd encInt_len)
          have QE9 := Lib.hid (((O9.out.later J9C.out).mono (Nat.le_refl _) hzC).rd encInt_len)
          go_upto_region 32 with (first | (go_at_call 8; refine (sameInts_t E2 A8 A9 c8 c9 wC QE8.out QE9.out (by omega)).mono ?_; rintro e wD ⟨rfl, hbD⟩; have JD := Lib.hid hbD; clear hbD) | fail)
          have BD := Lib.hid (bgo BC.out JD.out)
          have QB := Lib.hid (((OBC.out.later JD.out).mono (Nat.le_refl _) (Nat.le_trans hzB JD.out.size)).rd Blw_enc_len)
          have QC := Lib.hid (((OC.out.later JD.out).mono (Nat.le_refl _) JD.out.size).rd Blw_enc_len)
          have EN := neBlow_f
          clear O8 O9 O89 OB OC OBC QE8 QE9
          go_upto_region 33 with fail
          go_loopw [159] (fun i wr => ∃ k : Nat, k ≤ S3.length ∧ i = .int .i64 k ∧ ∃ n, wr = wD.drewN n) (fun i _ => S3.length - (intOf i).toNat)
          case atStart => exact ⟨0, by omega, by rfl, 0, rfl⟩
          case round =>
            obtain ⟨k, hk, rfl, hdr⟩ := hrel
            have Hdr := Lib.hid hdr
            clear hdr
            by_cases hlt : k < S3.length
            · obtain ⟨g, off, hA, hg, hcell⟩ := QB.out.at hlt
              obtain ⟨g', off', hA', hg', hcell'⟩ := QC.out.at hlt
              subst hA hA'
              have r0 : wr.cell? ⟨g, off + k * 3, none⟩ = some (.int .i64 S3[k].row) := by obtain ⟨n, e⟩ := Hdr.out; rw [e]; exact hcell 0 _ rfl
              have r1 : wr.cell? ⟨g, off + k * 3 + 1, none⟩ = some (.int .i64 S3[k].place) := by obtain ⟨n, e⟩ := Hdr.out; rw [e]; exact hcell 1 _ rfl
              have r2 : wr.cell? ⟨g, off + k * 3 + 2, none⟩ = some (.int .i64 S3[k].at_) := by obtain ⟨n, e⟩ := Hdr.out; rw [e]; exact hcell 2 _ rfl
              have q0 : wr.cell? ⟨g', off' + k * 3, none⟩ = some (.int .i64 S3[k].row) := by obtain ⟨n, e⟩ := Hdr.out; rw [e]; exact hcell' 0 _ rfl
              have q1 : wr.cell? ⟨g', off' + k * 3 + 1, none⟩ = some (.int .i64 S3[k].place) := by obtain ⟨n, e⟩ := Hdr.out; rw [e]; exact hcell' 1 _ rfl
              have q2 : wr.cell? ⟨g', off' + k * 3 + 2, none⟩ = some (.int .i64 S3[k].at_) := by obtain ⟨n, e⟩ := Hdr.out; rw [e]; exact hcell' 2 _ rfl
              clear hcell hcell'
              obtain ⟨x, hx⟩ : ∃ x, Hid (S3[k] = x) := ⟨_, Lib.hid rfl⟩
              rw [hx.out] at r0 r1 r2 q0 q1 q2
              go_wp2
              go_quiet (fail)
              go_wp2
              go_roundw
              case rel => exact ⟨k + 1, by omega, by go_num, by obtain ⟨n, e⟩ := Hdr.out; rw [e, drew2E]; exact ⟨_, rfl⟩⟩
              case measure => simp [intOf]; omega
            · go_wp2
              go_ret
              exact ⟨rfl, by obtain ⟨n, e⟩ := Hdr.out; rw [e]; exact below_drewN BD.out n⟩
namespace fnErrors
open Go.ChangeShapes Go.WideShapes Go.ChangeAt Go.RowKit Go.Deep
open Go.ChangeMaps (open_string shut_string)
theorem own : ownKnob Tryz.prog.godebug = none := by kernel_rfl
theorem laid : laidOutB Tryz.prog = true := by kernel_rfl
theorem reads : Tryz.f3.params.toList.all (fun t => Tryz.prog.readableRec t && decide (t < Tryz.prog.types.size)) = true := by kernel_rfl
set_option maxRecDepth 100000 in
theorem lifted (os : Os) (started : os.Started) (H : Type) (enc : TypeId × Value → H) :
    ReturnsInHanded {} Tryz.checked os 3 .any (Rows.fnErrorsSpec.pre6 enc Tryz.prog Tryz.f3 Rows.fnErrorsRow.domain false) (Rows.fnErrorsSpec.post enc Tryz.prog Tryz.f3 false true false false) := by
  refine returnsInHanded_of_change (C := Tryz.checked) own started (by kernel_rfl) Tryz.func3
    (ChangeSpec.witness6 (enc := enc) (C := Tryz.checked) false ⟨#[], #[.slice none 0 0, .slice none 0 0], []⟩ 8 (by kernel_rfl) (by kernel_rfl) (by kernel_rfl) (by kernel_rfl)) ?_
  intro W base args ds gs before hval0 hW hcnd _
  have hval : ∀ (j : Nat) t v, Tryz.f3.params[j]? = some t → args[j]? = some v → Value.okWide Tryz.prog W .any base t v := hval0
  have hW' := hW
  obtain ⟨p, q, hA0, hV, rfl, hfz, hnd⟩ := hW
  have hA : DataW.TrodAll enc Tryz.prog W 0 (fun _ => true) true Tryz.f3.params.toList args.toList ds p := hA0
  rw [Tryz.params3] at hA hval
  obtain ⟨rfl, rfl⟩ := trodVars_none hV
  have hlt : ∀ x ∈ p, x.block < W.heap.size := fun x hx => by simpa using hW'.lt x (List.mem_append.2 (.inl hx))
  clear hA0 hval0
  obtain ⟨v0, vs0, d0, ds0, p0, q0, hargs, rfl, rfl, h0, r0⟩ := trodAll_cons hA
  obtain ⟨v1, vs1, d1, ds1, p1, q1, rfl, rfl, rfl, h1, r1⟩ := trodAll_cons r0
  obtain ⟨rfl, rfl, rfl⟩ := trodAll_nil r1
  obtain rfl : args = #[v0, v1] := by cases args; simp_all
  clear hargs
  obtain ⟨A0, a0, c0, rfl, y0, x0, z0⟩ := open_list Tryz.underlying22 1 (by kernel_rfl) (by omega) encByte _ Byte_el (hval 0 22 v0 rfl rfl) h0
  obtain ⟨A1, a1, c1, rfl, y1, x1, z1⟩ := open_list Tryz.underlying22 1 (by kernel_rfl) (by omega) encByte _ Byte_el (hval 1 22 v1 rfl rfl) h1
  refine (errorsLaw W a0 A0 c0 x0 (by unfold maxLen at y0; omega) z0 a1 A1 c1 x1 (by unfold maxLen at y1; omega) z1).mono fun e W' ⟨he, hg⟩ => ?_
  subst he
  exact ⟨_, rfl, law_post laid reads rfl Tryz.underlying4 rfl rfl hW' hg⟩
theorem over : Rows.fnErrorsRow.holds Tryz.pinned (OpenSpec.ofChange Rows.fnErrorsSpec) :=
  OpenClaim.holds_of_wide 3 Tryz.f3 rfl rfl rfl rfl rfl rfl rfl ⟨rfl, rfl, rfl, rfl, rfl⟩ rfl rfl rfl rfl rfl (by kernel_rfl) Tryz.func3 facts
    (of_decide_eq_true (by kernel_rfl)) (by unfold Func.isWrapper; first | (rw [if_pos (by decide +kernel)]; kernel_rfl) | (rw [if_neg (by decide +kernel)]; exact ⟨rfl, rfl⟩))
    (fun os started H enc _ => lifted os started H enc)
theorem proved : Rows.FnErrorsSaid := over
end fnErrors
end Go.Proofs.YtglnehinmdmgmaaGreat
