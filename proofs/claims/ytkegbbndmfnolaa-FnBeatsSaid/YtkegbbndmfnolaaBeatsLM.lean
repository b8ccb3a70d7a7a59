import Derived.Test.YtkegbbndmfnolaaMBeatsL18
import Derived.Test.YtkegbbndmfnolaaMBeatsL30
import Derived.Test.YtkegbbndmfnolaaMBeatsL17
import Derived.Test.YtkegbbndmfnolaaMBeatsL31
import Derived.Test.YtkegbbndmfnolaaMBeatsL02
import Derived.Test.YtkegbbndmfnolaaMBeatsL32
/-
  FnBeats: no beat in the searched range fits better than the one returned; a shift of all blows shifts the beat.
-/
namespace Go.Proofs.Ytkegbbndmfnolaa
open Go.RowKit Go.ChangeShapes Go.WideShapes Go.Deep
set_option linter.unusedVariables false
set_option linter.unusedSimpArgs false
set_option maxRecDepth 100000

theorem neBeat_f (a b c : Int) (w : World) : (binOp .neq 31 (.agg #[.int .i64 a, .int .i64 b, .int .i64 c]) (.agg #[.int .i64 a, .int .i64 b, .int .i64 c])).run Try.prog w = .ok (.bool false) w := by
  have hs : (Try.prog).stoodInHeld 31 = false := by kernel_rfl
  rw [run_neq_struct, show (10000 : Nat) = 9999 + 1 from rfl, run_equalIn_struct w 9999 31 _ _ (by simp [Program.fieldsOf, Try.underlying31]) hs]
  simp only [Program.fieldsOf, Try.underlying31]
  simp [go_sem]


set_option maxHeartbeats 12800000 in
theorem beatsLaw (w : World) (l : List Int) (A : Option Addr) (c : Nat) (h : RdL w w.heap.size A 1 encByte l) (hl : l.length ≤ 9223372036854775807) (hb : ∀ x ∈ l, Byte_small 9223372036854775807 x) (l' : List Int) (A' : Option Addr) (c' : Nat) (h' : RdL w w.heap.size A' 1 encByte l') (hl' : l'.length ≤ 9223372036854775807) (hb' : ∀ x ∈ l', Byte_small 9223372036854775807 x) :
    Calls Try.prog 4 #[.slice A l.length c, .slice A' l'.length c'] w fun e w' => e = .returned (.bool true) ∧ Below w.heap.size w w' := by
  have H := Lib.hid h
  have Hb := Lib.hid hb
  have H' := Lib.hid h'
  have Hb' := Lib.hid hb'
  clear h hb h' hb'
  by_cases hbig : 1048576 < l.length + l'.length
  · have e0 := B_t hbig
    go_enter Try.func4, Try.ntmps4
    go_wp2_with (first | (go_at_call 19; refine (calls_bool (bigB_any _ _ A A' c c' w hl hl') e0).mono ?_; rintro e w1 ⟨rfl, rfl⟩) | fail)
    go_ret
    exact ⟨rfl, Below.refl _ _⟩
  have e0 := B_f hbig
  clear hbig
  go_enter Try.func4, Try.ntmps4
  go_upto_region 4 with (first | (go_at_call 19; refine (calls_bool (bigB_any _ _ A A' c c' w hl hl') e0).mono ?_; rintro e w1 ⟨rfl, rfl⟩) | (go_at_call 20; refine (drawFitGap_any A c l _ H.out Hb.out hl).mono ?_; rintro e w1 ⟨n, L, A1, c1, lo, hi, hd, rfl, hL31, hLc, hr1, hb1⟩; have R1 := Lib.hid hr1; have B1 := Lib.hid hb1; clear hr1 hb1) | fail)
  clear e0
  obtain ⟨D1, hD1⟩ : ∃ D, Hid (fgR n L lo hi hd = D) := ⟨_, Lib.hid rfl⟩
  obtain ⟨gb, hgb⟩ : ∃ b, Hid (B (blowsP n L) = b) := ⟨_, Lib.hid rfl⟩
  have hbd : -20000000 ≤ D1.1.1 ∧ D1.1.1 ≤ 1000000 := by rw [← hD1.out]; exact fgR_bd n L lo hi hd
  have hlw : Hid (D1.2 = true → 1 ≤ lo ∧ lo ≤ hi ∧ hi ≤ 2000 ∧ hi - lo ≤ 200 ∧ lo ≤ D1.1.2.1 ∧ D1.1.2.1 ≤ hi ∧ sfR n L D1.1.2.1 hd = ((D1.1.1, D1.1.2.2), true) ∧ ∀ x : Int, lo ≤ x → x ≤ hi → (sfR n L x hd).2 = true ∧ D1.1.2.2 ≤ (sfR n L x hd).1.2) := Lib.hid (by rw [← hD1.out]; exact fgR_law)
  have hsh : Hid (D1.2 = true → (fgR n (L.map (laterB 7)) lo hi hd).2 = true → fgR n (L.map (laterB 7)) lo hi hd = ((D1.1.1 + 7, D1.1.2), true)) := Lib.hid (by rw [← hD1.out]; exact fgR_shift)
  have hat : Hid (D1.2 = true → ∀ (k : Nat) (hk : k < L.length), 0 ≤ L[k].at_ ∧ L[k].at_ ≤ 1000000) := Lib.hid (by
    rw [← hD1.out]; intro hx k hk
    exact ((fgR_fit hx).1.2.2 k hk).2.2.1)
  have hI1 : Hid (∀ W, Below w1.heap.size w1 W → Calls Try.prog 21 #[.int .i64 n, .slice A1 L.length c1, .int .i64 lo, .int .i64 hi, .int .i64 hd] W fun e w' => e = .returned (.tuple #[.int .i64 D1.1.1, .int .i64 D1.1.2.1, .int .i64 D1.1.2.2, .bool D1.2]) ∧ Below W.heap.size W w') := Lib.hid fun W hb => by
    have := iFitGap_r n lo hi hd L A1 c1 W (R1.out.go hb) (by omega) hLc
    rw [hD1.out] at this; exact this
  have hS1 : Hid (∀ W, Below w1.heap.size w1 W → Calls Try.prog 22 #[.int .i64 n, .slice A1 L.length c1, .int .i64 lo, .int .i64 hi, .int .i64 hd] W fun e w' => e = .returned (.tuple #[.int .i64 D1.1.1, .int .i64 D1.1.2.1, .int .i64 D1.1.2.2, .bool D1.2]) ∧ Below W.heap.size W w') := Lib.hid fun W hb => by
    have := sFitGap_r n lo hi hd L A1 c1 W (R1.out.go hb) (by omega) hLc
    rw [hD1.out] at this; exact this
  obtain ⟨⟨s, g, f⟩, ok⟩ := D1
  simp only at hbd hlw hsh hat hI1 hS1
  go_upto_region 8 with (first
    | (go_at_call 21; refine (hI1.out w1 (Below.refl _ _)).mono ?_; rintro e w2 ⟨rfl, hb2⟩; have J2 := Lib.hid hb2; clear hb2)
    | (go_at_call 22; refine (hS1.out w2 J2.out).mono ?_; rintro e w3 ⟨rfl, hb3⟩; have J3 := Lib.hid (bgo J2.out hb3); clear hb3)
    | (go_at_call 23; refine (calls_bool (iBlows_any n L A1 c1 w3 (R1.out.go J3.out) (by omega)) hgb.out).mono ?_; rintro e w4 ⟨rfl, hb4⟩; have J4 := Lib.hid (bgo J3.out hb4); clear hb4)
    | (go_at_call 24; refine (calls_bool (sBlows_any n L A1 c1 w4 (R1.out.go J4.out) (by omega) hLc) hgb.out).mono ?_; rintro e w5 ⟨rfl, hb5⟩; have J5 := Lib.hid (bgo J4.out hb5); clear hb5)
    | fail)
  clear hI1 hS1
  have K5 := Lib.hid (bgo B1.out J5.out)
  have R5 := Lib.hid (R1.out.go J5.out)
  clear R1 B1 J2 J3 J4
  cases ok
  focus
    clear hlw hsh hat
    obtain ⟨wT, rfl⟩ : ∃ wT, wT = w5 := ⟨w5, rfl⟩
    have HPB := K5
    go_upto_region 26 with fail
  rotate_left
  focus
    obtain ⟨l1, l2, l3, l4, l5, l6, l7, l8⟩ := hlw.out rfl
    have hat' := hat.out rfl
    have HAT := Lib.hid hat'
    have Hsh := Lib.hid (hsh.out rfl)
    have H7 := Lib.hid l7
    have H8 := Lib.hid l8
    clear hlw hat hsh hat' l7 l8
    have hSG : Hid (∀ W, Below w5.heap.size w5 W → Calls Try.prog 25 #[.int .i64 n, .slice A1 L.length c1, .int .i64 g, .int .i64 hd] W fun e w' => e = .returned (.tuple #[.int .i64 s, .int .i64 f, .bool true]) ∧ Below W.heap.size W w') := Lib.hid fun W hb => by
      have := iStart_r n g hd L A1 c1 W (R5.out.go hb) (by omega) hLc
      rw [H7.out] at this; exact this
    go_upto_region 12 with (first | (go_at_call 25; refine (hSG.out w5 (Below.refl _ _)).mono ?_; rintro e w6 ⟨rfl, hb6⟩; have K6 := Lib.hid (bgo K5.out hb6); have R6 := Lib.hid (R5.out.go hb6); clear hb6) | fail)
    clear hSG R5 l5 l6
    have hm0 : IntKind.i64.wrap (hi - lo) = hi - lo := IntWalk.i64_in _ (by omega)
    have hm1 : IntKind.i64.wrap (hi - lo + 1) = hi - lo + 1 := IntWalk.i64_in _ (by omega)
    have hm2 : ((hi - lo + 1) == 0) = false := beq_eq_false_iff_ne.2 (by omega)
    go_upto_region 13 with (first | (go_at_call 26; refine (number_any l' A' c' _ (H'.out.go K6.out) Hb'.out hl').mono ?_; rintro e w6' ⟨N, rfl, hN0, hN1, rfl⟩) | fail)
    clear hm0 hm1 hm2
    have hq0 : 0 ≤ N % (hi - lo + 1) := Int.emod_nonneg _ (by omega)
    have hq1 : N % (hi - lo + 1) < hi - lo + 1 := Int.emod_lt_of_pos _ (by omega)
    have hqx : wrap64 (lo + N % (hi - lo + 1)) = lo + N % (hi - lo + 1) := IntWalk.wrap64_in _ (by omega)
    rw [hqx]
    clear hqx
    obtain ⟨x, hx⟩ : ∃ x, Hid (lo + N % (hi - lo + 1) = x) := ⟨_, Lib.hid rfl⟩
    rw [hx.out]
    obtain ⟨h91, h92⟩ := H8.out x (by rw [← hx.out]; omega) (by rw [← hx.out]; omega)
    obtain ⟨D2, hD2⟩ : ∃ D, Hid (sfR n L x hd = D) := ⟨_, Lib.hid rfl⟩
    rw [hD2.out] at h91 h92
    have hSX : Hid (∀ W, Below w6'.heap.size w6' W → Calls Try.prog 25 #[.int .i64 n, .slice A1 L.length c1, .int .i64 x, .int .i64 hd] W fun e w' => e = .returned (.tuple #[.int .i64 D2.1.1, .int .i64 D2.1.2, .bool D2.2]) ∧ Below W.heap.size W w') := Lib.hid fun W hb => by
      have := iStart_r n x hd L A1 c1 W (R6.out.go hb) (by omega) hLc
      rw [hD2.out] at this; exact this
    obtain ⟨⟨z0, z⟩, two⟩ := D2
    simp only at h91 h92 hSX
    subst h91
    clear hq0 hq1 hN0 hN1 hD2 hx
    have hzf : ¬ z < f := by omega
    go_upto_region 18 with (first | (go_at_call 25; refine (hSX.out w6' (Below.refl _ _)).mono ?_; rintro e w7 ⟨rfl, hb7⟩; have K7 := Lib.hid (bgo K6.out hb7); have R7 := Lib.hid (R6.out.go hb7); clear hb7) | fail)
    clear hSX hzf h92 R6 K6
    go_loopw [25, 176] (fun v i wr => ∃ k : Nat, k ≤ L.length ∧ i = .int .i64 k ∧ Hid (Grow wr w7.heap.size 53 3 Blw.enc v ((L.map (laterB 7)).take k)) ∧ Hid (Below w7.heap.size w7 wr)) (fun _ i _ => L.length - (intOf i).toNat)
    case atStart => exact ⟨0, by omega, by rfl, Lib.hid (by simpa using Grow.nil), Lib.hid (Below.refl _ _)⟩
    case round =>
      obtain ⟨k, hk, rfl, HG, HB⟩ := hrel
      by_cases hlt : k < L.length
      · obtain ⟨g0, off, hA, hg0, hcell⟩ := (R7.out.go HB.out).at hlt
        have r0 : wr.cell? ⟨g0, off + k * 3, none⟩ = some (.int .i64 L[k].row) := hcell 0 _ rfl
        have r1 : wr.cell? ⟨g0, off + k * 3 + 1, none⟩ = some (.int .i64 L[k].place) := hcell 1 _ rfl
        have r2 : wr.cell? ⟨g0, off + k * 3 + 2, none⟩ = some (.int .i64 L[k].at_) := hcell 2 _ rfl
        subst hA
        clear hcell
        obtain ⟨a1, a2⟩ := HAT.out k hlt
        have htk : Hid ((L.map (laterB 7)).take (k + 1) = (L.map (laterB 7)).take k ++ [⟨L[k].row, L[k].place, L[k].at_ + 7⟩]) := Lib.hid (by rw [List.take_succ_eq_append_getElem (by simpa using hlt), List.getElem_map]; rfl)
        obtain ⟨y, hy⟩ : ∃ y, Hid (L[k] = y) := ⟨_, Lib.hid rfl⟩
        rw [hy.out] at r0 r1 r2 a1 a2 htk
        have hzw := HB.out.size
        go_wp2_with (first | (at_builtin; refine wpList_pushA rfl (.tmp 184) (.tmp 186) 28 rfl w7.heap.size 53 _ 3 24 Blw.enc rfl Blow_info rfl (by omega) _ ((L.map (laterB 7)).take k) [⟨y.row, y.place, y.at_ + 7⟩] 1 rfl rfl (by simp) (HG.out.later ((Below.refl _ _).alloc (Nat.le_refl _) _)) rfl Blw_enc_len (by simp [Value.oneCell']) (by simp only [List.length_take, List.length_map, List.length_singleton]; omega) (by omega) (by simp; omega) ?_; intro v8 w8 g8 b8 _ _; have HG8 := Lib.hid g8; have HB8 : Hid (Below w7.heap.size w7 w8) := Lib.hid ((HB.out.alloc (by omega) _).trans b8); clear g8 b8) | fail)
        go_roundw
        case rel => exact ⟨k + 1, by omega, by go_num, Lib.hid (by rw [htk.out]; exact HG8.out), HB8⟩
        case measure => simp [intOf]; omega
      · obtain rfl : k = L.length := by omega
        have HGL := HG.out
        rw [List.take_of_length_le (by simp)] at HGL
        obtain ⟨AL, cL, hv, hoL⟩ := HGL.own Blw_enc_len
        rw [List.length_map] at hv
        subst hv
        have hcL : L.length ≤ cL := HGL.capN
        have RL := Lib.hid (hoL.rd Blw_enc_len)
        have KL := Lib.hid (bgo K7.out HB.out)
        clear HGL hoL HG HB R7 K7
        obtain ⟨D3, hD3⟩ : ∃ D, Hid (fgR n (L.map (laterB 7)) lo hi hd = D) := ⟨_, Lib.hid rfl⟩
        have hsh := Hsh.out
        rw [hD3.out] at hsh
        have hI3 : Hid (∀ W, Below wr.heap.size wr W → Calls Try.prog 21 #[.int .i64 n, .slice AL L.length cL, .int .i64 lo, .int .i64 hi, .int .i64 hd] W fun e w' => e = .returned (.tuple #[.int .i64 D3.1.1, .int .i64 D3.1.2.1, .int .i64 D3.1.2.2, .bool D3.2]) ∧ Below W.heap.size W w') := Lib.hid fun W hb => by
          have := iFitGap_r n lo hi hd (L.map (laterB 7)) AL cL W (RL.out.go hb) (by simp; omega) (by simp; omega)
          rw [hD3.out, List.length_map] at this; exact this
        clear hD3
        obtain ⟨⟨u1, u2, u3⟩, three⟩ := D3
        simp only at hsh hI3
        have hs7 : wrap64 (s + 7) = s + 7 := IntWalk.wrap64_in _ (by omega)
        go_upto_region 24 with (first | (go_at_call 21; refine (hI3.out wr (Below.refl _ _)).mono ?_; rintro e wT ⟨rfl, hbT⟩; have HPB := Lib.hid (bgo KL.out hbT); clear hbT) | fail)
        clear hI3
        cases three
        focus
          clear hsh
          go_upto_region 26 with fail
        rotate_left
        focus
          have hs := hsh rfl
          simp only [Prod.mk.injEq, and_true] at hs
          obtain ⟨rfl, rfl, rfl⟩ := hs
          go_upto_region 26 with fail
        all_goals
          clear RL KL HAT Hsh H7 H8 hLc hL31
          go_upto_region 27 with (first | (go_at_call 27; refine (drawFitBeat_any A' c' l' _ (H'.out.go HPB.out) Hb'.out hl').mono ?_; rintro e w7 ⟨n2, L2, A7, c7, lo2, hi2, mo, rfl, hL2, hc7, hr7, hb7⟩; have R7 := Lib.hid hr7; have B7 := Lib.hid (bgo HPB.out hb7); clear hr7 hb7) | fail)
          obtain ⟨D4, hD4⟩ : ∃ D, Hid (fbR n2 L2 lo2 hi2 mo = D) := ⟨_, Lib.hid rfl⟩
          obtain ⟨D5, hD5⟩ : ∃ D, Hid (fgR n2 L2 lo2 hi2 0 = D) := ⟨_, Lib.hid rfl⟩
          have hle : Hid (D4.2 = true → D5.2 = true ∧ D4.1.2 ≤ D5.1.2.2) := Lib.hid (by rw [← hD4.out, ← hD5.out]; exact fbR_le)
          have hI4 : Hid (∀ W, Below w7.heap.size w7 W → Calls Try.prog 28 #[.int .i64 n2, .slice A7 L2.length c7, .int .i64 lo2, .int .i64 hi2, .int .i64 mo] W fun e w' => e = .returned (.tuple #[.agg #[.int .i64 D4.1.1.1, .int .i64 D4.1.1.2.1, .int .i64 D4.1.1.2.2], .int .i64 D4.1.2, .bool D4.2]) ∧ Below W.heap.size W w') := Lib.hid fun W hb => by
            have := iFitBeat_r n2 lo2 hi2 mo L2 A7 c7 W (R7.out.go hb) (by omega) hc7
            rw [hD4.out] at this; exact this
          have hS4 : Hid (∀ W, Below w7.heap.size w7 W → Calls Try.prog 29 #[.int .i64 n2, .slice A7 L2.length c7, .int .i64 lo2, .int .i64 hi2, .int .i64 mo] W fun e w' => e = .returned (.tuple #[.agg #[.int .i64 D4.1.1.1, .int .i64 D4.1.1.2.1, .int .i64 D4.1.1.2.2], .int .i64 D4.1.2, .bool D4.2]) ∧ Below W.heap.size W w') := Lib.hid fun W hb => by
            have := sFitBeat_r n2 lo2 hi2 mo L2 A7 c7 W (R7.out.go hb) (by omega) hc7
            rw [hD4.out] at this; exact this
          have hI5 : Hid (∀ W, Below w7.heap.size w7 W → Calls Try.prog 21 #[.int .i64 n2, .slice A7 L2.length c7, .int .i64 lo2, .int .i64 hi2, .int .i64 0] W fun e w' => e = .returned (.tuple #[.int .i64 D5.1.1, .int .i64 D5.1.2.1, .int .i64 D5.1.2.2, .bool D5.2]) ∧ Below W.heap.size W w') := Lib.hid fun W hb => by
            have := iFitGap_r n2 lo2 hi2 0 L2 A7 c7 W (R7.out.go hb) (by omega) hc7
            rw [hD5.out] at this; exact this
          obtain ⟨⟨⟨b1, b2, b3⟩, bs⟩, okb⟩ := D4
          obtain ⟨⟨g1, g2, g3⟩, okg⟩ := D5
          simp only at hle hI4 hS4 hI5
          clear hD4 hD5
          go_upto_region 28 with (first | (go_at_call 28; refine (hI4.out w7 (Below.refl _ _)).mono ?_; rintro e w8 ⟨rfl, hb8⟩; have B8 := Lib.hid hb8; clear hb8) | fail)
          obtain ⟨V8, hVe, hVb8, hX⟩ : ∃ V : World, Hid (w8.alloc (.cells #[.int .i64 b1, .int .i64 b2, .int .i64 b3] 31) = V) ∧ Hid (Below w8.heap.size w8 V) ∧ Hid (Cells V w8.heap.size 3 (fun i => (#[Value.int .i64 b1, .int .i64 b2, .int .i64 b3] : Array Value).getD i undef)) := ⟨_, Lib.hid rfl, Lib.hid ((Below.refl _ _).alloc (Nat.le_refl _) _), Lib.hid (Cells.newD _ #[.int .i64 b1, .int .i64 b2, .int .i64 b3] _)⟩
          rw [hVe.out]
          clear hVe
          have B8' := Lib.hid (bgo B8.out hVb8.out)
          go_upto_region 29 with (first | (go_at_call 29; refine (hS4.out V8 B8'.out).mono ?_; rintro e w9 ⟨rfl, hb9⟩; have J9 := Lib.hid hb9; clear hb9) | fail)
          obtain ⟨V9, hVe, hVb9, hY⟩ : ∃ V : World, Hid (w9.alloc (.cells #[.int .i64 b1, .int .i64 b2, .int .i64 b3] 31) = V) ∧ Hid (Below w9.heap.size w9 V) ∧ Hid (Cells V w9.heap.size 3 (fun i => (#[Value.int .i64 b1, .int .i64 b2, .int .i64 b3] : Array Value).getD i undef)) := ⟨_, Lib.hid rfl, Lib.hid ((Below.refl _ _).alloc (Nat.le_refl _) _), Lib.hid (Cells.newD _ #[.int .i64 b1, .int .i64 b2, .int .i64 b3] _)⟩
          rw [hVe.out]
          clear hVe
          have K9 := Lib.hid (bgo J9.out hVb9.out)
          have K79 := Lib.hid (bgo B8'.out K9.out)
          have BV9 := Lib.hid (bgo B7.out K79.out)
          have hUx := hX.out.later K9.out
          have p0 := hUx.cell (i := 0) (by decide)
          have p1 := hUx.cell (i := 1) (by decide)
          have p2 := hUx.cell (i := 2) (by decide)
          clear hUx
          have q0 := hY.out.cell (i := 0) (by decide)
          have q1 := hY.out.cell (i := 1) (by decide)
          have q2 := hY.out.cell (i := 2) (by decide)
          have EN := neBeat_f b1 b2 b3
          cases okb
          · go_upto_region 34 with fail
            clear p0 p1 p2 q0 q1 q2
            go_upto_region 35 with (first | (go_at_call 30; refine (drawStartFor_any A' c' l' _ (H'.out.go BV9.out) Hb'.out hl').mono ?_; rintro e wA ⟨n3, L3, AA, cA, ga, ha, rfl, hL3, hcA, hrA, hbA⟩; have RA := Lib.hid hrA; have BA := Lib.hid (bgo BV9.out hbA); clear hrA hbA) | fail)
            obtain ⟨D6, hD6⟩ : ∃ D, Hid (sfR n3 L3 ga ha = D) := ⟨_, Lib.hid rfl⟩
            have hI6 : Hid (∀ W, Below wA.heap.size wA W → Calls Try.prog 25 #[.int .i64 n3, .slice AA L3.length cA, .int .i64 ga, .int .i64 ha] W fun e w' => e = .returned (.tuple #[.int .i64 D6.1.1, .int .i64 D6.1.2, .bool D6.2]) ∧ Below W.heap.size W w') := Lib.hid fun W hb => by
              have := iStart_r n3 ga ha L3 AA cA W (RA.out.go hb) (by omega) hcA
              rw [hD6.out] at this; exact this
            have hS6 : Hid (∀ W, Below wA.heap.size wA W → Calls Try.prog 31 #[.int .i64 n3, .slice AA L3.length cA, .int .i64 ga, .int .i64 ha] W fun e w' => e = .returned (.tuple #[.int .i64 D6.1.1, .int .i64 D6.1.2, .bool D6.2]) ∧ Below W.heap.size W w') := Lib.hid fun W hb => by
              have := sStart_r n3 ga ha L3 AA cA W (RA.out.go hb) (by omega) hcA
              rw [hD6.out] at this; exact this
            obtain ⟨⟨s1, s2⟩, oks⟩ := D6
            simp only at hI6 hS6
            go_wp2_with (first
              | (go_at_call 25; refine (hI6.out wA (Below.refl _ _)).mono ?_; rintro e wB ⟨rfl, hbB⟩; have JB := Lib.hid hbB; clear hbB)
              | (go_at_call 31; refine (hS6.out wB JB.out).mono ?_; rintro e wC ⟨rfl, hbC⟩; have JC := Lib.hid (bgo JB.out hbC); clear hbC)
              | fail)
            go_ret
            exact ⟨by simp, bgo BA.out JC.out⟩
          · obtain ⟨rfl, hge⟩ := hle.out rfl
            have hge' : bs ≤ g3 := hge
            clear hle hge
            go_upto_region 32 with fail
            clear p0 p1 p2 q0 q1 q2
            go_wp2_with (first | (go_at_call 21; refine (hI5.out V9 K79.out).mono ?_; rintro e wA ⟨rfl, hbA⟩; have JA := Lib.hid hbA; clear hbA) | fail)
            go_ret
            exact ⟨rfl, bgo BV9.out JA.out⟩
  clear hLc hL31
  go_upto_region 27 with (first | (go_at_call 27; refine (drawFitBeat_any A' c' l' _ (H'.out.go HPB.out) Hb'.out hl').mono ?_; rintro e w7 ⟨n2, L2, A7, c7, lo2, hi2, mo, rfl, hL2, hc7, hr7, hb7⟩; have R7 := Lib.hid hr7; have B7 := Lib.hid (bgo HPB.out hb7); clear hr7 hb7) | fail)
  obtain ⟨D4, hD4⟩ : ∃ D, Hid (fbR n2 L2 lo2 hi2 mo = D) := ⟨_, Lib.hid rfl⟩
  obtain ⟨D5, hD5⟩ : ∃ D, Hid (fgR n2 L2 lo2 hi2 0 = D) := ⟨_, Lib.hid rfl⟩
  have hle : Hid (D4.2 = true → D5.2 = true ∧ D4.1.2 ≤ D5.1.2.2) := Lib.hid (by rw [← hD4.out, ← hD5.out]; exact fbR_le)
  have hI4 : Hid (∀ W, Below w7.heap.size w7 W → Calls Try.prog 28 #[.int .i64 n2, .slice A7 L2.length c7, .int .i64 lo2, .int .i64 hi2, .int .i64 mo] W fun e w' => e = .returned (.tuple #[.agg #[.int .i64 D4.1.1.1, .int .i64 D4.1.1.2.1, .int .i64 D4.1.1.2.2], .int .i64 D4.1.2, .bool D4.2]) ∧ Below W.heap.size W w') := Lib.hid fun W hb => by
    have := iFitBeat_r n2 lo2 hi2 mo L2 A7 c7 W (R7.out.go hb) (by omega) hc7
    rw [hD4.out] at this; exact this
  have hS4 : Hid (∀ W, Below w7.heap.size w7 W → Calls Try.prog 29 #[.int .i64 n2, .slice A7 L2.length c7, .int .i64 lo2, .int .i64 hi2, .int .i64 mo] W fun e w' => e = .returned (.tuple #[.agg #[.int .i64 D4.1.1.1, .int .i64 D4.1.1.2.1, .int .i64 D4.1.1.2.2], .int .i64 D4.1.2, .bool D4.2]) ∧ Below W.heap.size W w') := Lib.hid fun W hb => by
    have := sFitBeat_r n2 lo2 hi2 mo L2 A7 c7 W (R7.out.go hb) (by omega) hc7
    rw [hD4.out] at this; exact this
  have hI5 : Hid (∀ W, Below w7.heap.size w7 W → Calls Try.prog 21 #[.int .i64 n2, .slice A7 L2.length c7, .int .i64 lo2, .int .i64 hi2, .int .i64 0] W fun e w' => e = .returned (.tuple #[.int .i64 D5.1.1, .int .i64 D5.1.2.1, .int .i64 D5.1.2.2, .bool D5.2]) ∧ Below W.heap.size W w') := Lib.hid fun W hb => by
    have := iFitGap_r n2 lo2 hi2 0 L2 A7 c7 W (R7.out.go hb) (by omega) hc7
    rw [hD5.out] at this; exact this
  obtain ⟨⟨⟨b1, b2, b3⟩, bs⟩, okb⟩ := D4
  obtain ⟨⟨g1, g2, g3⟩, okg⟩ := D5
  simp only at hle hI4 hS4 hI5
  clear hD4 hD5
  go_upto_region 28 with (first | (go_at_call 28; refine (hI4.out w7 (Below.refl _ _)).mono ?_; rintro e w8 ⟨rfl, hb8⟩; have B8 := Lib.hid hb8; clear hb8) | fail)
  obtain ⟨V8, hVe, hVb8, hX⟩ : ∃ V : World, Hid (w8.alloc (.cells #[.int .i64 b1, .int .i64 b2, .int .i64 b3] 31) = V) ∧ Hid (Below w8.heap.size w8 V) ∧ Hid (Cells V w8.heap.size 3 (fun i => (#[Value.int .i64 b1, .int .i64 b2, .int .i64 b3] : Array Value).getD i undef)) := ⟨_, Lib.hid rfl, Lib.hid ((Below.refl _ _).alloc (Nat.le_refl _) _), Lib.hid (Cells.newD _ #[.int .i64 b1, .int .i64 b2, .int .i64 b3] _)⟩
  rw [hVe.out]
  clear hVe
  have B8' := Lib.hid (bgo B8.out hVb8.out)
  go_upto_region 29 with (first | (go_at_call 29; refine (hS4.out V8 B8'.out).mono ?_; rintro e w9 ⟨rfl, hb9⟩; have J9 := Lib.hid hb9; clear hb9) | fail)
  obtain ⟨V9, hVe, hVb9, hY⟩ : ∃ V : World, Hid (w9.alloc (.cells #[.int .i64 b1, .int .i64 b2, .int .i64 b3] 31) = V) ∧ Hid (Below w9.heap.size w9 V) ∧ Hid (Cells V w9.heap.size 3 (fun i => (#[Value.int .i64 b1, .int .i64 b2, .int .i64 b3] : Array Value).getD i undef)) := ⟨_, Lib.hid rfl, Lib.hid ((Below.refl _ _).alloc (Nat.le_refl _) _), Lib.hid (Cells.newD _ #[.int .i64 b1, .int .i64 b2, .int .i64 b3] _)⟩
  rw [hVe.out]
  clear hVe
  have K9 := Lib.hid (bgo J9.out hVb9.out)
  have K79 := Lib.hid (bgo B8'.out K9.out)
  have BV9 := Lib.hid (bgo B7.out K79.out)
  have hUx := hX.out.later K9.out
  have p0 := hUx.cell (i := 0) (by decide)
  have p1 := hUx.cell (i := 1) (by decide)
  have p2 := hUx.cell (i := 2) (by decide)
  clear hUx
  have q0 := hY.out.cell (i := 0) (by decide)
  have q1 := hY.out.cell (i := 1) (by decide)
  have q2 := hY.out.cell (i := 2) (by decide)
  have EN := neBeat_f b1 b2 b3
  cases okb
  · go_upto_region 34 with fail
    clear p0 p1 p2 q0 q1 q2
    go_upto_region 35 with (first | (go_at_call 30; refine (drawStartFor_any A' c' l' _ (H'.out.go BV9.out) Hb'.out hl').mono ?_; rintro e wA ⟨n3, L3, AA, cA, ga, ha, rfl, hL3, hcA, hrA, hbA⟩; have RA := Lib.hid hrA; have BA := Lib.hid (bgo BV9.out hbA); clear hrA hbA) | fail)
    obtain ⟨D6, hD6⟩ : ∃ D, Hid (sfR n3 L3 ga ha = D) := ⟨_, Lib.hid rfl⟩
    have hI6 : Hid (∀ W, Below wA.heap.size wA W → Calls Try.prog 25 #[.int .i64 n3, .slice AA L3.length cA, .int .i64 ga, .int .i64 ha] W fun e w' => e = .returned (.tuple #[.int .i64 D6.1.1, .int .i64 D6.1.2, .bool D6.2]) ∧ Below W.heap.size W w') := Lib.hid fun W hb => by
      have := iStart_r n3 ga ha L3 AA cA W (RA.out.go hb) (by omega) hcA
      rw [hD6.out] at this; exact this
    have hS6 : Hid (∀ W, Below wA.heap.size wA W → Calls Try.prog 31 #[.int .i64 n3, .slice AA L3.length cA, .int .i64 ga, .int .i64 ha] W fun e w' => e = .returned (.tuple #[.int .i64 D6.1.1, .int .i64 D6.1.2, .bool D6.2]) ∧ Below W.heap.size W w') := Lib.hid fun W hb => by
      have := sStart_r n3 ga ha L3 AA cA W (RA.out.go hb) (by omega) hcA
      rw [hD6.out] at this; exact this
    obtain ⟨⟨s1, s2⟩, oks⟩ := D6
    simp only at hI6 hS6
    go_wp2_with (first
      | (go_at_call 25; refine (hI6.out wA (Below.refl _ _)).mono ?_; rintro e wB ⟨rfl, hbB⟩; have JB := Lib.hid hbB; clear hbB)
      | (go_at_call 31; refine (hS6.out wB JB.out).mono ?_; rintro e wC ⟨rfl, hbC⟩; have JC := Lib.hid (bgo JB.out hbC); clear hbC)
      | fail)
    go_ret
    exact ⟨by simp, bgo BA.out JC.out⟩
  · obtain ⟨rfl, hge⟩ := hle.out rfl
    have hge' : bs ≤ g3 := hge
    clear hle hge
    go_upto_region 32 with fail
    clear p0 p1 p2 q0 q1 q2
    go_wp2_with (first | (go_at_call 21; refine (hI5.out V9 K79.out).mono ?_; rintro e wA ⟨rfl, hbA⟩; have JA := Lib.hid hbA; clear hbA) | fail)
    go_ret
    exact ⟨rfl, bgo BV9.out JA.out⟩
namespace fnBeats
open Go.ChangeShapes Go.WideShapes Go.ChangeAt Go.RowKit Go.Deep
open Go.ChangeMaps (open_string shut_string)
theorem own : ownKnob Try.prog.godebug = none := by kernel_rfl
theorem laid : laidOutB Try.prog = true := by kernel_rfl
theorem reads : Try.f4.params.toList.all (fun t => Try.prog.readableRec t && decide (t < Try.prog.types.size)) = true := by kernel_rfl
set_option maxRecDepth 100000 in
theorem lifted (os : Os) (started : os.Started) (H : Type) (enc : TypeId × Value → H) :
    ReturnsInHanded {} Try.checked os 4 .any (Rows.fnBeatsSpec.pre6 enc Try.prog Try.f4 Rows.fnBeatsRow.domain false) (Rows.fnBeatsSpec.post enc Try.prog Try.f4 false true false false) := by
  refine returnsInHanded_of_change (C := Try.checked) own started (by kernel_rfl) Try.func4
    (ChangeSpec.witness6 (enc := enc) (C := Try.checked) false ⟨#[], #[.slice none 0 0, .slice none 0 0], []⟩ 8 (by kernel_rfl) (by kernel_rfl) (by kernel_rfl) (by kernel_rfl)) ?_
  intro W base args ds gs before hval0 hW hcnd _
  have hval : ∀ (j : Nat) t v, Try.f4.params[j]? = some t → args[j]? = some v → Value.okWide Try.prog W .any base t v := hval0
  have hW' := hW
  obtain ⟨p, q, hA0, hV, rfl, hfz, hnd⟩ := hW
  have hA : DataW.TrodAll enc Try.prog W 0 (fun _ => true) true Try.f4.params.toList args.toList ds p := hA0
  rw [Try.params4] at hA hval
  obtain ⟨rfl, rfl⟩ := trodVars_none hV
  have hlt : ∀ x ∈ p, x.block < W.heap.size := fun x hx => by simpa using hW'.lt x (List.mem_append.2 (.inl hx))
  clear hA0 hval0
  obtain ⟨v0, vs0, d0, ds0, p0, q0, hargs, rfl, rfl, h0, r0⟩ := trodAll_cons hA
  obtain ⟨v1, vs1, d1, ds1, p1, q1, rfl, rfl, rfl, h1, r1⟩ := trodAll_cons r0
  obtain ⟨rfl, rfl, rfl⟩ := trodAll_nil r1
  obtain rfl : args = #[v0, v1] := by cases args; simp_all
  clear hargs
  obtain ⟨A0, a0, c0, rfl, y0, x0, z0⟩ := open_list Try.underlying42 1 (by kernel_rfl) (by omega) encByte _ Byte_el (hval 0 42 v0 rfl rfl) h0
  obtain ⟨A1, a1, c1, rfl, y1, x1, z1⟩ := open_list Try.underlying42 1 (by kernel_rfl) (by omega) encByte _ Byte_el (hval 1 42 v1 rfl rfl) h1
  refine (beatsLaw W a0 A0 c0 x0 (by unfold maxLen at y0; omega) z0 a1 A1 c1 x1 (by unfold maxLen at y1; omega) z1).mono fun e W' ⟨he, hg⟩ => ?_
  subst he
  exact ⟨_, rfl, law_post laid reads rfl Try.underlying4 rfl rfl hW' hg⟩
theorem over : Rows.fnBeatsRow.holds Try.pinned (OpenSpec.ofChange Rows.fnBeatsSpec) :=
  OpenClaim.holds_of_wide 4 Try.f4 rfl rfl rfl rfl rfl rfl rfl ⟨rfl, rfl, rfl, rfl, rfl⟩ rfl rfl rfl rfl rfl (by kernel_rfl) Try.func4 facts
    (of_decide_eq_true (by kernel_rfl)) (by unfold Func.isWrapper; first | (rw [if_pos (by decide +kernel)]; kernel_rfl) | (rw [if_neg (by decide +kernel)]; exact ⟨rfl, rfl⟩))
    (fun os started H enc _ => lifted os started H enc)
theorem proved : Rows.FnBeatsSaid := over
end fnBeats
end Go.Proofs.Ytkegbbndmfnolaa
