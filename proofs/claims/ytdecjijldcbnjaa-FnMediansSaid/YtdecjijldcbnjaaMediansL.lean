/-
  FnMedians: the median has the least weighted sum of distances; both sides agree.
-/
import Derived.Test.YtdecjijldcbnjaaMedDraw
import Derived.Test.YtdecjijldcbnjaaFar
import Derived.Test.YtdecjijldcbnjaaMedC
import Derived.Test.YtdecjijldcbnjaaByte
import Derived.Test.YtdecjijldcbnjaaRow
import Derived.Test.YtdecjijldcbnjaaFaMedians
namespace Go.Proofs.Ytdecjijldcbnjaa
open Go.RowKit Go.ChangeShapes Go.WideShapes Go.Deep
set_option linter.unusedVariables false
set_option linter.unusedSimpArgs false
set_option maxRecDepth 100000

theorem big_any (n m : Nat) (A A' : Option Addr) (c c' : Nat) (w : World) (hn : n ≤ 9223372036854775807) (hm : m ≤ 9223372036854775807) :
    Calls Try.prog 49 #[.slice A n c, .slice A' m c'] w fun e w' => e = .returned (.bool (B (1048576 < n + m))) ∧ w = w' := by
  by_cases h1 : 1048576 < n
  · have d1 : decide ((1048576 : Int) < (n : Int)) = true := by simp; omega
    go_enter Try.func49, Try.ntmps49
    go_wp2
    go_ret
    exact ⟨ret_t (by omega), rfl⟩
  · have d1 : decide ((1048576 : Int) < (n : Int)) = false := by simp; omega
    by_cases h2 : 1048576 < n + m
    · have d2 : decide ((1048576 : Int) - (n : Int) < (m : Int)) = true := by simp; omega
      go_enter Try.func49, Try.ntmps49
      go_wp2
      go_ret
      exact ⟨ret_t h2, rfl⟩
    · have d2 : decide ((1048576 : Int) - (n : Int) < (m : Int)) = false := by simp; omega
      go_enter Try.func49, Try.ntmps49
      go_wp2
      go_ret
      exact ⟨ret_f h2, rfl⟩
/-- The sum that both sides return, whether asked rightly or not. -/
noncomputable def farR (vs ws : List Int) (x : Int) : Int := @ite _ (farP vs ws x) (Classical.propDecidable _) (farOf vs ws x vs.length) 0
noncomputable def medR (vs ws : List Int) : Int := @ite _ (valP vs ws) (Classical.propDecidable _) (medOf vs ws) 0
theorem farR_t {vs ws : List Int} {x : Int} (h : farP vs ws x) : farR vs ws x = farOf vs ws x vs.length := if_pos h
theorem medR_t {vs ws : List Int} (h : valP vs ws) : medR vs ws = medOf vs ws := if_pos h

theorem iSumFar_any (vs ws : List Int) (x : Int) (A A' : Option Addr) (c c' : Nat) (w : World) (h : RdL w w.heap.size A 1 encInt vs) (h' : RdL w w.heap.size A' 1 encInt ws) (hl0 : vs.length ≤ 1048576) (hl' : ws.length ≤ 1048576) :
    Calls Try.prog 51 #[.slice A vs.length c, .slice A' ws.length c', .int .i64 x] w fun e w' => e = .returned (.tuple #[.int .i64 (farR vs ws x), .bool (B (farP vs ws x))]) ∧ Below w.heap.size w w' := by
  by_cases hp : farP vs ws x
  · have := iSumFar_t vs ws x A A' c c' w h h' hl0 hl' hp
    rwa [← farR_t hp, ← B_t hp] at this
  · have := iSumFar_f vs ws x A A' c c' w h h' hl0 hl' hp
    have e : farR vs ws x = 0 := if_neg hp
    rw [e, B_f hp]; exact this
theorem sSumFar_any (vs ws : List Int) (x : Int) (A A' : Option Addr) (c c' : Nat) (w : World) (h : RdL w w.heap.size A 1 encInt vs) (h' : RdL w w.heap.size A' 1 encInt ws) (hl0 : vs.length ≤ 1048576) (hl' : ws.length ≤ 1048576) :
    Calls Try.prog 52 #[.slice A vs.length c, .slice A' ws.length c', .int .i64 x] w fun e w' => e = .returned (.tuple #[.int .i64 (farR vs ws x), .bool (B (farP vs ws x))]) ∧ Below w.heap.size w w' := by
  by_cases hp : farP vs ws x
  · have := sSumFar_t vs ws x A A' c c' w h h' hl0 hl' hp
    rwa [← farR_t hp, ← B_t hp] at this
  · have := sSumFar_f vs ws x A A' c c' w h h' hl0 hl' hp
    have e : farR vs ws x = 0 := if_neg hp
    rw [e, B_f hp]; exact this

theorem iMedian_any (vs ws : List Int) (A A' : Option Addr) (c c' : Nat) (w : World) (h : RdL w w.heap.size A 1 encInt vs) (h' : RdL w w.heap.size A' 1 encInt ws) (hl0 : vs.length ≤ 1048576) (hl' : ws.length ≤ 1048576) :
    Calls Try.prog 53 #[.slice A vs.length c, .slice A' ws.length c'] w fun e w' => e = .returned (.tuple #[.int .i64 (medR vs ws), .bool (B (valP vs ws))]) ∧ Below w.heap.size w w' := by
  by_cases hp : valP vs ws
  · have := iMedian_t vs ws A A' c c' w h h' hl0 hl' hp
    rwa [← medR_t hp, ← B_t hp] at this
  · have := iMedian_f vs ws A A' c c' w h h' hl0 hl' hp
    have e : medR vs ws = 0 := if_neg hp
    rw [e, B_f hp]; exact this
theorem sMedian_any (vs ws : List Int) (A A' : Option Addr) (c c' : Nat) (w : World) (h : RdL w w.heap.size A 1 encInt vs) (h' : RdL w w.heap.size A' 1 encInt ws) (hl0 : vs.length ≤ 1048576) (hl' : ws.length ≤ 1048576) :
    Calls Try.prog 54 #[.slice A vs.length c, .slice A' ws.length c'] w fun e w' => e = .returned (.tuple #[.int .i64 (medR vs ws), .bool (B (valP vs ws))]) ∧ Below w.heap.size w w' := by
  by_cases hp : valP vs ws
  · have := sMedian_t vs ws A A' c c' w h h' hl0 hl' hp
    rwa [← medR_t hp, ← B_t hp] at this
  · have := sMedian_f vs ws A A' c c' w h h' hl0 hl' hp
    have e : medR vs ws = 0 := if_neg hp
    rw [e, B_f hp]; exact this
/-- What the law asks of a median. -/
theorem med_best {vs ws : List Int} (h : valP vs ws) : medR vs ws ∈ vs ∧ inB (medR vs ws) (-10000000) 10000000 ∧ farP vs ws (medR vs ws) ∧ ∀ y, farP vs ws y → ¬ farR vs ws y < farR vs ws (medR vs ws) := by
  have hw : ∀ i, i < vs.length → 0 ≤ ws.getD i 0 := fun i hi => by have := allIn_getD h.2.2.2 (k := i) (by have := h.2.2.1; omega); omega
  obtain ⟨v, hv⟩ := med_exists (vs := vs) (ws := ws) (by intro e; have := h.2.1; rw [e] at this; simp at this) hw
  rw [medR_t h, medOf_eq hv]
  have hin := h.1.2 v hv.1
  have hp : farP vs ws v := ⟨h, hin⟩
  refine ⟨hv.1, hin, hp, fun y hy => ?_⟩
  rw [farR_t hy, farR_t hp]
  have := far_med hv hw y
  omega

set_option maxHeartbeats 8000000 in
theorem mediansLaw (w : World) (l : List Int) (A : Option Addr) (c : Nat) (h : RdL w w.heap.size A 1 encByte l) (hl : l.length ≤ 9223372036854775807) (hb : ∀ x ∈ l, Byte_small 9223372036854775807 x) (l' : List Int) (A' : Option Addr) (c' : Nat) (h' : RdL w w.heap.size A' 1 encByte l') (hl' : l'.length ≤ 9223372036854775807) (hb' : ∀ x ∈ l', Byte_small 9223372036854775807 x) :
    Calls Try.prog 6 #[.slice A l.length c, .slice A' l'.length c'] w fun e w' => e = .returned (.bool true) ∧ Below w.heap.size w w' := by
  have H := Lib.hid h
  have H' := Lib.hid h'
  have Hb := Lib.hid hb
  have Hb' := Lib.hid hb'
  clear h h' hb hb'
  by_cases hbig : 1048576 < l.length + l'.length
  · have e0 := B_t hbig
    go_enter Try.func6, Try.ntmps6
    go_wp2_with (go_at_call 49; refine (big_any _ _ _ _ _ _ _ hl hl').mono ?_; rintro e w' ⟨rfl, rfl⟩)
    go_ret
    exact ⟨rfl, Below.refl _ _⟩
  have e0 := B_f hbig
  have hl2 : l.length ≤ 1048576 := by omega
  have hl3 : l'.length ≤ 1048576 := by omega
  go_enter Try.func6, Try.ntmps6
  go_upto_region 4 with (first | (go_at_call 49; refine (big_any _ _ _ _ _ _ _ hl hl').mono ?_; rintro e w' ⟨rfl, rfl⟩) | (go_at_call 50; refine (drawSumFar_any A c l _ H.out Hb.out hl2).mono ?_; rintro e w1 ⟨A1, A2, c1, c2, vs, ws, x, rfl, hv7, hw7, hr1, hr2, hb1⟩; have HR1 := Lib.hid hr1; have HR2 := Lib.hid hr2; have HB1 := Lib.hid hb1; clear hr1 hr2 hb1))
  obtain ⟨F, hF⟩ : ∃ F : Int → Int, Hid (farR vs ws = F) := ⟨_, Lib.hid rfl⟩
  obtain ⟨M, hM⟩ : ∃ M : Int, Hid (medR vs ws = M) := ⟨_, Lib.hid rfl⟩
  have hSi : Hid (∀ (y : Int) (W : World), Below w1.heap.size w1 W → Calls Try.prog 51 #[.slice A1 vs.length c1, .slice A2 ws.length c2, .int .i64 y] W fun e w' => e = .returned (.tuple #[.int .i64 (F y), .bool (B (farP vs ws y))]) ∧ Below W.heap.size W w') := Lib.hid fun y W hb => by rw [← hF.out]; exact iSumFar_any vs ws y A1 A2 c1 c2 W ((HR1.out.below hb (Nat.le_refl _)).more hb.size) ((HR2.out.below hb (Nat.le_refl _)).more hb.size) (by omega) (by omega)
  have hSs : Hid (∀ (y : Int) (W : World), Below w1.heap.size w1 W → Calls Try.prog 52 #[.slice A1 vs.length c1, .slice A2 ws.length c2, .int .i64 y] W fun e w' => e = .returned (.tuple #[.int .i64 (F y), .bool (B (farP vs ws y))]) ∧ Below W.heap.size W w') := Lib.hid fun y W hb => by rw [← hF.out]; exact sSumFar_any vs ws y A1 A2 c1 c2 W ((HR1.out.below hb (Nat.le_refl _)).more hb.size) ((HR2.out.below hb (Nat.le_refl _)).more hb.size) (by omega) (by omega)
  have hMi : Hid (∀ (W : World), Below w1.heap.size w1 W → Calls Try.prog 53 #[.slice A1 vs.length c1, .slice A2 ws.length c2] W fun e w' => e = .returned (.tuple #[.int .i64 M, .bool (B (valP vs ws))]) ∧ Below W.heap.size W w') := Lib.hid fun W hb => by rw [← hM.out]; exact iMedian_any vs ws A1 A2 c1 c2 W ((HR1.out.below hb (Nat.le_refl _)).more hb.size) ((HR2.out.below hb (Nat.le_refl _)).more hb.size) (by omega) (by omega)
  have hMs : Hid (∀ (W : World), Below w1.heap.size w1 W → Calls Try.prog 54 #[.slice A1 vs.length c1, .slice A2 ws.length c2] W fun e w' => e = .returned (.tuple #[.int .i64 M, .bool (B (valP vs ws))]) ∧ Below W.heap.size W w') := Lib.hid fun W hb => by rw [← hM.out]; exact sMedian_any vs ws A1 A2 c1 c2 W ((HR1.out.below hb (Nat.le_refl _)).more hb.size) ((HR2.out.below hb (Nat.le_refl _)).more hb.size) (by omega) (by omega)
  have hHas : Hid (∀ (W : World), Below w1.heap.size w1 W → Calls Try.prog 55 #[.slice A1 vs.length c1, .int .i64 M] W fun e w' => e = .returned (.bool (B (M ∈ vs))) ∧ W = w') := Lib.hid fun W hb => has_any vs M A1 c1 W ((HR1.out.below hb (Nat.le_refl _)).more hb.size) (by omega)
  go_upto_region 5 with (go_at_call 51; refine (hSi.out _ _ (Below.refl _ _)).mono ?_; rintro e w2 ⟨rfl, hb2⟩; have HB2 := Lib.hid hb2; clear hb2)
  go_upto_region 6 with (go_at_call 52; refine (hSs.out _ _ HB2.out).mono ?_; rintro e w3 ⟨rfl, hb3⟩; have HB3 := Lib.hid (HB2.out.trans (hb3.mono HB2.out.size)); clear hb3)
  go_upto_region 7 with (go_at_call 53; refine (hMi.out _ HB3.out).mono ?_; rintro e w4 ⟨rfl, hb4⟩; have HB4 := Lib.hid (HB3.out.trans (hb4.mono HB3.out.size)); clear hb4)
  go_upto_region 8 with (go_at_call 54; refine (hMs.out _ HB4.out).mono ?_; rintro e w5 ⟨rfl, hb5⟩; have HB5 := Lib.hid (HB4.out.trans (hb5.mono HB4.out.size)); clear hb5)
  have HW5 := Lib.hid (HB1.out.trans (HB5.out.mono HB1.out.size))
  clear hSs hMi hMs
  by_cases hv : valP vs ws
  · have e1 := B_t hv
    obtain ⟨hM1, hM2, hM3, hM4⟩ := med_best hv
    rw [hM.out] at hM1 hM2 hM3 hM4
    rw [hF.out] at hM4
    have HM4 := Lib.hid hM4
    have e2 := B_t hM1
    have e3 := B_t hM3
    obtain ⟨m1, m2⟩ := hM2
    clear hv hM1 hM3 hM4
    have e4 : B (farP vs ws x) = false ∨ (B (farP vs ws x) = true ∧ decide (F x < F M) = false) := by
      by_cases hf : farP vs ws x
      · exact .inr ⟨B_t hf, by have := HM4.out x hf; simpa using this⟩
      · exact .inl (B_f hf)
    have hSM : Hid (Calls Try.prog 51 #[.slice A1 vs.length c1, .slice A2 ws.length c2, .int .i64 M] w5 fun e w' => e = .returned (.tuple #[.int .i64 (F M), .bool true]) ∧ Below w5.heap.size w5 w') := Lib.hid (by rw [← e3]; exact hSi.out M w5 HB5.out)
    have hHM : Hid (∀ (W : World), Below w1.heap.size w1 W → Calls Try.prog 55 #[.slice A1 vs.length c1, .int .i64 M] W fun e w' => e = .returned (.bool true) ∧ W = w') := Lib.hid (fun W hb => by rw [← e2]; exact hHas.out W hb)
    simp only [e1]
    clear e1 e2 e3 hHas
    rcases e4 with e4 | ⟨e4, e5⟩
    all_goals
      simp only [e4]
      clear e4
      go_upto_region 12 with (go_at_call 51; refine hSM.out.mono ?_; rintro e w6 ⟨rfl, hb6⟩; have HB6 := Lib.hid (HB5.out.trans (hb6.mono HB5.out.size)); clear hb6)
      go_upto_region 14 with (go_at_call 55; refine (hHM.out _ HB6.out).mono ?_; rintro e w' ⟨rfl, rfl⟩)
      have hcl := Lib.hid (Cells.lit w6 #[.int .i64 (M - 1), .int .i64 (M + 1), .int .i64 0] 3 3 rfl)
      have hb61 : Hid (Below w1.heap.size w1 (w6.alloc (.cells #[.int .i64 (M - 1), .int .i64 (M + 1), .int .i64 0] 3))) := Lib.hid (HB6.out.alloc HB6.out.size _)
      have hq6 : w6.heap.size < (w6.alloc (.cells #[.int .i64 (M - 1), .int .i64 (M + 1), .int .i64 0] 3)).heap.size := by simp
      go_upto_region 15 with fail
      generalize w6.alloc (.cells #[.int .i64 (M - 1), .int .i64 (M + 1), .int .i64 0] 3) = W6 at *
      go_loopw [111] (fun i wr => ∃ k : Nat, k ≤ 3 ∧ i = .int .i64 k ∧ Below W6.heap.size W6 wr) (fun i _ => 3 - (intOf i).toNat)
      case atStart => exact ⟨0, by omega, by rfl, Below.refl _ _⟩
      case round =>
        obtain ⟨k, hk, rfl, hbl⟩ := hrel
        have Hbl := Lib.hid hbl
        clear hbl
        by_cases hlt : k < 3
        · obtain ⟨y, hy⟩ : ∃ y, wr.cell? ⟨w6.heap.size, k, none⟩ = some (.int .i64 y) := by
            have h0 := (Hbl.out.cell (p := ⟨w6.heap.size, k, none⟩) hq6).trans (hcl.out.cell hlt)
            rcases k with _ | _ | _ | k
            · exact ⟨_, h0⟩
            · exact ⟨_, h0⟩
            · exact ⟨_, h0⟩
            · omega
          have HBr := Lib.hid (hb61.out.trans (Hbl.out.mono hb61.out.size))
          have d3 : decide ((k : Int) < 3) = true := by simp; omega
          by_cases hp : farP vs ws y
          · have hS := hSi.out y wr HBr.out
            rw [B_t hp] at hS
            have HS := Lib.hid hS
            have dd : decide (F y < F M) = false := by have := HM4.out y hp; simpa using this
            clear hS hp
            go_wp2_with (go_at_call 51; refine HS.out.mono ?_; rintro e w7 ⟨rfl, hb7⟩; have HB7 := Lib.hid (Hbl.out.trans (hb7.mono Hbl.out.size)); clear hb7)
            go_roundw
            case rel => exact ⟨k + 1, by omega, by go_num, HB7.out⟩
            case measure => simp [intOf]; omega
          · have hS := hSi.out y wr HBr.out
            rw [B_f hp] at hS
            have HS := Lib.hid hS
            clear hS hp
            go_wp2_with (go_at_call 51; refine HS.out.mono ?_; rintro e w7 ⟨rfl, hb7⟩; have HB7 := Lib.hid (Hbl.out.trans (hb7.mono Hbl.out.size)); clear hb7)
            go_roundw
            case rel => exact ⟨k + 1, by omega, by go_num, HB7.out⟩
            case measure => simp [intOf]; omega
        · obtain rfl : k = 3 := by omega
          have HWr := Lib.hid (HB1.out.trans ((hb61.out.trans (Hbl.out.mono hb61.out.size)).mono HB1.out.size))
          skip
          go_upto_region 22 with (go_at_call 56; refine (drawMedianOf_any A' c' l' _ ((H'.out.below HWr.out (Nat.le_refl _)).more HWr.out.size) Hb'.out hl3).mono ?_; rintro e w7 ⟨A3, A4, c3, c4, vs2, ws2, rfl, hv8, hw8, hr3, hr4, hb7⟩; have HR3 := Lib.hid hr3; have HR4 := Lib.hid hr4; have HB7 := Lib.hid (HWr.out.trans (hb7.mono HWr.out.size)); clear hr3 hr4 hb7)
          obtain ⟨M2, hM2⟩ : ∃ M : Int, Hid (medR vs2 ws2 = M) := ⟨_, Lib.hid rfl⟩
          go_wp2_with (first
            | (go_at_call 53; refine (iMedian_any vs2 ws2 A3 A4 c3 c4 _ HR3.out HR4.out (by omega) (by omega)).mono ?_; rintro e w8 ⟨rfl, hb8⟩; have HB8 := Lib.hid hb8; clear hb8)
            | (go_at_call 54; refine (sMedian_any vs2 ws2 A3 A4 c3 c4 _ ((HR3.out.below HB8.out (Nat.le_refl _)).more HB8.out.size) ((HR4.out.below HB8.out (Nat.le_refl _)).more HB8.out.size) (by omega) (by omega)).mono ?_; rintro e w9 ⟨rfl, hb9⟩; have HB9 := Lib.hid hb9; clear hb9))
          go_ret
          exact ⟨rfl, HB7.out.trans ((HB8.out.trans (HB9.out.mono HB8.out.size)).mono HB7.out.size)⟩
  · have e1 := B_f hv
    simp only [e1]
    clear hv e1
    skip
    go_upto_region 22 with (go_at_call 56; refine (drawMedianOf_any A' c' l' _ ((H'.out.below HW5.out (Nat.le_refl _)).more HW5.out.size) Hb'.out hl3).mono ?_; rintro e w7 ⟨A3, A4, c3, c4, vs2, ws2, rfl, hv8, hw8, hr3, hr4, hb7⟩; have HR3 := Lib.hid hr3; have HR4 := Lib.hid hr4; have HB7 := Lib.hid (HW5.out.trans (hb7.mono HW5.out.size)); clear hr3 hr4 hb7)
    obtain ⟨M2, hM2⟩ : ∃ M : Int, Hid (medR vs2 ws2 = M) := ⟨_, Lib.hid rfl⟩
    go_wp2_with (first
      | (go_at_call 53; refine (iMedian_any vs2 ws2 A3 A4 c3 c4 _ HR3.out HR4.out (by omega) (by omega)).mono ?_; rintro e w8 ⟨rfl, hb8⟩; have HB8 := Lib.hid hb8; clear hb8)
      | (go_at_call 54; refine (sMedian_any vs2 ws2 A3 A4 c3 c4 _ ((HR3.out.below HB8.out (Nat.le_refl _)).more HB8.out.size) ((HR4.out.below HB8.out (Nat.le_refl _)).more HB8.out.size) (by omega) (by omega)).mono ?_; rintro e w9 ⟨rfl, hb9⟩; have HB9 := Lib.hid hb9; clear hb9))
    go_ret
    exact ⟨rfl, HB7.out.trans ((HB8.out.trans (HB9.out.mono HB8.out.size)).mono HB7.out.size)⟩
namespace fnMedians
open Go.ChangeShapes Go.WideShapes Go.ChangeAt Go.RowKit Go.Deep
open Go.ChangeMaps (open_string shut_string)
theorem own : ownKnob Try.prog.godebug = none := by kernel_rfl
theorem laid : laidOutB Try.prog = true := by kernel_rfl
theorem reads : Try.f6.params.toList.all (fun t => Try.prog.readableRec t && decide (t < Try.prog.types.size)) = true := by kernel_rfl
set_option maxRecDepth 100000 in
theorem lifted (os : Os) (started : os.Started) (H : Type) (enc : TypeId × Value → H) :
    ReturnsInHanded {} Try.checked os 6 .any (Rows.fnMediansSpec.pre6 enc Try.prog Try.f6 Rows.fnMediansRow.domain false) (Rows.fnMediansSpec.post enc Try.prog Try.f6 false true false false) := by
  refine returnsInHanded_of_change (C := Try.checked) own started (by kernel_rfl) Try.func6
    (ChangeSpec.witness6 (enc := enc) (C := Try.checked) false ⟨#[], #[.slice none 0 0, .slice none 0 0], []⟩ 8 (by kernel_rfl) (by kernel_rfl) (by kernel_rfl) (by kernel_rfl)) ?_
  intro W base args ds gs before hval0 hW hcnd _
  have hval : ∀ (j : Nat) t v, Try.f6.params[j]? = some t → args[j]? = some v → Value.okWide Try.prog W .any base t v := hval0
  have hW' := hW
  obtain ⟨p, q, hA0, hV, rfl, hfz, hnd⟩ := hW
  have hA : DataW.TrodAll enc Try.prog W 0 (fun _ => true) true Try.f6.params.toList args.toList ds p := hA0
  rw [Try.params6] at hA hval
  obtain ⟨rfl, rfl⟩ := trodVars_none hV
  have hlt : ∀ x ∈ p, x.block < W.heap.size := fun x hx => by simpa using hW'.lt x (List.mem_append.2 (.inl hx))
  clear hA0 hval0
  obtain ⟨v0, vs0, d0, ds0, p0, q0, hargs, rfl, rfl, h0, r0⟩ := trodAll_cons hA
  obtain ⟨v1, vs1, d1, ds1, p1, q1, rfl, rfl, rfl, h1, r1⟩ := trodAll_cons r0
  obtain ⟨rfl, rfl, rfl⟩ := trodAll_nil r1
  obtain rfl : args = #[v0, v1] := by cases args; simp_all
  clear hargs
  obtain ⟨A0, a0, c0, rfl, y0, x0, z0⟩ := open_list Try.underlying22 1 (by kernel_rfl) (by omega) encByte _ Byte_el (hval 0 22 v0 rfl rfl) h0
  obtain ⟨A1, a1, c1, rfl, y1, x1, z1⟩ := open_list Try.underlying22 1 (by kernel_rfl) (by omega) encByte _ Byte_el (hval 1 22 v1 rfl rfl) h1
  refine (mediansLaw W a0 A0 c0 x0 (by unfold maxLen at y0; omega) z0 a1 A1 c1 x1 (by unfold maxLen at y1; omega) z1).mono fun e W' ⟨he, hg⟩ => ?_
  subst he
  exact ⟨_, rfl, law_post laid reads rfl Try.underlying4 rfl rfl hW' hg⟩
theorem over : Rows.fnMediansRow.holds Try.pinned (OpenSpec.ofChange Rows.fnMediansSpec) :=
  OpenClaim.holds_of_wide 6 Try.f6 rfl rfl rfl rfl rfl rfl rfl ⟨rfl, rfl, rfl, rfl, rfl⟩ rfl rfl rfl rfl rfl (by kernel_rfl) Try.func6 facts
    (of_decide_eq_true (by kernel_rfl)) (by unfold Func.isWrapper; first | (rw [if_pos (by decide +kernel)]; kernel_rfl) | (rw [if_neg (by decide +kernel)]; exact ⟨rfl, rfl⟩))
    (fun os started H enc _ => lifted os started H enc)
theorem proved : Rows.FnMediansSaid := over
end fnMedians
end Go.Proofs.Ytdecjijldcbnjaa
