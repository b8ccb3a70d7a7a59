/-
  FitGap of the program returns what the reference's returns, for all arguments: no condition.
-/
import Derived.Test.YtebmlcollanfhaaFit
import Derived.Test.YtebmlcollanfhaaFaFitGap
namespace Go.Proofs.Ytebmlcollanfhaa
open Go.RowKit
set_option linter.unusedVariables false
set_option linter.unusedSimpArgs false
set_option maxRecDepth 100000

theorem results_tmp4 {fn : Func} {t u v z : Tmp} (h : fn.results = #[.tmp t, .tmp u, .tmp v, .tmp z]) (tmps : Array Value) (P : Program) (w : World) :
    (results fn tmps).run P w = .ok (.tuple #[tmps.getD t undef, tmps.getD u undef, tmps.getD v undef, tmps.getD z undef]) w := by
  simp [results, h]





theorem fitGP_fit {n low high hand : Int} {l : List Blw} (h : fitGP n l low high hand) : fitP n l low hand := fitGP_at h (Int.le_refl _) h.2.2.1.2.1
theorem fit_fitGP {n low high hand : Int} {l : List Blw} (h : fitP n l low hand) (hr : rangeP low high) : fitGP n l low high hand := ⟨h.1, h.2.1, hr, h.2.2.2⟩

theorem iFitGap_t (n low high hand : Int) (l : List Blw) (A : Option Addr) (c : Nat) (w : World) (h : RdL w w.heap.size A 3 Blw.enc l) (hl : l.length ≤ 1048576) (hc : l.length ≤ c) (hp : fitGP n l low high hand) :
    Calls Try.prog 67 #[.int .i64 n, .slice A l.length c, .int .i64 low, .int .i64 high, .int .i64 hand] w fun e w' => e = .returned (.tuple #[.int .i64 (gapF n hand l low (high - low + 1).toNat).1, .int .i64 (gapF n hand l low (high - low + 1).toNat).2.1, .int .i64 (gapF n hand l low (high - low + 1).toNat).2.2, .bool true]) ∧ Below w.heap.size w w' := by
  have HV := Lib.hid h
  have e1 := B_t hp.2.2.1
  have e2 := B_t (fitGP_fit hp)
  obtain ⟨s0, hs0⟩ : ∃ s, Hid ((gapF n hand l low (high - low + 1).toNat).1 = s) := ⟨_, Lib.hid rfl⟩
  obtain ⟨g0, hg0⟩ : ∃ s, Hid ((gapF n hand l low (high - low + 1).toNat).2.1 = s) := ⟨_, Lib.hid rfl⟩
  obtain ⟨b0, hb0⟩ : ∃ s, Hid ((gapF n hand l low (high - low + 1).toNat).2.2 = s) := ⟨_, Lib.hid rfl⟩
  rw [hs0.out, hg0.out, hb0.out]
  have hs : Hid (∀ W, Below w.heap.size w W → Calls Try.prog 145 #[.int .i64 n, .slice A l.length c, .int .i64 low, .int .i64 high, .int .i64 hand] W fun e w' => e = .returned (.tuple #[.int .i64 s0, .int .i64 g0, .int .i64 b0]) ∧ Below W.heap.size W w') := Lib.hid (fun W hb => by
    have := fitGap_any n low high hand l A c W ((h.below hb (Nat.le_refl _)).more hb.size) hp
    rw [hs0.out, hg0.out, hb0.out] at this; exact this)
  clear h hp
  go_enter Try.func67, Try.ntmps67
  go_wp2_with (first | (go_at_call 144; refine (goodRange_any _ _ _).mono ?_; rintro e w' ⟨rfl, rfl⟩) | (go_at_call 136; refine (goodFit_any n low hand l A c _ HV.out hl hc).mono ?_; rintro e w1 ⟨rfl, hb1⟩) | (go_at_call 145; refine (hs.out _ hb1).mono ?_; rintro e w2 ⟨rfl, hb2⟩))
  (try simp only [Exit.inBlock, Exit.then]); refine bodyPost_ret (results_tmp4 rfl _ _ _) rfl ?_
  exact ⟨rfl, hb1.trans (hb2.mono hb1.size)⟩
theorem iFitGap_f (n low high hand : Int) (l : List Blw) (A : Option Addr) (c : Nat) (w : World) (h : RdL w w.heap.size A 3 Blw.enc l) (hl : l.length ≤ 1048576) (hc : l.length ≤ c) (hp : ¬ fitGP n l low high hand) :
    Calls Try.prog 67 #[.int .i64 n, .slice A l.length c, .int .i64 low, .int .i64 high, .int .i64 hand] w fun e w' => e = .returned (.tuple #[.int .i64 0, .int .i64 0, .int .i64 0, .bool false]) ∧ Below w.heap.size w w' := by
  have HV := Lib.hid h
  clear h
  by_cases h1 : rangeP low high
  · have e1 := B_t h1
    have e2 := B_f (fun h2 => hp (fit_fitGP h2 h1))
    clear hp h1
    go_enter Try.func67, Try.ntmps67
    go_wp2_with (first | (go_at_call 144; refine (goodRange_any _ _ _).mono ?_; rintro e w' ⟨rfl, rfl⟩) | (go_at_call 136; refine (goodFit_any n low hand l A c _ HV.out hl hc).mono ?_; rintro e w1 ⟨rfl, hb1⟩))
    (try simp only [Exit.inBlock, Exit.then]); refine bodyPost_ret (results_tmp4 rfl _ _ _) rfl ?_
    exact ⟨rfl, hb1⟩
  · have e1 := B_f h1
    clear hp h1
    go_enter Try.func67, Try.ntmps67
    go_wp2_with (go_at_call 144; refine (goodRange_any _ _ _).mono ?_; rintro e w' ⟨rfl, rfl⟩)
    (try simp only [Exit.inBlock, Exit.then]); refine bodyPost_ret (results_tmp4 rfl _ _ _) rfl ?_
    exact ⟨rfl, Below.refl _ _⟩


theorem sFitGap_t (n low high hand : Int) (l : List Blw) (A : Option Addr) (c : Nat) (w : World) (h : RdL w w.heap.size A 3 Blw.enc l) (hl : l.length ≤ 1048576) (hc : l.length ≤ c) (hp : fitGP n l low high hand) :
    Calls Try.prog 66 #[.int .i64 n, .slice A l.length c, .int .i64 low, .int .i64 high, .int .i64 hand] w fun e w' => e = .returned (.tuple #[.int .i64 (gapF n hand l low (high - low + 1).toNat).1, .int .i64 (gapF n hand l low (high - low + 1).toNat).2.1, .int .i64 (gapF n hand l low (high - low + 1).toNat).2.2, .bool true]) ∧ Below w.heap.size w w' := by
  have HV := Lib.hid h
  have e1 := B_t hp.1
  have e2 := B_t hp.2.2.1
  have e3 := B_t hp.2.2.2
  have d1 : ((l.length : Int) == 0) = false := beq_eq_false_iff_ne.2 (by have := hp.2.1; omega)
  obtain ⟨s0, hs0⟩ : ∃ s, Hid ((gapF n hand l low (high - low + 1).toNat).1 = s) := ⟨_, Lib.hid rfl⟩
  obtain ⟨g0, hg0⟩ : ∃ s, Hid ((gapF n hand l low (high - low + 1).toNat).2.1 = s) := ⟨_, Lib.hid rfl⟩
  obtain ⟨b0, hb0⟩ : ∃ s, Hid ((gapF n hand l low (high - low + 1).toNat).2.2 = s) := ⟨_, Lib.hid rfl⟩
  rw [hs0.out, hg0.out, hb0.out]
  have hs : Hid (∀ W, Below w.heap.size w W → Calls Try.prog 143 #[.int .i64 n, .slice A l.length c, .int .i64 low, .int .i64 high, .int .i64 hand] W fun e w' => e = .returned (.tuple #[.int .i64 s0, .int .i64 g0, .int .i64 b0]) ∧ Below W.heap.size W w') := Lib.hid (fun W hb => by
    have := l23Gap_any n low high hand l A c W ((h.below hb (Nat.le_refl _)).more hb.size) hp
    rw [hs0.out, hg0.out, hb0.out] at this; exact this)
  clear h hp
  go_enter Try.func66, Try.ntmps66
  go_wp2_with (first | (go_at_call 133; refine (l23Good_any n l A c _ HV.out hl hc).mono ?_; rintro e w1 ⟨rfl, hb1⟩) | (go_at_call 127; refine (l1In_any _ _ _ _).mono ?_; rintro e w' ⟨rfl, rfl⟩) | (go_at_call 142; refine (l23Range_any _ _ _).mono ?_; rintro e w' ⟨rfl, rfl⟩) | (go_at_call 143; refine (hs.out _ hb1).mono ?_; rintro e w2 ⟨rfl, hb2⟩))
  (try simp only [Exit.inBlock, Exit.then]); refine bodyPost_ret (results_tmp4 rfl _ _ _) rfl ?_
  exact ⟨rfl, hb1.trans (hb2.mono hb1.size)⟩
theorem sFitGap_f (n low high hand : Int) (l : List Blw) (A : Option Addr) (c : Nat) (w : World) (h : RdL w w.heap.size A 3 Blw.enc l) (hl : l.length ≤ 1048576) (hc : l.length ≤ c) (hp : ¬ fitGP n l low high hand) :
    Calls Try.prog 66 #[.int .i64 n, .slice A l.length c, .int .i64 low, .int .i64 high, .int .i64 hand] w fun e w' => e = .returned (.tuple #[.int .i64 0, .int .i64 0, .int .i64 0, .bool false]) ∧ Below w.heap.size w w' := by
  have HV := Lib.hid h
  clear h
  by_cases h1 : blowsP n l
  rotate_left
  · have e1 := B_f h1
    clear hp h1
    go_enter Try.func66, Try.ntmps66
    go_wp2_with (first | (go_at_call 133; refine (l23Good_any n l A c _ HV.out hl hc).mono ?_; rintro e w1 ⟨rfl, hb1⟩) | (go_at_call 127; refine (l1In_any _ _ _ _).mono ?_; rintro e w' ⟨rfl, rfl⟩) | (go_at_call 142; refine (l23Range_any _ _ _).mono ?_; rintro e w' ⟨rfl, rfl⟩))
    (try simp only [Exit.inBlock, Exit.then]); refine bodyPost_ret (results_tmp4 rfl _ _ _) rfl ?_
    exact ⟨rfl, hb1⟩
  have e1 := B_t h1
  by_cases h2 : 0 < l.length
  rotate_left
  · have d1 : ((l.length : Int) == 0) = true := beq_iff_eq.2 (by omega)
    clear hp h1 h2
    go_enter Try.func66, Try.ntmps66
    go_wp2_with (first | (go_at_call 133; refine (l23Good_any n l A c _ HV.out hl hc).mono ?_; rintro e w1 ⟨rfl, hb1⟩) | (go_at_call 127; refine (l1In_any _ _ _ _).mono ?_; rintro e w' ⟨rfl, rfl⟩) | (go_at_call 142; refine (l23Range_any _ _ _).mono ?_; rintro e w' ⟨rfl, rfl⟩))
    (try simp only [Exit.inBlock, Exit.then]); refine bodyPost_ret (results_tmp4 rfl _ _ _) rfl ?_
    exact ⟨rfl, hb1⟩
  have d1 : ((l.length : Int) == 0) = false := beq_eq_false_iff_ne.2 (by omega)
  by_cases h3 : rangeP low high
  rotate_left
  · have e2 := B_f h3
    clear hp h1 h3
    go_enter Try.func66, Try.ntmps66
    go_wp2_with (first | (go_at_call 133; refine (l23Good_any n l A c _ HV.out hl hc).mono ?_; rintro e w1 ⟨rfl, hb1⟩) | (go_at_call 127; refine (l1In_any _ _ _ _).mono ?_; rintro e w' ⟨rfl, rfl⟩) | (go_at_call 142; refine (l23Range_any _ _ _).mono ?_; rintro e w' ⟨rfl, rfl⟩))
    (try simp only [Exit.inBlock, Exit.then]); refine bodyPost_ret (results_tmp4 rfl _ _ _) rfl ?_
    exact ⟨rfl, hb1⟩
  have e2 := B_t h3
  have e3 := B_f (fun h4 => hp ⟨h1, h2, h3, h4⟩)
  clear hp h1 h3
  go_enter Try.func66, Try.ntmps66
  go_wp2_with (first | (go_at_call 133; refine (l23Good_any n l A c _ HV.out hl hc).mono ?_; rintro e w1 ⟨rfl, hb1⟩) | (go_at_call 127; refine (l1In_any _ _ _ _).mono ?_; rintro e w' ⟨rfl, rfl⟩) | (go_at_call 142; refine (l23Range_any _ _ _).mono ?_; rintro e w' ⟨rfl, rfl⟩))
  (try simp only [Exit.inBlock, Exit.then]); refine bodyPost_ret (results_tmp4 rfl _ _ _) rfl ?_
  exact ⟨rfl, hb1⟩
set_option maxHeartbeats 4000000 in
theorem fitGapLaw (w : World) (n : Int) (hszn : -9223372036854775808 ≤ n ∧ n ≤ 9223372036854775807) (l : List Blw) (Al : Option Addr) (cl : Nat) (hrl : RdL w w.heap.size Al 3 Blw.enc l) (hll : l.length ≤ 9223372036854775807) (hsl : ∀ x ∈ l, Blow_small 9223372036854775807 x) (low : Int) (hszlow : -9223372036854775808 ≤ low ∧ low ≤ 9223372036854775807) (high : Int) (hszhigh : -9223372036854775808 ≤ high ∧ high ≤ 9223372036854775807) (hand : Int) (hszhand : -9223372036854775808 ≤ hand ∧ hand ≤ 9223372036854775807) :
    Calls Try.prog 10 #[.int .i64 n, .slice Al l.length cl, .int .i64 low, .int .i64 high, .int .i64 hand] w fun e w' => e = .returned (.bool true) ∧ Below w.heap.size w w' := by
  have Hrl := Lib.hid hrl
  have Hsl := Lib.hid hsl
  clear hrl hsl
  have Bw0 := Lib.hid (Below.refl w.heap.size w)
  go_enter Try.func10, Try.ntmps10
  go_wp2_with fail
  refine (szBlowS_any l Al cl (1048576 : Int) _ (by omega) (by omega) (by omega)).mono ?_
  rintro e w1 ⟨r1, rfl, hz, hb⟩
  have C1 := Lib.hid hb
  clear hb
  have t1 := C1.out.size
  have Bw1 := Lib.hid (Bw0.out.trans (C1.out.mono Bw0.out.size))
  have Z1 := Lib.hid hz
  clear hz
  by_cases n1 : r1 < 0
  · go_wp2_with fail
    go_ret
    exact ⟨rfl, Bw1.out⟩
  have z1 := Z1.out.resolve_left n1
  have y1 : 0 ≤ r1 ∧ r1 ≤ 1048576 ∧ l.length ≤ 1048576 := ⟨z1.1, by have := z1.2.1; omega, by have := z1.2.2.1; omega⟩
  obtain ⟨y1a, y1b, hll'⟩ := y1
  clear z1
  by_cases h : fitGP n l low high hand
  · have H := Lib.hid h
    clear h
    go_wp2_with fail
    refine (toBlowS_any l Al cl _ ((Hrl.out.below Bw1.out (Nat.le_refl _)).more Bw1.out.size) (by omega)).mono ?_
    rintro e w2 ⟨A2, rfl, ho, hb⟩
    have C2 := Lib.hid hb
    clear hb
    have t2 := C2.out.size
    have Bw2 := Lib.hid (Bw1.out.trans (C2.out.mono Bw1.out.size))
    have O_t1_2 := Lib.hid ho
    clear ho
    go_wp2_with fail
    refine (sFitGap_t n low high hand l A2 l.length _ (O_t1_2.out.rd Blw_enc_len) (by omega) (Nat.le_refl _) H.out).mono ?_
    rintro e w3 ⟨rfl, hb⟩
    have C3 := Lib.hid hb
    clear hb
    have t3 := C3.out.size
    have Bw3 := Lib.hid (Bw2.out.trans (C3.out.mono Bw2.out.size))
    go_wp2_with fail
    refine (toBlowS_any l Al cl _ ((Hrl.out.below Bw3.out (Nat.le_refl _)).more Bw3.out.size) (by omega)).mono ?_
    rintro e w4 ⟨A4, rfl, ho, hb⟩
    have C4 := Lib.hid hb
    clear hb
    have t4 := C4.out.size
    have Bw4 := Lib.hid (Bw3.out.trans (C4.out.mono Bw3.out.size))
    have O_x1_4 := Lib.hid ho
    clear ho
    go_wp2_with fail
    refine (iFitGap_t n low high hand l A4 l.length _ (O_x1_4.out.rd Blw_enc_len) (by omega) (Nat.le_refl _) H.out).mono ?_
    rintro e w5 ⟨rfl, hb⟩
    have C5 := Lib.hid hb
    clear hb
    have t5 := C5.out.size
    have Bw5 := Lib.hid (Bw4.out.trans (C5.out.mono Bw4.out.size))
    have O_x1_5 := Lib.hid (O_x1_4.out.later C5.out)
    clear O_x1_4
    go_wp2_with fail
    refine (toBlowS_any l Al cl _ ((Hrl.out.below Bw5.out (Nat.le_refl _)).more Bw5.out.size) (by omega)).mono ?_
    rintro e w6 ⟨A6, rfl, ho, hb⟩
    have C6 := Lib.hid hb
    clear hb
    have t6 := C6.out.size
    have Bw6 := Lib.hid (Bw5.out.trans (C6.out.mono Bw5.out.size))
    have O_t5_6 := Lib.hid ho
    clear ho
    have O_x1_6 := Lib.hid (O_x1_5.out.later C6.out)
    clear O_x1_5
    go_wp2_with fail
    refine (eqBlowS_t l A4 A6 l.length l.length _ (O_x1_6.out.rd Blw_enc_len) (O_t5_6.out.rd Blw_enc_len) (by omega)).mono ?_
    rintro e w7 ⟨rfl, hb⟩
    have C7 := Lib.hid hb
    clear hb
    have t7 := C7.out.size
    have Bw7 := Lib.hid (Bw6.out.trans (C7.out.mono Bw6.out.size))
    go_wp2_with fail
    go_ret
    exact ⟨rfl, Bw7.out⟩
  · have H := Lib.hid h
    clear h
    go_wp2_with fail
    refine (toBlowS_any l Al cl _ ((Hrl.out.below Bw1.out (Nat.le_refl _)).more Bw1.out.size) (by omega)).mono ?_
    rintro e w2 ⟨A2, rfl, ho, hb⟩
    have C2 := Lib.hid hb
    clear hb
    have t2 := C2.out.size
    have Bw2 := Lib.hid (Bw1.out.trans (C2.out.mono Bw1.out.size))
    have O_t1_2 := Lib.hid ho
    clear ho
    go_wp2_with fail
    refine (sFitGap_f n low high hand l A2 l.length _ (O_t1_2.out.rd Blw_enc_len) (by omega) (Nat.le_refl _) H.out).mono ?_
    rintro e w3 ⟨rfl, hb⟩
    have C3 := Lib.hid hb
    clear hb
    have t3 := C3.out.size
    have Bw3 := Lib.hid (Bw2.out.trans (C3.out.mono Bw2.out.size))
    go_wp2_with fail
    refine (toBlowS_any l Al cl _ ((Hrl.out.below Bw3.out (Nat.le_refl _)).more Bw3.out.size) (by omega)).mono ?_
    rintro e w4 ⟨A4, rfl, ho, hb⟩
    have C4 := Lib.hid hb
    clear hb
    have t4 := C4.out.size
    have Bw4 := Lib.hid (Bw3.out.trans (C4.out.mono Bw3.out.size))
    have O_x1_4 := Lib.hid ho
    clear ho
    go_wp2_with fail
    refine (iFitGap_f n low high hand l A4 l.length _ (O_x1_4.out.rd Blw_enc_len) (by omega) (Nat.le_refl _) H.out).mono ?_
    rintro e w5 ⟨rfl, hb⟩
    have C5 := Lib.hid hb
    clear hb
    have t5 := C5.out.size
    have Bw5 := Lib.hid (Bw4.out.trans (C5.out.mono Bw4.out.size))
    have O_x1_5 := Lib.hid (O_x1_4.out.later C5.out)
    clear O_x1_4
    go_wp2_with fail
    refine (toBlowS_any l Al cl _ ((Hrl.out.below Bw5.out (Nat.le_refl _)).more Bw5.out.size) (by omega)).mono ?_
    rintro e w6 ⟨A6, rfl, ho, hb⟩
    have C6 := Lib.hid hb
    clear hb
    have t6 := C6.out.size
    have Bw6 := Lib.hid (Bw5.out.trans (C6.out.mono Bw5.out.size))
    have O_t5_6 := Lib.hid ho
    clear ho
    have O_x1_6 := Lib.hid (O_x1_5.out.later C6.out)
    clear O_x1_5
    go_wp2_with fail
    refine (eqBlowS_t l A4 A6 l.length l.length _ (O_x1_6.out.rd Blw_enc_len) (O_t5_6.out.rd Blw_enc_len) (by omega)).mono ?_
    rintro e w7 ⟨rfl, hb⟩
    have C7 := Lib.hid hb
    clear hb
    have t7 := C7.out.size
    have Bw7 := Lib.hid (Bw6.out.trans (C7.out.mono Bw6.out.size))
    go_wp2_with fail
    go_ret
    exact ⟨rfl, Bw7.out⟩

namespace fnExactFitGap
open Go.ChangeShapes Go.WideShapes Go.ChangeAt Go.RowKit Go.Deep
open Go.ChangeMaps (open_string shut_string)
theorem own : ownKnob Try.prog.godebug = none := by kernel_rfl
theorem laid : laidOutB Try.prog = true := by kernel_rfl
theorem reads : Try.f10.params.toList.all (fun t => Try.prog.readableRec t && decide (t < Try.prog.types.size)) = true := by kernel_rfl
set_option maxRecDepth 100000 in
theorem lifted (os : Os) (started : os.Started) (H : Type) (enc : TypeId × Value → H) :
    ReturnsInHanded {} Try.checked os 10 .any (Rows.fnExactFitGapSpec.pre6 enc Try.prog Try.f10 Rows.fnExactFitGapRow.domain false) (Rows.fnExactFitGapSpec.post enc Try.prog Try.f10 false true false false) := by
  refine returnsInHanded_of_change (C := Try.checked) own started (by kernel_rfl) Try.func10
    (ChangeSpec.witness6 (enc := enc) (C := Try.checked) false ⟨#[], #[.int .i64 0, .slice none 0 0, .int .i64 0, .int .i64 0, .int .i64 0], []⟩ 8 (by kernel_rfl) (by kernel_rfl) (by kernel_rfl) (by kernel_rfl)) ?_
  intro W base args ds gs before hval0 hW hcnd _
  have hval : ∀ (j : Nat) t v, Try.f10.params[j]? = some t → args[j]? = some v → Value.okWide Try.prog W .any base t v := hval0
  have hW' := hW
  obtain ⟨p, q, hA0, hV, rfl, hfz, hnd⟩ := hW
  have hA : DataW.TrodAll enc Try.prog W 0 (fun _ => true) true Try.f10.params.toList args.toList ds p := hA0
  rw [Try.params10] at hA hval
  obtain ⟨rfl, rfl⟩ := trodVars_none hV
  have hlt : ∀ x ∈ p, x.block < W.heap.size := fun x hx => by simpa using hW'.lt x (List.mem_append.2 (.inl hx))
  clear hA0 hval0
  obtain ⟨v0, vs0, d0, ds0, p0, q0, hargs, rfl, rfl, h0, r0⟩ := trodAll_cons hA
  obtain ⟨v1, vs1, d1, ds1, p1, q1, rfl, rfl, rfl, h1, r1⟩ := trodAll_cons r0
  obtain ⟨v2, vs2, d2, ds2, p2, q2, rfl, rfl, rfl, h2, r2⟩ := trodAll_cons r1
  obtain ⟨v3, vs3, d3, ds3, p3, q3, rfl, rfl, rfl, h3, r3⟩ := trodAll_cons r2
  obtain ⟨v4, vs4, d4, ds4, p4, q4, rfl, rfl, rfl, h4, r4⟩ := trodAll_cons r3
  obtain ⟨rfl, rfl, rfl⟩ := trodAll_nil r4
  obtain rfl : args = #[v0, v1, v2, v3, v4] := by cases args; simp_all
  clear hargs
  obtain ⟨a0, rfl, rfl, rfl, z0⟩ := open_int Try.underlying3 (hval 0 3 v0 rfl rfl) h0
  obtain ⟨A1, a1, c1, rfl, y1, x1, z1⟩ := open_list Try.underlying77 3 (by kernel_rfl) (by omega) Blw.enc _ Blow_el (hval 1 77 v1 rfl rfl) h1
  obtain ⟨a2, rfl, rfl, rfl, z2⟩ := open_int Try.underlying3 (hval 2 3 v2 rfl rfl) h2
  obtain ⟨a3, rfl, rfl, rfl, z3⟩ := open_int Try.underlying3 (hval 3 3 v3 rfl rfl) h3
  obtain ⟨a4, rfl, rfl, rfl, z4⟩ := open_int Try.underlying3 (hval 4 3 v4 rfl rfl) h4
  refine (fitGapLaw W a0 (by simpa [Lit.wf, IntKind.min, IntKind.max, IntKind.signed, IntKind.bits] using z0) a1 A1 c1 x1 (by unfold maxLen at y1; omega) z1 a2 (by simpa [Lit.wf, IntKind.min, IntKind.max, IntKind.signed, IntKind.bits] using z2) a3 (by simpa [Lit.wf, IntKind.min, IntKind.max, IntKind.signed, IntKind.bits] using z3) a4 (by simpa [Lit.wf, IntKind.min, IntKind.max, IntKind.signed, IntKind.bits] using z4)).mono fun e W' ⟨he, hg⟩ => ?_
  subst he
  exact ⟨_, rfl, law_post laid reads rfl Try.underlying4 rfl rfl hW' hg⟩
theorem over : Rows.fnExactFitGapRow.holds Try.pinned (OpenSpec.ofChange Rows.fnExactFitGapSpec) :=
  OpenClaim.holds_of_wide 10 Try.f10 rfl rfl rfl rfl rfl rfl rfl ⟨rfl, rfl, rfl, rfl, rfl⟩ rfl rfl rfl rfl rfl (by kernel_rfl) Try.func10 facts
    (of_decide_eq_true (by kernel_rfl)) (by unfold Func.isWrapper; first | (rw [if_pos (by decide +kernel)]; kernel_rfl) | (rw [if_neg (by decide +kernel)]; exact ⟨rfl, rfl⟩))
    (fun os started H enc _ => lifted os started H enc)
theorem proved : Rows.FnExactFitGapSaid := over
end fnExactFitGap
end Go.Proofs.Ytebmlcollanfhaa
