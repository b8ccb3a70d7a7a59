import Derived.Test.YtkegbbndmfnolaaMBeatsL10
import Derived.OwnWalk
/-
  The start, the best gap: contracts of both sides.
-/
namespace Go.Proofs.Ytkegbbndmfnolaa
open Go.RowKit
set_option linter.unusedVariables false
set_option linter.unusedSimpArgs false
set_option maxRecDepth 100000




theorem goodFit_any (n gap hand : Int) (l : List Blw) (A : Option Addr) (c : Nat) (w : World) (h : RdL w w.heap.size A 3 Blw.enc l) (hl : l.length ≤ 1048576) (hc : l.length ≤ c) :
    Calls Try.prog 53 #[.int .i64 n, .slice A l.length c, .int .i64 gap, .int .i64 hand] w fun e w' => e = .returned (.bool (B (fitP n l gap hand))) ∧ Below w.heap.size w w' := by
  have HV := Lib.hid h
  clear h
  by_cases h_0 : blowsP n l
  rotate_left
  · have H := Lib.hid h_0
    have e_0 := B_f h_0
    clear h_0
    go_enter Try.func53, Try.ntmps53
    go_wp2_with (first | (go_at_call 23; refine (iBlows_any n l A c _ HV.out hl).mono ?_; rintro e w1 ⟨rfl, hb1⟩) | (go_at_call 59; refine (within_any _ _ _ _).mono ?_; rintro e w' ⟨rfl, rfl⟩))
    go_ret
    exact ⟨ret_f (fun x => H.out x.1), hb1⟩
  have H_0 := Lib.hid h_0
  have e_0 := B_t h_0
  clear h_0
  by_cases h_1 : 0 < l.length
  rotate_left
  · have H := Lib.hid h_1
    have d_1 : decide ((0 : Int) < (l.length : Int)) = false := decide_eq_false (by omega)
    clear h_1
    go_enter Try.func53, Try.ntmps53
    go_wp2_with (first | (go_at_call 23; refine (iBlows_any n l A c _ HV.out hl).mono ?_; rintro e w1 ⟨rfl, hb1⟩) | (go_at_call 59; refine (within_any _ _ _ _).mono ?_; rintro e w' ⟨rfl, rfl⟩))
    go_ret
    exact ⟨ret_f (fun x => H.out x.2.1), hb1⟩
  have H_1 := Lib.hid h_1
  have d_1 : decide ((0 : Int) < (l.length : Int)) = true := decide_eq_true (by have := H_1.out; omega)
  clear h_1
  by_cases h_2 : inB gap 1 2000
  rotate_left
  · have H := Lib.hid h_2
    have e_2 := B_f h_2
    clear h_2
    go_enter Try.func53, Try.ntmps53
    go_wp2_with (first | (go_at_call 23; refine (iBlows_any n l A c _ HV.out hl).mono ?_; rintro e w1 ⟨rfl, hb1⟩) | (go_at_call 59; refine (within_any _ _ _ _).mono ?_; rintro e w' ⟨rfl, rfl⟩))
    go_ret
    exact ⟨ret_f (fun x => H.out x.2.2.1), hb1⟩
  have H_2 := Lib.hid h_2
  have e_2 := B_t h_2
  clear h_2
  by_cases h_3 : inB hand 0 2000
  rotate_left
  · have H := Lib.hid h_3
    have e_3 := B_f h_3
    clear h_3
    go_enter Try.func53, Try.ntmps53
    go_wp2_with (first | (go_at_call 23; refine (iBlows_any n l A c _ HV.out hl).mono ?_; rintro e w1 ⟨rfl, hb1⟩) | (go_at_call 59; refine (within_any _ _ _ _).mono ?_; rintro e w' ⟨rfl, rfl⟩))
    go_ret
    exact ⟨ret_f (fun x => H.out x.2.2.2), hb1⟩
  have H_3 := Lib.hid h_3
  have e_3 := B_t h_3
  clear h_3
  go_enter Try.func53, Try.ntmps53
  go_wp2_with (first | (go_at_call 23; refine (iBlows_any n l A c _ HV.out hl).mono ?_; rintro e w1 ⟨rfl, hb1⟩) | (go_at_call 59; refine (within_any _ _ _ _).mono ?_; rintro e w' ⟨rfl, rfl⟩))
  go_ret
  exact ⟨ret_t ⟨H_0.out, H_1.out, H_2.out, H_3.out⟩, hb1⟩


theorem iStart_t (n gap hand : Int) (l : List Blw) (A : Option Addr) (c : Nat) (w : World) (h : RdL w w.heap.size A 3 Blw.enc l) (hl : l.length ≤ 1048576) (hc : l.length ≤ c) (hp : fitP n l gap hand) :
    Calls Try.prog 25 #[.int .i64 n, .slice A l.length c, .int .i64 gap, .int .i64 hand] w fun e w' => e = .returned (.tuple #[.int .i64 (startV n gap hand l), .int .i64 (farV n gap hand l), .bool true]) ∧ Below w.heap.size w w' := by
  have HV := Lib.hid h
  have HP := Lib.hid hp
  have e1 := B_t hp
  obtain ⟨sv, hsv⟩ : ∃ v, Hid (startV n gap hand l = v) := ⟨_, Lib.hid rfl⟩
  obtain ⟨fv, hfv⟩ : ∃ v, Hid (farV n gap hand l = v) := ⟨_, Lib.hid rfl⟩
  rw [hsv.out, hfv.out]
  have hs : Hid (∀ W, Below w.heap.size w W → Calls Try.prog 60 #[.int .i64 n, .slice A l.length c, .int .i64 gap, .int .i64 hand] W fun e w' => e = .returned (.tuple #[.int .i64 sv, .int .i64 fv]) ∧ Below W.heap.size W w') := Lib.hid (fun W hb => by
    have := startFor_any n gap hand l A c W ((h.below hb (Nat.le_refl _)).more hb.size) hp
    rw [hsv.out, hfv.out] at this; exact this)
  clear h hp
  go_enter Try.func25, Try.ntmps25
  go_wp2_with (first | (go_at_call 53; refine (goodFit_any n gap hand l A c _ HV.out hl hc).mono ?_; rintro e w1 ⟨rfl, hb1⟩) | (go_at_call 60; refine (hs.out _ hb1).mono ?_; rintro e w2 ⟨rfl, hb2⟩))
  go_ret3
  exact ⟨rfl, hb1.trans (hb2.mono hb1.size)⟩
theorem iStart_f (n gap hand : Int) (l : List Blw) (A : Option Addr) (c : Nat) (w : World) (h : RdL w w.heap.size A 3 Blw.enc l) (hl : l.length ≤ 1048576) (hc : l.length ≤ c) (hp : ¬ fitP n l gap hand) :
    Calls Try.prog 25 #[.int .i64 n, .slice A l.length c, .int .i64 gap, .int .i64 hand] w fun e w' => e = .returned (.tuple #[.int .i64 0, .int .i64 0, .bool false]) ∧ Below w.heap.size w w' := by
  have HV := Lib.hid h
  have e1 := B_f hp
  clear h hp
  go_enter Try.func25, Try.ntmps25
  go_wp2_with (go_at_call 53; refine (goodFit_any n gap hand l A c _ HV.out hl hc).mono ?_; rintro e w1 ⟨rfl, hb1⟩)
  go_ret3
  exact ⟨rfl, hb1⟩

theorem sStart_t (n gap hand : Int) (l : List Blw) (A : Option Addr) (c : Nat) (w : World) (h : RdL w w.heap.size A 3 Blw.enc l) (hl : l.length ≤ 1048576) (hc : l.length ≤ c) (hp : fitP n l gap hand) :
    Calls Try.prog 31 #[.int .i64 n, .slice A l.length c, .int .i64 gap, .int .i64 hand] w fun e w' => e = .returned (.tuple #[.int .i64 (startV n gap hand l), .int .i64 (farV n gap hand l), .bool true]) ∧ Below w.heap.size w w' := by
  have HV := Lib.hid h
  have HP := Lib.hid hp
  have e1 := B_t hp.1
  have e2 := B_t hp.2.2.1
  have e3 := B_t hp.2.2.2
  have d1 : ((l.length : Int) == 0) = false := beq_eq_false_iff_ne.2 (by have := hp.2.1; omega)
  obtain ⟨sv, hsv⟩ : ∃ v, Hid (startV n gap hand l = v) := ⟨_, Lib.hid rfl⟩
  obtain ⟨fv, hfv⟩ : ∃ v, Hid (farV n gap hand l = v) := ⟨_, Lib.hid rfl⟩
  rw [hsv.out, hfv.out]
  have hs : Hid (∀ W, Below w.heap.size w W → Calls Try.prog 63 #[.int .i64 n, .slice A l.length c, .int .i64 gap, .int .i64 hand] W fun e w' => e = .returned (.tuple #[.int .i64 sv, .int .i64 fv]) ∧ Below W.heap.size W w') := Lib.hid (fun W hb => by
    have := l23Start_any n gap hand l A c W ((h.below hb (Nat.le_refl _)).more hb.size) hp
    rw [hsv.out, hfv.out] at this; exact this)
  clear h hp
  go_enter Try.func31, Try.ntmps31
  go_wp2_with (first | (go_at_call 39; refine (l23Good_any n l A c _ HV.out hl hc).mono ?_; rintro e w1 ⟨rfl, hb1⟩) | (go_at_call 56; refine (l1In_any _ _ _ _).mono ?_; rintro e w' ⟨rfl, rfl⟩) | (go_at_call 63; refine (hs.out _ hb1).mono ?_; rintro e w2 ⟨rfl, hb2⟩))
  go_ret3
  exact ⟨rfl, hb1.trans (hb2.mono hb1.size)⟩
theorem sStart_f (n gap hand : Int) (l : List Blw) (A : Option Addr) (c : Nat) (w : World) (h : RdL w w.heap.size A 3 Blw.enc l) (hl : l.length ≤ 1048576) (hc : l.length ≤ c) (hp : ¬ fitP n l gap hand) :
    Calls Try.prog 31 #[.int .i64 n, .slice A l.length c, .int .i64 gap, .int .i64 hand] w fun e w' => e = .returned (.tuple #[.int .i64 0, .int .i64 0, .bool false]) ∧ Below w.heap.size w w' := by
  have HV := Lib.hid h
  clear h
  by_cases h1 : blowsP n l
  rotate_left
  · have e1 := B_f h1
    clear hp h1
    go_enter Try.func31, Try.ntmps31
    go_wp2_with (first | (go_at_call 39; refine (l23Good_any n l A c _ HV.out hl hc).mono ?_; rintro e w1 ⟨rfl, hb1⟩) | (go_at_call 56; refine (l1In_any _ _ _ _).mono ?_; rintro e w' ⟨rfl, rfl⟩) | fail)
    go_ret3
    exact ⟨rfl, hb1⟩
  have e1 := B_t h1
  by_cases h2 : 0 < l.length
  rotate_left
  · have d1 : ((l.length : Int) == 0) = true := beq_iff_eq.2 (by omega)
    clear hp h1 h2
    go_enter Try.func31, Try.ntmps31
    go_wp2_with (first | (go_at_call 39; refine (l23Good_any n l A c _ HV.out hl hc).mono ?_; rintro e w1 ⟨rfl, hb1⟩) | (go_at_call 56; refine (l1In_any _ _ _ _).mono ?_; rintro e w' ⟨rfl, rfl⟩) | fail)
    go_ret3
    exact ⟨rfl, hb1⟩
  have d1 : ((l.length : Int) == 0) = false := beq_eq_false_iff_ne.2 (by omega)
  by_cases h3 : inB gap 1 2000
  rotate_left
  · have e2 := B_f h3
    clear hp h1 h3
    go_enter Try.func31, Try.ntmps31
    go_wp2_with (first | (go_at_call 39; refine (l23Good_any n l A c _ HV.out hl hc).mono ?_; rintro e w1 ⟨rfl, hb1⟩) | (go_at_call 56; refine (l1In_any _ _ _ _).mono ?_; rintro e w' ⟨rfl, rfl⟩) | fail)
    go_ret3
    exact ⟨rfl, hb1⟩
  have e2 := B_t h3
  have e3 := B_f (fun h4 => hp ⟨h1, h2, h3, h4⟩)
  clear hp h1 h3
  go_enter Try.func31, Try.ntmps31
  go_wp2_with (first | (go_at_call 39; refine (l23Good_any n l A c _ HV.out hl hc).mono ?_; rintro e w1 ⟨rfl, hb1⟩) | (go_at_call 56; refine (l1In_any _ _ _ _).mono ?_; rintro e w' ⟨rfl, rfl⟩) | fail)
  go_ret3
  exact ⟨rfl, hb1⟩
/-- A range of gaps. -/
def rangeP (low high : Int) : Prop := 1 ≤ low ∧ low ≤ high ∧ high ≤ 2000 ∧ high - low ≤ 200
theorem goodRange_any (low high : Int) (w : World) : Calls Try.prog 52 #[.int .i64 low, .int .i64 high] w fun e w' => e = .returned (.bool (B (rangeP low high))) ∧ w = w' := by
  by_cases h1 : 1 ≤ low
  rotate_left
  · go_enter Try.func52, Try.ntmps52
    go_wp2
    go_ret
    exact ⟨ret_f (fun x => by obtain ⟨x1, x2, x3, x4⟩ := x; omega), rfl⟩
  by_cases h2 : low ≤ high
  rotate_left
  · go_enter Try.func52, Try.ntmps52
    go_wp2
    go_ret
    exact ⟨ret_f (fun x => by obtain ⟨x1, x2, x3, x4⟩ := x; omega), rfl⟩
  by_cases h3 : high ≤ 2000
  rotate_left
  · go_enter Try.func52, Try.ntmps52
    go_wp2
    go_ret
    exact ⟨ret_f (fun x => by obtain ⟨x1, x2, x3, x4⟩ := x; omega), rfl⟩
  by_cases h4 : high - low ≤ 200
  rotate_left
  · go_enter Try.func52, Try.ntmps52
    go_wp2
    go_ret
    exact ⟨ret_f (fun x => by obtain ⟨x1, x2, x3, x4⟩ := x; omega), rfl⟩
  go_enter Try.func52, Try.ntmps52
  go_wp2
  go_ret
  exact ⟨ret_t ⟨h1, h2, h3, h4⟩, rfl⟩
theorem l23Range_any (low high : Int) (w : World) : Calls Try.prog 55 #[.int .i64 low, .int .i64 high] w fun e w' => e = .returned (.bool (B (rangeP low high))) ∧ w = w' := by
  by_cases h1 : inB low 1 high
  rotate_left
  · have e1 := B_f h1
    go_enter Try.func55, Try.ntmps55
    go_wp2_with (go_at_call 56; refine (l1In_any _ _ _ _).mono ?_; rintro e w' ⟨rfl, rfl⟩)
    go_ret
    exact ⟨ret_f (fun x => h1 ⟨x.1, x.2.1⟩), rfl⟩
  have e1 := B_t h1
  obtain ⟨h11, h12⟩ := h1
  by_cases h3 : high ≤ 2000
  rotate_left
  · go_enter Try.func55, Try.ntmps55
    go_wp2_with (go_at_call 56; refine (l1In_any _ _ _ _).mono ?_; rintro e w' ⟨rfl, rfl⟩)
    go_ret
    exact ⟨ret_f (fun x => by obtain ⟨x1, x2, x3, x4⟩ := x; omega), rfl⟩
  by_cases h4 : high - low ≤ 200
  rotate_left
  · have d4 : decide (high - low ≤ 200) = false := decide_eq_false h4
    go_enter Try.func55, Try.ntmps55
    go_wp2_with (go_at_call 56; refine (l1In_any _ _ _ _).mono ?_; rintro e w' ⟨rfl, rfl⟩)
    go_ret
    exact ⟨ret_f (fun x => by obtain ⟨x1, x2, x3, x4⟩ := x; omega), rfl⟩
  go_enter Try.func55, Try.ntmps55
  go_wp2_with (go_at_call 56; refine (l1In_any _ _ _ _).mono ?_; rintro e w' ⟨rfl, rfl⟩)
  go_ret
  exact ⟨ret_t ⟨h11, h12, h3, h4⟩, rfl⟩
/-- What is best among the first k gaps: the start, the gap, the sum (-1: none). -/
noncomputable def gapF (n hand : Int) (l : List Blw) (low : Int) : Nat → Int × Int × Int
  | 0 => (0, 0, -1)
  | k + 1 => if (gapF n hand l low k).2.2 < 0 ∨ farV n (low + k) hand l < (gapF n hand l low k).2.2 then (startV n (low + k) hand l, low + k, farV n (low + k) hand l) else gapF n hand l low k
/-- Valid arguments of the search for a gap. -/
def fitGP (n : Int) (l : List Blw) (low high hand : Int) : Prop := blowsP n l ∧ 0 < l.length ∧ rangeP low high ∧ inB hand 0 2000
theorem fitGP_at {n low high hand : Int} {l : List Blw} (h : fitGP n l low high hand) {g : Int} (h1 : low ≤ g) (h2 : g ≤ high) : fitP n l g hand := by
  obtain ⟨a, b, ⟨c1, c2, c3, c4⟩, d⟩ := h
  exact ⟨a, b, ⟨by omega, by omega⟩, d⟩
theorem gapF_bd {n low high hand : Int} {l : List Blw} (h : fitGP n l low high hand) : ∀ k : Nat, low + k ≤ high + 1 → -20000000 ≤ (gapF n hand l low k).1 ∧ (gapF n hand l low k).1 ≤ 1000000 ∧ 0 ≤ (gapF n hand l low k).2.1 ∧ (gapF n hand l low k).2.1 ≤ 2000 ∧ -1 ≤ (gapF n hand l low k).2.2 ∧ (gapF n hand l low k).2.2 ≤ 12000000000 ∧ (0 < k → 0 ≤ (gapF n hand l low k).2.2)
  | 0, _ => by simp [gapF]
  | k + 1, hk => by
    have ih := gapF_bd h k (by omega)
    have hf := fitGP_at h (g := low + k) (by omega) (by omega)
    have a := start_bd hf
    have b := far_bd hf
    obtain ⟨_, _, ⟨c1, c2, c3, c4⟩, _⟩ := h
    simp only [gapF]
    split
    · simp only; omega
    · omega



set_option maxHeartbeats 1600000 in
theorem fitGap_any (n low high hand : Int) (l : List Blw) (A : Option Addr) (c : Nat) (w : World) (h : RdL w w.heap.size A 3 Blw.enc l) (hp : fitGP n l low high hand) :
    Calls Try.prog 54 #[.int .i64 n, .slice A l.length c, .int .i64 low, .int .i64 high, .int .i64 hand] w fun e w' => e = .returned (.tuple #[.int .i64 (gapF n hand l low (high - low + 1).toNat).1, .int .i64 (gapF n hand l low (high - low + 1).toNat).2.1, .int .i64 (gapF n hand l low (high - low + 1).toNat).2.2]) ∧ Below w.heap.size w w' := by
  have H := Lib.hid h
  have HP := Lib.hid hp
  obtain ⟨⟨r1, r2, r3, r4⟩, _⟩ := hp.2.2
  have hcall : Hid (∀ (g : Int) (W : World), low ≤ g → g ≤ high → Below w.heap.size w W → Calls Try.prog 60 #[.int .i64 n, .slice A l.length c, .int .i64 g, .int .i64 hand] W fun e w' => e = .returned (.tuple #[.int .i64 (startV n g hand l), .int .i64 (farV n g hand l)]) ∧ Below W.heap.size W w') := Lib.hid (fun g W h1 h2 hb =>
    startFor_any n g hand l A c W ((h.below hb (Nat.le_refl _)).more hb.size) (fitGP_at hp h1 h2))
  have hfb : Hid (∀ g, low ≤ g → g ≤ high → 0 ≤ farV n g hand l ∧ farV n g hand l ≤ 12000000000) := Lib.hid (fun g h1 h2 => by have := far_bd (fitGP_at hp h1 h2); omega)
  have hgb := Lib.hid (gapF_bd hp)
  have hgs : Hid (∀ k : Nat, gapF n hand l low (k + 1) = if (gapF n hand l low k).2.2 < 0 ∨ farV n (low + k) hand l < (gapF n hand l low k).2.2 then (startV n (low + k) hand l, low + k, farV n (low + k) hand l) else gapF n hand l low k) := Lib.hid (fun k => rfl)
  have hg0 : Hid (gapF n hand l low 0 = (0, 0, -1)) := Lib.hid rfl
  generalize gapF n hand l low = G at hgb hgs hg0 ⊢
  clear h hp
  go_enter Try.func54, Try.ntmps54
  go_wp2
  go_loopw [13, 14, 15, 16] (fun v1 v2 v3 i wr => ∃ k : Nat, low + k ≤ high + 1 ∧ i = .int .i64 (low + k) ∧ v1 = .int .i64 (G k).1 ∧ v2 = .int .i64 (G k).2.1 ∧ v3 = .int .i64 (G k).2.2 ∧ Below w.heap.size w wr) (fun _ _ _ i _ => (high + 1 - intOf i).toNat)
  case atStart => exact ⟨0, by omega, by simp, by rw [hg0.out], by rw [hg0.out], by rw [hg0.out], Below.refl _ _⟩
  case round =>
    obtain ⟨k, hk, rfl, rfl, rfl, rfl, hbl⟩ := hrel
    have Hb := Lib.hid hbl
    have hgz := hbl.size
    clear hbl
    have hgk := hgb.out k hk
    have hst := hgs.out k
    obtain ⟨s0, hs0⟩ : ∃ s, Hid ((G k).1 = s) := ⟨_, Lib.hid rfl⟩
    obtain ⟨g0, hg00⟩ : ∃ s, Hid ((G k).2.1 = s) := ⟨_, Lib.hid rfl⟩
    obtain ⟨b0, hb0⟩ : ∃ s, Hid ((G k).2.2 = s) := ⟨_, Lib.hid rfl⟩
    rw [hs0.out, hg00.out, hb0.out] at hgk
    rw [hs0.out, hg00.out, hb0.out]
    rw [hb0.out] at hst
    obtain ⟨a1, a2, a3, a4, a5, a6, _⟩ := hgk
    have Hst := Lib.hid hst
    clear hst
    by_cases hlt : low + k ≤ high
    · have hc1 := hcall.out (low + k) wr (by omega) hlt Hb.out
      obtain ⟨f1, f2⟩ := hfb.out (low + k) (by omega) hlt
      generalize startV n (low + k) hand l = sv at hc1 Hst
      generalize farV n (low + k) hand l = fv at hc1 Hst f1 f2
      have Hc1 := Lib.hid hc1
      clear hc1
      by_cases c1 : b0 < 0 ∨ fv < b0
      · have Hst2 : Hid (G (k + 1) = (sv, low + k, fv)) := Lib.hid (by rw [Hst.out, if_pos c1])
        clear Hst
        rcases c1 with c1 | c1
        all_goals
          try (have c2 : ¬ b0 < 0 := by omega)
          go_wp2_with (go_at_call 60; refine Hc1.out.mono ?_; rintro e w2 ⟨rfl, hb2⟩)
          go_roundw
          case rel => exact ⟨k + 1, by omega, by go_num, by rw [Hst2.out], by rw [Hst2.out], by rw [Hst2.out], Hb.out.trans (hb2.mono hgz)⟩
          case measure => simp [intOf]; omega
      · have Hst2 : Hid (G (k + 1) = G k) := Lib.hid (by rw [Hst.out, if_neg c1])
        clear Hst
        have c2 : ¬ b0 < 0 := fun h => c1 (.inl h)
        have c3 : ¬ fv < b0 := fun h => c1 (.inr h)
        go_wp2_with (go_at_call 60; refine Hc1.out.mono ?_; rintro e w2 ⟨rfl, hb2⟩)
        go_roundw
        case rel => exact ⟨k + 1, by omega, by go_num, by rw [Hst2.out, hs0.out], by rw [Hst2.out, hg00.out], by rw [Hst2.out, hb0.out], Hb.out.trans (hb2.mono hgz)⟩
        case measure => simp [intOf]; omega
    · have hkk : k = (high - low + 1).toNat := by omega
      have Hkk := Lib.hid hkk
      clear hkk
      go_wp2
      go_ret3
      exact ⟨by rw [← Hkk.out, hs0.out, hg00.out, hb0.out]; rfl, Hb.out⟩
set_option maxHeartbeats 1600000 in
theorem l23Gap_any (n low high hand : Int) (l : List Blw) (A : Option Addr) (c : Nat) (w : World) (h : RdL w w.heap.size A 3 Blw.enc l) (hp : fitGP n l low high hand) :
    Calls Try.prog 57 #[.int .i64 n, .slice A l.length c, .int .i64 low, .int .i64 high, .int .i64 hand] w fun e w' => e = .returned (.tuple #[.int .i64 (gapF n hand l low (high - low + 1).toNat).1, .int .i64 (gapF n hand l low (high - low + 1).toNat).2.1, .int .i64 (gapF n hand l low (high - low + 1).toNat).2.2]) ∧ Below w.heap.size w w' := by
  have H := Lib.hid h
  have HP := Lib.hid hp
  obtain ⟨⟨r1, r2, r3, r4⟩, _⟩ := hp.2.2
  have hcall : Hid (∀ (g : Int) (W : World), low ≤ g → g ≤ high → Below w.heap.size w W → Calls Try.prog 63 #[.int .i64 n, .slice A l.length c, .int .i64 g, .int .i64 hand] W fun e w' => e = .returned (.tuple #[.int .i64 (startV n g hand l), .int .i64 (farV n g hand l)]) ∧ Below W.heap.size W w') := Lib.hid (fun g W h1 h2 hb =>
    l23Start_any n g hand l A c W ((h.below hb (Nat.le_refl _)).more hb.size) (fitGP_at hp h1 h2))
  have hfb : Hid (∀ g, low ≤ g → g ≤ high → 0 ≤ farV n g hand l ∧ farV n g hand l ≤ 12000000000) := Lib.hid (fun g h1 h2 => by have := far_bd (fitGP_at hp h1 h2); omega)
  have hgb := Lib.hid (gapF_bd hp)
  have hgs : Hid (∀ k : Nat, gapF n hand l low (k + 1) = if (gapF n hand l low k).2.2 < 0 ∨ farV n (low + k) hand l < (gapF n hand l low k).2.2 then (startV n (low + k) hand l, low + k, farV n (low + k) hand l) else gapF n hand l low k) := Lib.hid (fun k => rfl)
  have hg0 : Hid (gapF n hand l low 0 = (0, 0, -1)) := Lib.hid rfl
  generalize gapF n hand l low = G at hgb hgs hg0 ⊢
  clear h hp
  go_enter Try.func57, Try.ntmps57
  go_wp2
  go_loopw [13, 14, 15, 16] (fun v1 v2 v3 i wr => ∃ k : Nat, low + k ≤ high + 1 ∧ i = .int .i64 (low + k) ∧ v1 = .int .i64 (G k).1 ∧ v2 = .int .i64 (G k).2.1 ∧ v3 = .int .i64 (G k).2.2 ∧ Below w.heap.size w wr) (fun _ _ _ i _ => (high + 1 - intOf i).toNat)
  case atStart => exact ⟨0, by omega, by simp, by rw [hg0.out], by rw [hg0.out], by rw [hg0.out], Below.refl _ _⟩
  case round =>
    obtain ⟨k, hk, rfl, rfl, rfl, rfl, hbl⟩ := hrel
    have Hb := Lib.hid hbl
    have hgz := hbl.size
    clear hbl
    have hgk := hgb.out k hk
    have hst := hgs.out k
    obtain ⟨s0, hs0⟩ : ∃ s, Hid ((G k).1 = s) := ⟨_, Lib.hid rfl⟩
    obtain ⟨g0, hg00⟩ : ∃ s, Hid ((G k).2.1 = s) := ⟨_, Lib.hid rfl⟩
    obtain ⟨b0, hb0⟩ : ∃ s, Hid ((G k).2.2 = s) := ⟨_, Lib.hid rfl⟩
    rw [hs0.out, hg00.out, hb0.out] at hgk
    rw [hs0.out, hg00.out, hb0.out]
    rw [hb0.out] at hst
    obtain ⟨a1, a2, a3, a4, a5, a6, _⟩ := hgk
    have Hst := Lib.hid hst
    clear hst
    by_cases hlt : low + k ≤ high
    · have hc1 := hcall.out (low + k) wr (by omega) hlt Hb.out
      obtain ⟨f1, f2⟩ := hfb.out (low + k) (by omega) hlt
      generalize startV n (low + k) hand l = sv at hc1 Hst
      generalize farV n (low + k) hand l = fv at hc1 Hst f1 f2
      have Hc1 := Lib.hid hc1
      clear hc1
      by_cases c1 : b0 < 0 ∨ fv < b0
      · have Hst2 : Hid (G (k + 1) = (sv, low + k, fv)) := Lib.hid (by rw [Hst.out, if_pos c1])
        clear Hst
        rcases c1 with c1 | c1
        all_goals
          try (have c2 : ¬ b0 < 0 := by omega)
          go_wp2_with (go_at_call 63; refine Hc1.out.mono ?_; rintro e w2 ⟨rfl, hb2⟩)
          go_roundw
          case rel => exact ⟨k + 1, by omega, by go_num, by rw [Hst2.out], by rw [Hst2.out], by rw [Hst2.out], Hb.out.trans (hb2.mono hgz)⟩
          case measure => simp [intOf]; omega
      · have Hst2 : Hid (G (k + 1) = G k) := Lib.hid (by rw [Hst.out, if_neg c1])
        clear Hst
        have c2 : ¬ b0 < 0 := fun h => c1 (.inl h)
        have c3 : ¬ fv < b0 := fun h => c1 (.inr h)
        go_wp2_with (go_at_call 63; refine Hc1.out.mono ?_; rintro e w2 ⟨rfl, hb2⟩)
        go_roundw
        case rel => exact ⟨k + 1, by omega, by go_num, by rw [Hst2.out, hs0.out], by rw [Hst2.out, hg00.out], by rw [Hst2.out, hb0.out], Hb.out.trans (hb2.mono hgz)⟩
        case measure => simp [intOf]; omega
    · have hkk : k = (high - low + 1).toNat := by omega
      have Hkk := Lib.hid hkk
      clear hkk
      go_wp2
      go_ret3
      exact ⟨by rw [← Hkk.out, hs0.out, hg00.out, hb0.out]; rfl, Hb.out⟩
end Go.Proofs.Ytkegbbndmfnolaa
