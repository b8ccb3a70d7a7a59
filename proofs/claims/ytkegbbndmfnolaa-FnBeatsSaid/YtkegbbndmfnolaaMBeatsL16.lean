import Derived.Test.YtkegbbndmfnolaaMBeatsL11
import Derived.Test.YtkegbbndmfnolaaMBeatsL15
/-
  FitGap of the program returns what the reference's returns, for all arguments: no condition.
-/
namespace Go.Proofs.Ytkegbbndmfnolaa
open Go.RowKit
set_option linter.unusedVariables false
set_option linter.unusedSimpArgs false
set_option maxRecDepth 100000

theorem results_tmp4 {fn : Func} {t u v z : Tmp} (h : fn.results = #[.tmp t, .tmp u, .tmp v, .tmp z]) (tmps : Array Value) (P : Program) (w : World) :
    (results fn tmps).run P w = .ok (.tuple #[tmps.getD t undef, tmps.getD u undef, tmps.getD v undef, tmps.getD z undef]) w := by
  simp [results, h]





theorem fitGP_fit {n low high hand : Int} {l : List Blw} (h : fitGP n l low high hand) : fitP n l low hand := fitGP_at h (Int.le_refl _) h.2.2.1.2.1
theorem fit_fitGP {n low high hand : Int} {l : List Blw} (h : fitP n l low hand) (hr : rangeP low high) : fitGP n l low high hand := ⟨h.1, h.2.1, hr, h.2.2.2⟩

theorem iFitGap_t (n low high hand : Int) (l : List Blw) (A : Option Addr) (c : Nat) (w : World) (h : RdL w w.heap.size A 3 Blw.enc l) (hl : l.length ≤ 1048576) (hc : l.length ≤ c) (hp : fitGP n l low high hand) :
    Calls Try.prog 21 #[.int .i64 n, .slice A l.length c, .int .i64 low, .int .i64 high, .int .i64 hand] w fun e w' => e = .returned (.tuple #[.int .i64 (gapF n hand l low (high - low + 1).toNat).1, .int .i64 (gapF n hand l low (high - low + 1).toNat).2.1, .int .i64 (gapF n hand l low (high - low + 1).toNat).2.2, .bool true]) ∧ Below w.heap.size w w' := by
  have HV := Lib.hid h
  have e1 := B_t hp.2.2.1
  have e2 := B_t (fitGP_fit hp)
  obtain ⟨s0, hs0⟩ : ∃ s, Hid ((gapF n hand l low (high - low + 1).toNat).1 = s) := ⟨_, Lib.hid rfl⟩
  obtain ⟨g0, hg0⟩ : ∃ s, Hid ((gapF n hand l low (high - low + 1).toNat).2.1 = s) := ⟨_, Lib.hid rfl⟩
  obtain ⟨b0, hb0⟩ : ∃ s, Hid ((gapF n hand l low (high - low + 1).toNat).2.2 = s) := ⟨_, Lib.hid rfl⟩
  rw [hs0.out, hg0.out, hb0.out]
  have hs : Hid (∀ W, Below w.heap.size w W → Calls Try.prog 54 #[.int .i64 n, .slice A l.length c, .int .i64 low, .int .i64 high, .int .i64 hand] W fun e w' => e = .returned (.tuple #[.int .i64 s0, .int .i64 g0, .int .i64 b0]) ∧ Below W.heap.size W w') := Lib.hid (fun W hb => by
    have := fitGap_any n low high hand l A c W ((h.below hb (Nat.le_refl _)).more hb.size) hp
    rw [hs0.out, hg0.out, hb0.out] at this; exact this)
  clear h hp
  go_enter Try.func21, Try.ntmps21
  go_wp2_with (first | (go_at_call 52; refine (goodRange_any _ _ _).mono ?_; rintro e w' ⟨rfl, rfl⟩) | (go_at_call 53; refine (goodFit_any n low hand l A c _ HV.out hl hc).mono ?_; rintro e w1 ⟨rfl, hb1⟩) | (go_at_call 54; refine (hs.out _ hb1).mono ?_; rintro e w2 ⟨rfl, hb2⟩))
  (try simp only [Exit.inBlock, Exit.then]); refine bodyPost_ret (results_tmp4 rfl _ _ _) rfl ?_
  exact ⟨rfl, hb1.trans (hb2.mono hb1.size)⟩
theorem iFitGap_f (n low high hand : Int) (l : List Blw) (A : Option Addr) (c : Nat) (w : World) (h : RdL w w.heap.size A 3 Blw.enc l) (hl : l.length ≤ 1048576) (hc : l.length ≤ c) (hp : ¬ fitGP n l low high hand) :
    Calls Try.prog 21 #[.int .i64 n, .slice A l.length c, .int .i64 low, .int .i64 high, .int .i64 hand] w fun e w' => e = .returned (.tuple #[.int .i64 0, .int .i64 0, .int .i64 0, .bool false]) ∧ Below w.heap.size w w' := by
  have HV := Lib.hid h
  clear h
  by_cases h1 : rangeP low high
  · have e1 := B_t h1
    have e2 := B_f (fun h2 => hp (fit_fitGP h2 h1))
    clear hp h1
    go_enter Try.func21, Try.ntmps21
    go_wp2_with (first | (go_at_call 52; refine (goodRange_any _ _ _).mono ?_; rintro e w' ⟨rfl, rfl⟩) | (go_at_call 53; refine (goodFit_any n low hand l A c _ HV.out hl hc).mono ?_; rintro e w1 ⟨rfl, hb1⟩))
    (try simp only [Exit.inBlock, Exit.then]); refine bodyPost_ret (results_tmp4 rfl _ _ _) rfl ?_
    exact ⟨rfl, hb1⟩
  · have e1 := B_f h1
    clear hp h1
    go_enter Try.func21, Try.ntmps21
    go_wp2_with (go_at_call 52; refine (goodRange_any _ _ _).mono ?_; rintro e w' ⟨rfl, rfl⟩)
    (try simp only [Exit.inBlock, Exit.then]); refine bodyPost_ret (results_tmp4 rfl _ _ _) rfl ?_
    exact ⟨rfl, Below.refl _ _⟩


theorem sFitGap_t (n low high hand : Int) (l : List Blw) (A : Option Addr) (c : Nat) (w : World) (h : RdL w w.heap.size A 3 Blw.enc l) (hl : l.length ≤ 1048576) (hc : l.length ≤ c) (hp : fitGP n l low high hand) :
    Calls Try.prog 22 #[.int .i64 n, .slice A l.length c, .int .i64 low, .int .i64 high, .int .i64 hand] w fun e w' => e = .returned (.tuple #[.int .i64 (gapF n hand l low (high - low + 1).toNat).1, .int .i64 (gapF n hand l low (high - low + 1).toNat).2.1, .int .i64 (gapF n hand l low (high - low + 1).toNat).2.2, .bool true]) ∧ Below w.heap.size w w' := by
  have HV := Lib.hid h
  have e1 := B_t hp.1
  have e2 := B_t hp.2.2.1
  have e3 := B_t hp.2.2.2
  have d1 : ((l.length : Int) == 0) = false := beq_eq_false_iff_ne.2 (by have := hp.2.1; omega)
  obtain ⟨s0, hs0⟩ : ∃ s, Hid ((gapF n hand l low (high - low + 1).toNat).1 = s) := ⟨_, Lib.hid rfl⟩
  obtain ⟨g0, hg0⟩ : ∃ s, Hid ((gapF n hand l low (high - low + 1).toNat).2.1 = s) := ⟨_, Lib.hid rfl⟩
  obtain ⟨b0, hb0⟩ : ∃ s, Hid ((gapF n hand l low (high - low + 1).toNat).2.2 = s) := ⟨_, Lib.hid rfl⟩
  rw [hs0.out, hg0.out, hb0.out]
  have hs : Hid (∀ W, Below w.heap.size w W → Calls Try.prog 57 #[.int .i64 n, .slice A l.length c, .int .i64 low, .int .i64 high, .int .i64 hand] W fun e w' => e = .returned (.tuple #[.int .i64 s0, .int .i64 g0, .int .i64 b0]) ∧ Below W.heap.size W w') := Lib.hid (fun W hb => by
    have := l23Gap_any n low high hand l A c W ((h.below hb (Nat.le_refl _)).more hb.size) hp
    rw [hs0.out, hg0.out, hb0.out] at this; exact this)
  clear h hp
  go_enter Try.func22, Try.ntmps22
  go_wp2_with (first | (go_at_call 39; refine (l23Good_any n l A c _ HV.out hl hc).mono ?_; rintro e w1 ⟨rfl, hb1⟩) | (go_at_call 56; refine (l1In_any _ _ _ _).mono ?_; rintro e w' ⟨rfl, rfl⟩) | (go_at_call 55; refine (l23Range_any _ _ _).mono ?_; rintro e w' ⟨rfl, rfl⟩) | (go_at_call 57; refine (hs.out _ hb1).mono ?_; rintro e w2 ⟨rfl, hb2⟩))
  (try simp only [Exit.inBlock, Exit.then]); refine bodyPost_ret (results_tmp4 rfl _ _ _) rfl ?_
  exact ⟨rfl, hb1.trans (hb2.mono hb1.size)⟩
theorem sFitGap_f (n low high hand : Int) (l : List Blw) (A : Option Addr) (c : Nat) (w : World) (h : RdL w w.heap.size A 3 Blw.enc l) (hl : l.length ≤ 1048576) (hc : l.length ≤ c) (hp : ¬ fitGP n l low high hand) :
    Calls Try.prog 22 #[.int .i64 n, .slice A l.length c, .int .i64 low, .int .i64 high, .int .i64 hand] w fun e w' => e = .returned (.tuple #[.int .i64 0, .int .i64 0, .int .i64 0, .bool false]) ∧ Below w.heap.size w w' := by
  have HV := Lib.hid h
  clear h
  by_cases h1 : blowsP n l
  rotate_left
  · have e1 := B_f h1
    clear hp h1
    go_enter Try.func22, Try.ntmps22
    go_wp2_with (first | (go_at_call 39; refine (l23Good_any n l A c _ HV.out hl hc).mono ?_; rintro e w1 ⟨rfl, hb1⟩) | (go_at_call 56; refine (l1In_any _ _ _ _).mono ?_; rintro e w' ⟨rfl, rfl⟩) | (go_at_call 55; refine (l23Range_any _ _ _).mono ?_; rintro e w' ⟨rfl, rfl⟩))
    (try simp only [Exit.inBlock, Exit.then]); refine bodyPost_ret (results_tmp4 rfl _ _ _) rfl ?_
    exact ⟨rfl, hb1⟩
  have e1 := B_t h1
  by_cases h2 : 0 < l.length
  rotate_left
  · have d1 : ((l.length : Int) == 0) = true := beq_iff_eq.2 (by omega)
    clear hp h1 h2
    go_enter Try.func22, Try.ntmps22
    go_wp2_with (first | (go_at_call 39; refine (l23Good_any n l A c _ HV.out hl hc).mono ?_; rintro e w1 ⟨rfl, hb1⟩) | (go_at_call 56; refine (l1In_any _ _ _ _).mono ?_; rintro e w' ⟨rfl, rfl⟩) | (go_at_call 55; refine (l23Range_any _ _ _).mono ?_; rintro e w' ⟨rfl, rfl⟩))
    (try simp only [Exit.inBlock, Exit.then]); refine bodyPost_ret (results_tmp4 rfl _ _ _) rfl ?_
    exact ⟨rfl, hb1⟩
  have d1 : ((l.length : Int) == 0) = false := beq_eq_false_iff_ne.2 (by omega)
  by_cases h3 : rangeP low high
  rotate_left
  · have e2 := B_f h3
    clear hp h1 h3
    go_enter Try.func22, Try.ntmps22
    go_wp2_with (first | (go_at_call 39; refine (l23Good_any n l A c _ HV.out hl hc).mono ?_; rintro e w1 ⟨rfl, hb1⟩) | (go_at_call 56; refine (l1In_any _ _ _ _).mono ?_; rintro e w' ⟨rfl, rfl⟩) | (go_at_call 55; refine (l23Range_any _ _ _).mono ?_; rintro e w' ⟨rfl, rfl⟩))
    (try simp only [Exit.inBlock, Exit.then]); refine bodyPost_ret (results_tmp4 rfl _ _ _) rfl ?_
    exact ⟨rfl, hb1⟩
  have e2 := B_t h3
  have e3 := B_f (fun h4 => hp ⟨h1, h2, h3, h4⟩)
  clear hp h1 h3
  go_enter Try.func22, Try.ntmps22
  go_wp2_with (first | (go_at_call 39; refine (l23Good_any n l A c _ HV.out hl hc).mono ?_; rintro e w1 ⟨rfl, hb1⟩) | (go_at_call 56; refine (l1In_any _ _ _ _).mono ?_; rintro e w' ⟨rfl, rfl⟩) | (go_at_call 55; refine (l23Range_any _ _ _).mono ?_; rintro e w' ⟨rfl, rfl⟩))
  (try simp only [Exit.inBlock, Exit.then]); refine bodyPost_ret (results_tmp4 rfl _ _ _) rfl ?_
  exact ⟨rfl, hb1⟩
end Go.Proofs.Ytkegbbndmfnolaa
