import Derived.Test.YtglnehinmdmgmaaMBlowsInL05
import Derived.Test.YtglnehinmdmgmaaMBlowsInL08
/-
  Beats and the ideal times of blows: in plain words, and the contracts of both sides.
-/
namespace Go.Proofs.Ytglnehinmdmgmaa
open Go.RowKit
set_option linter.unusedVariables false
set_option linter.unusedSimpArgs false
set_option maxRecDepth 100000

/-- The ideal time of a blow. -/
def blowV (st gap hand n r p : Int) : Int := st + gap * (n * r + p - 1) + hand * (r / 2)
theorem mul_bd {a b A B : Int} (h0 : 0 ≤ a) (h1 : a ≤ A) (h2 : 0 ≤ b) (h3 : b ≤ B) : 0 ≤ a * b ∧ a * b ≤ A * B :=
  ⟨Int.mul_nonneg h0 h2, Int.mul_le_mul h1 h3 h2 (by omega)⟩

theorem blowAt_any (st gap hand n p : Int) (r : Nat) (w : World) (hs : 0 ≤ st ∧ st ≤ 1000000) (hg : 0 ≤ gap ∧ gap ≤ 2000) (hh : 0 ≤ hand ∧ hand ≤ 2000) (hn : 3 ≤ n ∧ n ≤ 8) (hr : r ≤ 800) (hp : 1 ≤ p ∧ p ≤ 8) :
    Calls Try.prog 56 #[.agg #[.int .i64 st, .int .i64 gap, .int .i64 hand], .int .i64 n, .int .i64 (r : Int), .int .i64 p] w fun e w' => e = .returned (.int .i64 (blowV st gap hand n r p)) ∧ w' = w.alloc (.cells #[.int .i64 st, .int .i64 gap, .int .i64 hand] 31) := by
  obtain ⟨hs1, hs2⟩ := hs
  obtain ⟨hg1, hg2⟩ := hg
  obtain ⟨hh1, hh2⟩ := hh
  obtain ⟨hn1, hn2⟩ := hn
  obtain ⟨hp1, hp2⟩ := hp
  obtain ⟨m1, m2⟩ := mul_bd (a := n) (b := (r : Int)) (A := 8) (B := 800) (by omega) hn2 (by omega) (by omega)
  obtain ⟨m3, m4⟩ := mul_bd (a := gap) (b := n * (r : Int) + p - 1) (A := 2000) (B := 6407) (by omega) hg2 (by omega) (by omega)
  obtain ⟨m5, m6⟩ := mul_bd (a := hand) (b := (r : Int) / 2) (A := 2000) (B := 400) (by omega) hh2 (by omega) (by omega)
  go_enter Try.func56, Try.ntmps56
  go_wp2
  go_ret
  exact ⟨rfl, rfl⟩
theorem l21Blow_any (st gap hand n p : Int) (r : Nat) (w : World) (hs : 0 ≤ st ∧ st ≤ 1000000) (hg : 0 ≤ gap ∧ gap ≤ 2000) (hh : 0 ≤ hand ∧ hand ≤ 2000) (hn : 3 ≤ n ∧ n ≤ 8) (hr : r ≤ 800) (hp : 1 ≤ p ∧ p ≤ 8) :
    Calls Try.prog 69 #[.agg #[.int .i64 st, .int .i64 gap, .int .i64 hand], .int .i64 n, .int .i64 (r : Int), .int .i64 p] w fun e w' => e = .returned (.int .i64 (blowV st gap hand n r p)) ∧ w' = w.alloc (.cells #[.int .i64 st, .int .i64 gap, .int .i64 hand] 31) := by
  obtain ⟨hs1, hs2⟩ := hs
  obtain ⟨hg1, hg2⟩ := hg
  obtain ⟨hh1, hh2⟩ := hh
  obtain ⟨hn1, hn2⟩ := hn
  obtain ⟨hp1, hp2⟩ := hp
  obtain ⟨m1, m2⟩ := mul_bd (a := n) (b := (r : Int)) (A := 8) (B := 800) (by omega) hn2 (by omega) (by omega)
  obtain ⟨m3, m4⟩ := mul_bd (a := gap) (b := n * (r : Int) + p - 1) (A := 2000) (B := 6407) (by omega) hg2 (by omega) (by omega)
  obtain ⟨m5, m6⟩ := mul_bd (a := hand) (b := (r : Int) / 2) (A := 2000) (B := 400) (by omega) hh2 (by omega) (by omega)
  go_enter Try.func69, Try.ntmps69
  go_wp2
  go_ret
  exact ⟨rfl, rfl⟩

/-- A valid beat. -/
def beatP (t : Int × Int × Int) : Prop := inB t.1 0 1000000 ∧ inB t.2.1 1 2000 ∧ inB t.2.2 0 2000

theorem goodBeat_any (t : Int × Int × Int) (w : World) : Calls Try.prog 55 #[.agg #[.int .i64 t.1, .int .i64 t.2.1, .int .i64 t.2.2]] w fun e w' => e = .returned (.bool (B (beatP t))) ∧ Below w.heap.size w w' := by
  obtain ⟨a, b, c⟩ := t
  show Calls _ _ #[.agg #[.int .i64 a, .int .i64 b, .int .i64 c]] _ fun e w' => e = .returned (.bool (B (inB a 0 1000000 ∧ inB b 1 2000 ∧ inB c 0 2000))) ∧ _
  by_cases h_0 : inB a 0 1000000
  rotate_left
  · have H := Lib.hid h_0
    have e_0 := B_f h_0
    clear h_0
    go_enter Try.func55, Try.ntmps55
    go_wp2_with (go_at_call 50; refine (within_any _ _ _ _).mono ?_; rintro e w' ⟨rfl, rfl⟩)
    go_ret
    exact ⟨ret_f (fun x => H.out x.1), (Below.refl _ _).alloc (Nat.le_refl _) _⟩
  have H_0 := Lib.hid h_0
  have e_0 := B_t h_0
  clear h_0
  by_cases h_1 : inB b 1 2000
  rotate_left
  · have H := Lib.hid h_1
    have e_1 := B_f h_1
    clear h_1
    go_enter Try.func55, Try.ntmps55
    go_wp2_with (go_at_call 50; refine (within_any _ _ _ _).mono ?_; rintro e w' ⟨rfl, rfl⟩)
    go_ret
    exact ⟨ret_f (fun x => H.out x.2.1), (Below.refl _ _).alloc (Nat.le_refl _) _⟩
  have H_1 := Lib.hid h_1
  have e_1 := B_t h_1
  clear h_1
  by_cases h_2 : inB c 0 2000
  rotate_left
  · have H := Lib.hid h_2
    have e_2 := B_f h_2
    clear h_2
    go_enter Try.func55, Try.ntmps55
    go_wp2_with (go_at_call 50; refine (within_any _ _ _ _).mono ?_; rintro e w' ⟨rfl, rfl⟩)
    go_ret
    exact ⟨ret_f (fun x => H.out x.2.2), (Below.refl _ _).alloc (Nat.le_refl _) _⟩
  have H_2 := Lib.hid h_2
  have e_2 := B_t h_2
  clear h_2
  go_enter Try.func55, Try.ntmps55
  go_wp2_with (go_at_call 50; refine (within_any _ _ _ _).mono ?_; rintro e w' ⟨rfl, rfl⟩)
  go_ret
  exact ⟨ret_t ⟨H_0.out, H_1.out, H_2.out⟩, (Below.refl _ _).alloc (Nat.le_refl _) _⟩

theorem l21Beat_any (t : Int × Int × Int) (w : World) : Calls Try.prog 18 #[.agg #[.int .i64 t.1, .int .i64 t.2.1, .int .i64 t.2.2]] w fun e w' => e = .returned (.bool (B (beatP t))) ∧ Below w.heap.size w w' := by
  obtain ⟨a, b, c⟩ := t
  show Calls _ _ #[.agg #[.int .i64 a, .int .i64 b, .int .i64 c]] _ fun e w' => e = .returned (.bool (B (inB a 0 1000000 ∧ inB b 1 2000 ∧ inB c 0 2000))) ∧ _
  by_cases h_0 : inB a 0 1000000
  rotate_left
  · have H := Lib.hid h_0
    have e_0 := B_f h_0
    clear h_0
    go_enter Try.func18, Try.ntmps18
    go_wp2_with (go_at_call 37; refine (l1In_any _ _ _ _).mono ?_; rintro e w' ⟨rfl, rfl⟩)
    go_ret
    exact ⟨ret_f (fun x => H.out x.1), (Below.refl _ _).alloc (Nat.le_refl _) _⟩
  have H_0 := Lib.hid h_0
  have e_0 := B_t h_0
  clear h_0
  by_cases h_1 : inB b 1 2000
  rotate_left
  · have H := Lib.hid h_1
    have e_1 := B_f h_1
    clear h_1
    go_enter Try.func18, Try.ntmps18
    go_wp2_with (go_at_call 37; refine (l1In_any _ _ _ _).mono ?_; rintro e w' ⟨rfl, rfl⟩)
    go_ret
    exact ⟨ret_f (fun x => H.out x.2.1), (Below.refl _ _).alloc (Nat.le_refl _) _⟩
  have H_1 := Lib.hid h_1
  have e_1 := B_t h_1
  clear h_1
  by_cases h_2 : inB c 0 2000
  rotate_left
  · have H := Lib.hid h_2
    have e_2 := B_f h_2
    clear h_2
    go_enter Try.func18, Try.ntmps18
    go_wp2_with (go_at_call 37; refine (l1In_any _ _ _ _).mono ?_; rintro e w' ⟨rfl, rfl⟩)
    go_ret
    exact ⟨ret_f (fun x => H.out x.2.2), (Below.refl _ _).alloc (Nat.le_refl _) _⟩
  have H_2 := Lib.hid h_2
  have e_2 := B_t h_2
  clear h_2
  go_enter Try.func18, Try.ntmps18
  go_wp2_with (go_at_call 37; refine (l1In_any _ _ _ _).mono ?_; rintro e w' ⟨rfl, rfl⟩)
  go_ret
  exact ⟨ret_t ⟨H_0.out, H_1.out, H_2.out⟩, (Below.refl _ _).alloc (Nat.le_refl _) _⟩

end Go.Proofs.Ytglnehinmdmgmaa
