import Derived.Test.YtglnehinmdmgmaaGreatMErrorsL04
import Derived.Test.YtglnehinmdmgmaaGreatMErrorsL14
import Derived.Test.YtglnehinmdmgmaaGreatMErrorsL01
import Derived.Test.YtglnehinmdmgmaaGreatMErrorsL03
import Derived.Test.YtglnehinmdmgmaaGreatMErrorsL05
/-
  Lists of strikes and of times: valid ones, the times of one bell; the contracts of both sides.
-/
namespace Go.Proofs.YtglnehinmdmgmaaGreat
open Go.RowKit
set_option linter.unusedVariables false
set_option linter.unusedSimpArgs false
set_option maxRecDepth 100000

def stkAtP (l : List Stk) (i : Nat) (hi : i < l.length) : Prop := inB l[i].bell 1 8 ∧ inB l[i].at_ 0 1000000 ∧ (0 < i → (l[i - 1]'(by omega)).at_ ≤ l[i].at_)
/-- A valid list of strikes. -/
def strikesP (l : List Stk) : Prop := l.length ≤ 2000 ∧ ∀ (i : Nat) (hi : i < l.length), stkAtP l i hi
def timeAtP (l : List Int) (i : Nat) (hi : i < l.length) : Prop := inB l[i] 0 1000000 ∧ (0 < i → l[i - 1]'(by omega) ≤ l[i])
/-- A valid list of times. -/
def timesP (l : List Int) : Prop := l.length ≤ 60 ∧ ∀ (i : Nat) (hi : i < l.length), timeAtP l i hi



set_option maxHeartbeats 1600000 in
theorem iStrikes_any (l : List Stk) (A : Option Addr) (c : Nat) (w : World) (h : RdL w w.heap.size A 2 Stk.enc l) (hl : l.length ≤ 1048576) :
    Calls Tryz.prog 57 #[.slice A l.length c] w fun e w' => e = .returned (.bool (B (strikesP l))) ∧ Below w.heap.size w w' := by
  have Hr := Lib.hid h
  clear h
  go_enter Tryz.func57, Tryz.ntmps57
  go_wp2
  go_loopw [7] (fun i wr => ∃ k : Nat, k ≤ l.length ∧ i = .int .i64 k ∧ (∀ (j : Nat) (hj : j < l.length), j < k → stkAtP l j hj) ∧ Below w.heap.size w wr) (fun i _ => l.length - (intOf i).toNat)
  case atStart => exact ⟨0, by omega, by rfl, fun j _ h => by omega, Below.refl _ _⟩
  case round =>
    obtain ⟨k, hk, rfl, hp, hbl⟩ := hrel
    have Hp := Lib.hid hp
    have Hbl := Lib.hid hbl
    have hgs := hbl.size
    clear hp hbl
    by_cases hlt : k < l.length
    · obtain ⟨g, off, hA, hg, hcell⟩ := Hr.out.at hlt
      have r0 := (Hbl.out.cell (p := ⟨g, off + k * 2, none⟩) hg).trans (hcell 0 _ rfl)
      have r1 := (Hbl.out.cell (p := ⟨g, off + k * 2 + 1, none⟩) hg).trans (hcell 1 _ rfl)
      subst hA
      obtain ⟨x, hx⟩ : ∃ x, Hid (l[k] = x) := ⟨_, Lib.hid rfl⟩
      rw [hx.out] at r0 r1
      have hgw : g < wr.heap.size := Nat.lt_of_lt_of_le hg hgs
      clear hcell
      by_cases c1 : inB x.bell 1 8
      rotate_left
      · have e1 := B_f c1
        have C1 := Lib.hid c1
        clear c1
        go_wp2
        go_quiet ((first | (go_at_call 58; exact Calls.quiet_of_same (calls_bool ((isBell_any _ _ _).mono fun _ _ h => ⟨h.1, h.2.symm⟩) (by assumption))) | (go_at_call 20; exact Calls.quiet_of_same (calls_bool ((within_any _ _ _ _).mono fun _ _ h => ⟨h.1, h.2.symm⟩) (by assumption))) | fail))
        go_wp2
        go_ret
        exact ⟨ret_f (fun h => C1.out (by have := (h.2 k hlt).1; rw [hx.out] at this; exact this)), below_drewN (Hbl.out.alloc hgs _) _⟩
      have e1 := B_t c1
      have C1 := Lib.hid c1
      clear c1
      by_cases c2 : inB x.at_ 0 1000000
      rotate_left
      · have e2 := B_f c2
        have C2 := Lib.hid c2
        clear c2
        go_wp2
        go_quiet ((first | (go_at_call 58; exact Calls.quiet_of_same (calls_bool ((isBell_any _ _ _).mono fun _ _ h => ⟨h.1, h.2.symm⟩) (by assumption))) | (go_at_call 20; exact Calls.quiet_of_same (calls_bool ((within_any _ _ _ _).mono fun _ _ h => ⟨h.1, h.2.symm⟩) (by assumption))) | fail))
        go_wp2
        go_ret
        exact ⟨ret_f (fun h => C2.out (by have := (h.2 k hlt).2.1; rw [hx.out] at this; exact this)), below_drewN (Hbl.out.alloc hgs _) _⟩
      have e2 := B_t c2
      have C2 := Lib.hid c2
      clear c2
      by_cases hk0 : k = 0
      · subst hk0
        simp only [Nat.zero_mul, Nat.zero_add, Nat.add_zero] at r0 r1
        have hx0 : Hid (∀ (j : Nat) (hj : j < l.length), j < 0 + 1 → stkAtP l j hj) := Lib.hid fun j hj h1 => by
          obtain rfl : j = 0 := by omega
          unfold stkAtP; rw [hx.out]; exact ⟨C1.out, C2.out, fun h => absurd h (by omega)⟩
        go_wp2
        go_quiet ((first | (go_at_call 58; exact Calls.quiet_of_same (calls_bool ((isBell_any _ _ _).mono fun _ _ h => ⟨h.1, h.2.symm⟩) (by assumption))) | (go_at_call 20; exact Calls.quiet_of_same (calls_bool ((within_any _ _ _ _).mono fun _ _ h => ⟨h.1, h.2.symm⟩) (by assumption))) | fail))
        go_wp2
        go_roundw
        case rel => exact ⟨0 + 1, by omega, by go_num, hx0.out, below_drewN (Hbl.out.alloc hgs _) _⟩
        case measure => simp [intOf]; omega
      · obtain ⟨j, rfl⟩ : ∃ j, k = j + 1 := ⟨k - 1, by omega⟩
        have hj : j < l.length := by omega
        obtain ⟨g', off', hA', hg', hcell'⟩ := Hr.out.at hj
        simp only [Option.some.injEq, Addr.mk.injEq, and_true] at hA'
        obtain ⟨rfl, rfl⟩ := hA'
        have s1 := (Hbl.out.cell (p := ⟨g, off + j * 2 + 1, none⟩) hg).trans (hcell' 1 _ rfl)
        clear hcell'
        obtain ⟨y, hy⟩ : ∃ y, Hid (l[j] = y) := ⟨_, Lib.hid rfl⟩
        rw [hy.out] at s1
        by_cases c3 : x.at_ < y.at_
        · have C3 := Lib.hid c3
          go_wp2
          go_quiet ((first | (go_at_call 58; exact Calls.quiet_of_same (calls_bool ((isBell_any _ _ _).mono fun _ _ h => ⟨h.1, h.2.symm⟩) (by assumption))) | (go_at_call 20; exact Calls.quiet_of_same (calls_bool ((within_any _ _ _ _).mono fun _ _ h => ⟨h.1, h.2.symm⟩) (by assumption))) | fail))
          go_wp2
          go_ret
          exact ⟨ret_f (fun h => (by have := (h.2 (j + 1) hlt).2.2 (by omega); rw [hx.out] at this; simp only [Nat.add_sub_cancel] at this; rw [hy.out] at this; have := C3.out; omega)), below_drewN (Hbl.out.alloc hgs _) _⟩
        · have C3 := Lib.hid c3
          have hx0 : Hid (∀ (i : Nat) (hi : i < l.length), i < j + 1 + 1 → stkAtP l i hi) := Lib.hid fun i hi h1 => by
            rcases Nat.lt_or_eq_of_le (Nat.le_of_lt_succ h1) with h' | rfl
            · exact Hp.out i hi h'
            · unfold stkAtP; rw [hx.out]; refine ⟨C1.out, C2.out, fun h => ?_⟩
              simp only [Nat.add_sub_cancel]; rw [hy.out]; have := C3.out; omega
          go_wp2
          go_quiet ((first | (go_at_call 58; exact Calls.quiet_of_same (calls_bool ((isBell_any _ _ _).mono fun _ _ h => ⟨h.1, h.2.symm⟩) (by assumption))) | (go_at_call 20; exact Calls.quiet_of_same (calls_bool ((within_any _ _ _ _).mono fun _ _ h => ⟨h.1, h.2.symm⟩) (by assumption))) | fail))
          go_wp2
          go_roundw
          case rel => exact ⟨j + 1 + 1, by omega, (by refine congrArg (Value.int .i64) ?_; omega), hx0.out, below_drewN (Hbl.out.alloc hgs _) _⟩
          case measure => simp [intOf]; omega
    · obtain rfl : k = l.length := by omega
      by_cases c4 : l.length ≤ 2000
      · have d4 : decide ((l.length : Int) ≤ 2000) = true := decide_eq_true (by omega)
        go_wp2
        go_ret
        exact ⟨ret_t ⟨c4, fun i hi => Hp.out i hi hi⟩, Hbl.out⟩
      · have d4 : decide ((l.length : Int) ≤ 2000) = false := decide_eq_false (by omega)
        go_wp2
        go_ret
        exact ⟨ret_f (fun h => c4 h.1), Hbl.out⟩
set_option maxHeartbeats 1600000 in
theorem l21Good_any (l : List Stk) (A : Option Addr) (c : Nat) (w : World) (h : RdL w w.heap.size A 2 Stk.enc l) (hl : l.length ≤ 1048576) :
    Calls Tryz.prog 40 #[.slice A l.length c] w fun e w' => e = .returned (.bool (B (strikesP l))) ∧ Below w.heap.size w w' := by
  have Hr := Lib.hid h
  clear h
  go_enter Tryz.func40, Tryz.ntmps40
  go_wp2
  go_loopw [7] (fun i wr => ∃ k : Nat, k ≤ l.length ∧ i = .int .i64 k ∧ (∀ (j : Nat) (hj : j < l.length), j < k → stkAtP l j hj) ∧ Below w.heap.size w wr) (fun i _ => l.length - (intOf i).toNat)
  case atStart => exact ⟨0, by omega, by rfl, fun j _ h => by omega, Below.refl _ _⟩
  case round =>
    obtain ⟨k, hk, rfl, hp, hbl⟩ := hrel
    have Hp := Lib.hid hp
    have Hbl := Lib.hid hbl
    have hgs := hbl.size
    clear hp hbl
    by_cases hlt : k < l.length
    · obtain ⟨g, off, hA, hg, hcell⟩ := Hr.out.at hlt
      have r0 := (Hbl.out.cell (p := ⟨g, off + k * 2, none⟩) hg).trans (hcell 0 _ rfl)
      have r1 := (Hbl.out.cell (p := ⟨g, off + k * 2 + 1, none⟩) hg).trans (hcell 1 _ rfl)
      subst hA
      obtain ⟨x, hx⟩ : ∃ x, Hid (l[k] = x) := ⟨_, Lib.hid rfl⟩
      rw [hx.out] at r0 r1
      have hgw : g < wr.heap.size := Nat.lt_of_lt_of_le hg hgs
      clear hcell
      by_cases c1 : inB x.bell 1 8
      rotate_left
      · have e1 := B_f c1
        have C1 := Lib.hid c1
        clear c1
        go_wp2
        go_quiet ((first | (go_at_call 53; exact Calls.quiet_of_same (calls_bool ((l1In_any _ _ _ _).mono fun _ _ h => ⟨h.1, h.2.symm⟩) (by assumption))) | fail))
        go_wp2
        go_ret
        exact ⟨ret_f (fun h => C1.out (by have := (h.2 k hlt).1; rw [hx.out] at this; exact this)), below_drewN (Hbl.out.alloc hgs _) _⟩
      have e1 := B_t c1
      have C1 := Lib.hid c1
      clear c1
      by_cases c2 : inB x.at_ 0 1000000
      rotate_left
      · have e2 := B_f c2
        have C2 := Lib.hid c2
        clear c2
        go_wp2
        go_quiet ((first | (go_at_call 53; exact Calls.quiet_of_same (calls_bool ((l1In_any _ _ _ _).mono fun _ _ h => ⟨h.1, h.2.symm⟩) (by assumption))) | fail))
        go_wp2
        go_ret
        exact ⟨ret_f (fun h => C2.out (by have := (h.2 k hlt).2.1; rw [hx.out] at this; exact this)), below_drewN (Hbl.out.alloc hgs _) _⟩
      have e2 := B_t c2
      have C2 := Lib.hid c2
      clear c2
      by_cases hk0 : k = 0
      · subst hk0
        simp only [Nat.zero_mul, Nat.zero_add, Nat.add_zero] at r0 r1
        have hx0 : Hid (∀ (j : Nat) (hj : j < l.length), j < 0 + 1 → stkAtP l j hj) := Lib.hid fun j hj h1 => by
          obtain rfl : j = 0 := by omega
          unfold stkAtP; rw [hx.out]; exact ⟨C1.out, C2.out, fun h => absurd h (by omega)⟩
        go_wp2
        go_quiet ((first | (go_at_call 53; exact Calls.quiet_of_same (calls_bool ((l1In_any _ _ _ _).mono fun _ _ h => ⟨h.1, h.2.symm⟩) (by assumption))) | fail))
        go_wp2
        go_roundw
        case rel => exact ⟨0 + 1, by omega, by go_num, hx0.out, below_drewN (Hbl.out.alloc hgs _) _⟩
        case measure => simp [intOf]; omega
      · obtain ⟨j, rfl⟩ : ∃ j, k = j + 1 := ⟨k - 1, by omega⟩
        have hj : j < l.length := by omega
        obtain ⟨g', off', hA', hg', hcell'⟩ := Hr.out.at hj
        simp only [Option.some.injEq, Addr.mk.injEq, and_true] at hA'
        obtain ⟨rfl, rfl⟩ := hA'
        have s1 := (Hbl.out.cell (p := ⟨g, off + j * 2 + 1, none⟩) hg).trans (hcell' 1 _ rfl)
        clear hcell'
        obtain ⟨y, hy⟩ : ∃ y, Hid (l[j] = y) := ⟨_, Lib.hid rfl⟩
        rw [hy.out] at s1
        by_cases c3 : x.at_ < y.at_
        · have C3 := Lib.hid c3
          go_wp2
          go_quiet ((first | (go_at_call 53; exact Calls.quiet_of_same (calls_bool ((l1In_any _ _ _ _).mono fun _ _ h => ⟨h.1, h.2.symm⟩) (by assumption))) | fail))
          go_wp2
          go_ret
          exact ⟨ret_f (fun h => (by have := (h.2 (j + 1) hlt).2.2 (by omega); rw [hx.out] at this; simp only [Nat.add_sub_cancel] at this; rw [hy.out] at this; have := C3.out; omega)), below_drewN (Hbl.out.alloc hgs _) _⟩
        · have C3 := Lib.hid c3
          have hx0 : Hid (∀ (i : Nat) (hi : i < l.length), i < j + 1 + 1 → stkAtP l i hi) := Lib.hid fun i hi h1 => by
            rcases Nat.lt_or_eq_of_le (Nat.le_of_lt_succ h1) with h' | rfl
            · exact Hp.out i hi h'
            · unfold stkAtP; rw [hx.out]; refine ⟨C1.out, C2.out, fun h => ?_⟩
              simp only [Nat.add_sub_cancel]; rw [hy.out]; have := C3.out; omega
          go_wp2
          go_quiet ((first | (go_at_call 53; exact Calls.quiet_of_same (calls_bool ((l1In_any _ _ _ _).mono fun _ _ h => ⟨h.1, h.2.symm⟩) (by assumption))) | fail))
          go_wp2
          go_roundw
          case rel => exact ⟨j + 1 + 1, by omega, (by refine congrArg (Value.int .i64) ?_; omega), hx0.out, below_drewN (Hbl.out.alloc hgs _) _⟩
          case measure => simp [intOf]; omega
    · obtain rfl : k = l.length := by omega
      by_cases c4 : l.length ≤ 2000
      · have d4 : decide ((l.length : Int) ≤ 2000) = true := decide_eq_true (by omega)
        go_wp2
        go_ret
        exact ⟨ret_t ⟨c4, fun i hi => Hp.out i hi hi⟩, Hbl.out⟩
      · have d4 : decide ((l.length : Int) ≤ 2000) = false := decide_eq_false (by omega)
        go_wp2
        go_ret
        exact ⟨ret_f (fun h => c4 h.1), Hbl.out⟩

set_option maxHeartbeats 1600000 in
theorem iTimes_any (l : List Int) (A : Option Addr) (c : Nat) (w : World) (h : RdL w w.heap.size A 1 encInt l) (hl : l.length ≤ 1048576) :
    Calls Tryz.prog 93 #[.slice A l.length c] w fun e w' => e = .returned (.bool (B (timesP l))) ∧ Below w.heap.size w w' := by
  have Hr := Lib.hid h
  clear h
  go_enter Tryz.func93, Tryz.ntmps93
  go_wp2
  go_loopw [7] (fun i wr => ∃ k : Nat, k ≤ l.length ∧ i = .int .i64 k ∧ (∀ (j : Nat) (hj : j < l.length), j < k → timeAtP l j hj) ∧ Below w.heap.size w wr) (fun i _ => l.length - (intOf i).toNat)
  case atStart => exact ⟨0, by omega, by rfl, fun j _ h => by omega, Below.refl _ _⟩
  case round =>
    obtain ⟨k, hk, rfl, hp, hbl⟩ := hrel
    have Hp := Lib.hid hp
    have Hbl := Lib.hid hbl
    have hgs := hbl.size
    clear hp hbl
    by_cases hlt : k < l.length
    · obtain ⟨g, off, hA, hg, hcell⟩ := Hr.out.at hlt
      have r0 : wr.cell? ⟨g, off + k, none⟩ = some (.int .i64 l[k]) := by have := (Hbl.out.cell (p := ⟨g, off + k * 1 + 0, none⟩) hg).trans (hcell 0 _ rfl); simpa using this
      subst hA
      obtain ⟨x, hx⟩ : ∃ x, Hid (l[k] = x) := ⟨_, Lib.hid rfl⟩
      rw [hx.out] at r0
      clear hcell
      by_cases c2 : inB x 0 1000000
      rotate_left
      · have e2 := B_f c2
        have C2 := Lib.hid c2
        clear c2
        go_wp2_with (first | (go_at_call 20; refine (within_any _ _ _ _).mono ?_; rintro e w' ⟨rfl, rfl⟩) | fail)
        go_ret
        exact ⟨ret_f (fun h => C2.out (by have := (h.2 k hlt).1; rw [hx.out] at this; exact this)), by repeat (first | exact Hbl.out | refine Below.alloc ?_ (by first | exact hgs | (simp; done) | (simp; omega)) _)⟩
      have e2 := B_t c2
      have C2 := Lib.hid c2
      clear c2
      by_cases hk0 : k = 0
      · subst hk0
        simp only [Nat.add_zero] at r0
        have hx0 : Hid (∀ (j : Nat) (hj : j < l.length), j < 0 + 1 → timeAtP l j hj) := Lib.hid fun j hj h1 => by
          obtain rfl : j = 0 := by omega
          unfold timeAtP; rw [hx.out]; exact ⟨C2.out, fun h => absurd h (by omega)⟩
        go_wp2_with (first | (go_at_call 20; refine (within_any _ _ _ _).mono ?_; rintro e w' ⟨rfl, rfl⟩) | fail)
        go_roundw
        case rel => exact ⟨0 + 1, by omega, by go_num, hx0.out, Hbl.out⟩
        case measure => simp [intOf]; omega
      · obtain ⟨j, rfl⟩ : ∃ j, k = j + 1 := ⟨k - 1, by omega⟩
        have hj : j < l.length := by omega
        obtain ⟨g', off', hA', hg', hcell'⟩ := Hr.out.at hj
        simp only [Option.some.injEq, Addr.mk.injEq, and_true] at hA'
        obtain ⟨rfl, rfl⟩ := hA'
        have s1 : wr.cell? ⟨g, off + j, none⟩ = some (.int .i64 l[j]) := by have := (Hbl.out.cell (p := ⟨g, off + j * 1 + 0, none⟩) hg).trans (hcell' 0 _ rfl); simpa using this
        clear hcell'
        obtain ⟨y, hy⟩ : ∃ y, Hid (l[j] = y) := ⟨_, Lib.hid rfl⟩
        rw [hy.out] at s1
        by_cases c3 : x < y
        · have C3 := Lib.hid c3
          go_wp2_with (first | (go_at_call 20; refine (within_any _ _ _ _).mono ?_; rintro e w' ⟨rfl, rfl⟩) | fail)
          go_ret
          exact ⟨ret_f (fun h => (by have := (h.2 (j + 1) hlt).2 (by omega); rw [hx.out] at this; simp only [Nat.add_sub_cancel] at this; rw [hy.out] at this; have := C3.out; omega)), by repeat (first | exact Hbl.out | refine Below.alloc ?_ (by first | exact hgs | (simp; done) | (simp; omega)) _)⟩
        · have C3 := Lib.hid c3
          have hx0 : Hid (∀ (i : Nat) (hi : i < l.length), i < j + 1 + 1 → timeAtP l i hi) := Lib.hid fun i hi h1 => by
            rcases Nat.lt_or_eq_of_le (Nat.le_of_lt_succ h1) with h' | rfl
            · exact Hp.out i hi h'
            · unfold timeAtP; rw [hx.out]; refine ⟨C2.out, fun h => ?_⟩
              simp only [Nat.add_sub_cancel]; rw [hy.out]; have := C3.out; omega
          go_wp2_with (first | (go_at_call 20; refine (within_any _ _ _ _).mono ?_; rintro e w' ⟨rfl, rfl⟩) | fail)
          go_roundw
          case rel => exact ⟨j + 1 + 1, by omega, (by refine congrArg (Value.int .i64) ?_; omega), hx0.out, Hbl.out⟩
          case measure => simp [intOf]; omega
    · obtain rfl : k = l.length := by omega
      by_cases c4 : l.length ≤ 60
      · have d4 : decide ((l.length : Int) ≤ 60) = true := decide_eq_true (by omega)
        go_wp2
        go_ret
        exact ⟨ret_t ⟨c4, fun i hi => Hp.out i hi hi⟩, Hbl.out⟩
      · have d4 : decide ((l.length : Int) ≤ 60) = false := decide_eq_false (by omega)
        go_wp2
        go_ret
        exact ⟨ret_f (fun h => c4 h.1), Hbl.out⟩
set_option maxHeartbeats 1600000 in
theorem l22Times_any (l : List Int) (A : Option Addr) (c : Nat) (w : World) (h : RdL w w.heap.size A 1 encInt l) (hl : l.length ≤ 1048576) :
    Calls Tryz.prog 100 #[.slice A l.length c] w fun e w' => e = .returned (.bool (B (timesP l))) ∧ Below w.heap.size w w' := by
  have Hr := Lib.hid h
  clear h
  go_enter Tryz.func100, Tryz.ntmps100
  go_wp2
  go_loopw [7] (fun i wr => ∃ k : Nat, k ≤ l.length ∧ i = .int .i64 k ∧ (∀ (j : Nat) (hj : j < l.length), j < k → timeAtP l j hj) ∧ Below w.heap.size w wr) (fun i _ => l.length - (intOf i).toNat)
  case atStart => exact ⟨0, by omega, by rfl, fun j _ h => by omega, Below.refl _ _⟩
  case round =>
    obtain ⟨k, hk, rfl, hp, hbl⟩ := hrel
    have Hp := Lib.hid hp
    have Hbl := Lib.hid hbl
    have hgs := hbl.size
    clear hp hbl
    by_cases hlt : k < l.length
    · obtain ⟨g, off, hA, hg, hcell⟩ := Hr.out.at hlt
      have r0 : wr.cell? ⟨g, off + k, none⟩ = some (.int .i64 l[k]) := by have := (Hbl.out.cell (p := ⟨g, off + k * 1 + 0, none⟩) hg).trans (hcell 0 _ rfl); simpa using this
      subst hA
      obtain ⟨x, hx⟩ : ∃ x, Hid (l[k] = x) := ⟨_, Lib.hid rfl⟩
      rw [hx.out] at r0
      clear hcell
      by_cases c2 : inB x 0 1000000
      rotate_left
      · have e2 := B_f c2
        have C2 := Lib.hid c2
        clear c2
        go_wp2_with (first | (go_at_call 53; refine (l1In_any _ _ _ _).mono ?_; rintro e w' ⟨rfl, rfl⟩) | fail)
        go_ret
        exact ⟨ret_f (fun h => C2.out (by have := (h.2 k hlt).1; rw [hx.out] at this; exact this)), by repeat (first | exact Hbl.out | refine Below.alloc ?_ (by first | exact hgs | (simp; done) | (simp; omega)) _)⟩
      have e2 := B_t c2
      have C2 := Lib.hid c2
      clear c2
      by_cases hk0 : k = 0
      · subst hk0
        simp only [Nat.add_zero] at r0
        have hx0 : Hid (∀ (j : Nat) (hj : j < l.length), j < 0 + 1 → timeAtP l j hj) := Lib.hid fun j hj h1 => by
          obtain rfl : j = 0 := by omega
          unfold timeAtP; rw [hx.out]; exact ⟨C2.out, fun h => absurd h (by omega)⟩
        go_wp2_with (first | (go_at_call 53; refine (l1In_any _ _ _ _).mono ?_; rintro e w' ⟨rfl, rfl⟩) | fail)
        go_roundw
        case rel => exact ⟨0 + 1, by omega, by go_num, hx0.out, Hbl.out⟩
        case measure => simp [intOf]; omega
      · obtain ⟨j, rfl⟩ : ∃ j, k = j + 1 := ⟨k - 1, by omega⟩
        have hj : j < l.length := by omega
        obtain ⟨g', off', hA', hg', hcell'⟩ := Hr.out.at hj
        simp only [Option.some.injEq, Addr.mk.injEq, and_true] at hA'
        obtain ⟨rfl, rfl⟩ := hA'
        have s1 : wr.cell? ⟨g, off + j, none⟩ = some (.int .i64 l[j]) := by have := (Hbl.out.cell (p := ⟨g, off + j * 1 + 0, none⟩) hg).trans (hcell' 0 _ rfl); simpa using this
        clear hcell'
        obtain ⟨y, hy⟩ : ∃ y, Hid (l[j] = y) := ⟨_, Lib.hid rfl⟩
        rw [hy.out] at s1
        by_cases c3 : x < y
        · have C3 := Lib.hid c3
          go_wp2_with (first | (go_at_call 53; refine (l1In_any _ _ _ _).mono ?_; rintro e w' ⟨rfl, rfl⟩) | fail)
          go_ret
          exact ⟨ret_f (fun h => (by have := (h.2 (j + 1) hlt).2 (by omega); rw [hx.out] at this; simp only [Nat.add_sub_cancel] at this; rw [hy.out] at this; have := C3.out; omega)), by repeat (first | exact Hbl.out | refine Below.alloc ?_ (by first | exact hgs | (simp; done) | (simp; omega)) _)⟩
        · have C3 := Lib.hid c3
          have hx0 : Hid (∀ (i : Nat) (hi : i < l.length), i < j + 1 + 1 → timeAtP l i hi) := Lib.hid fun i hi h1 => by
            rcases Nat.lt_or_eq_of_le (Nat.le_of_lt_succ h1) with h' | rfl
            · exact Hp.out i hi h'
            · unfold timeAtP; rw [hx.out]; refine ⟨C2.out, fun h => ?_⟩
              simp only [Nat.add_sub_cancel]; rw [hy.out]; have := C3.out; omega
          go_wp2_with (first | (go_at_call 53; refine (l1In_any _ _ _ _).mono ?_; rintro e w' ⟨rfl, rfl⟩) | fail)
          go_roundw
          case rel => exact ⟨j + 1 + 1, by omega, (by refine congrArg (Value.int .i64) ?_; omega), hx0.out, Hbl.out⟩
          case measure => simp [intOf]; omega
    · obtain rfl : k = l.length := by omega
      by_cases c4 : l.length ≤ 60
      · have d4 : decide ((l.length : Int) ≤ 60) = true := decide_eq_true (by omega)
        go_wp2
        go_ret
        exact ⟨ret_t ⟨c4, fun i hi => Hp.out i hi hi⟩, Hbl.out⟩
      · have d4 : decide ((l.length : Int) ≤ 60) = false := decide_eq_false (by omega)
        go_wp2
        go_ret
        exact ⟨ret_f (fun h => c4 h.1), Hbl.out⟩
/-- The times of one bell. -/
def ofL (l : List Stk) (b : Int) : List Int := (l.filter fun x => x.bell == b).map Stk.at_
theorem ofL_y {l : List Stk} {b : Int} {k : Nat} (hk : k < l.length) (h : l[k].bell = b) : ofL (l.take (k + 1)) b = ofL (l.take k) b ++ [l[k].at_] := by
  unfold ofL; rw [List.take_succ_eq_append_getElem hk, List.filter_append, List.map_append]; simp [h]
theorem ofL_n {l : List Stk} {b : Int} {k : Nat} (hk : k < l.length) (h : ¬ l[k].bell = b) : ofL (l.take (k + 1)) b = ofL (l.take k) b := by
  unfold ofL; rw [List.take_succ_eq_append_getElem hk, List.filter_append, List.map_append]; simp [h]
theorem ofL_len (l : List Stk) (b : Int) : (ofL l b).length ≤ l.length := by
  unfold ofL; rw [List.length_map]; exact List.length_filter_le _ _

set_option maxHeartbeats 1600000 in
theorem ofBell_any (l : List Stk) (b : Int) (A : Option Addr) (c : Nat) (w : World) (h : RdL w w.heap.size A 2 Stk.enc l) (hl : l.length ≤ 1048576) :
    Calls Tryz.prog 36 #[.slice A l.length c, .int .i64 b] w fun e w' => ∃ A' c', e = .returned (.slice A' (ofL l b).length c') ∧ (ofL l b).length ≤ c' ∧ OwnL w' w.heap.size w'.heap.size A' 1 encInt (ofL l b) ∧ Below w.heap.size w w' := by
  have Hr := Lib.hid h
  clear h
  go_enter Tryz.func36, Tryz.ntmps36
  go_wp2
  go_loopw [5, 11] (fun v i wr => ∃ k : Nat, k ≤ l.length ∧ i = .int .i64 k ∧ Hid (Grow wr w.heap.size 3 1 encInt v (ofL (l.take k) b)) ∧ Hid (Below w.heap.size w wr)) (fun _ i _ => l.length - (intOf i).toNat)
  case atStart => exact ⟨0, by omega, by rfl, Lib.hid (by have := Grow.empty (w := w) (e := 3) (size := 1) (enc := encInt) (Nat.le_refl w.heap.size); simpa [ofL] using this), Lib.hid ((Below.refl _ _).alloc (Nat.le_refl _) _)⟩
  case round =>
    obtain ⟨k, hk, rfl, HG, HB⟩ := hrel
    have hgs := HB.out.size
    have hlen := ofL_len (l.take k) b
    rw [List.length_take] at hlen
    by_cases hlt : k < l.length
    · obtain ⟨g, off, hA, hg, hcell⟩ := Hr.out.at hlt
      have r0 := (HB.out.cell (p := ⟨g, off + k * 2, none⟩) hg).trans (hcell 0 _ rfl)
      have r1 := (HB.out.cell (p := ⟨g, off + k * 2 + 1, none⟩) hg).trans (hcell 1 _ rfl)
      subst hA
      have hgw : g < wr.heap.size := Nat.lt_of_lt_of_le hg hgs
      clear hcell
      by_cases hb : l[k].bell = b
      · have hst := Lib.hid (ofL_y hlt hb)
        obtain ⟨x, hx⟩ : ∃ x, Hid (l[k] = x) := ⟨_, Lib.hid rfl⟩
        rw [hx.out] at r0 r1 hst hb
        subst hb
        go_wp2_with (first | (at_builtin; refine wpList_pushA rfl (.tmp 19) (.tmp 22) 24 rfl w.heap.size 3 _ 1 8 encInt rfl Int_info rfl (by omega) _ (ofL (l.take k) x.bell) [x.at_] 1 rfl rfl (by simp) (HG.out.later ((Below.refl _ _).alloc (Nat.le_refl _) _)) rfl encInt_len (by simp [encInt, Value.oneCell']) (by simp only [List.length_singleton]; omega) (by omega) (by simp; omega) ?_; intro v8 w8 g8 b8 _ _; have HG8 := Lib.hid g8; have HB8 : Hid (Below w.heap.size w w8) := Lib.hid ((HB.out.alloc hgs _).trans b8); clear g8 b8) | fail)
        go_roundw
        case rel => exact ⟨k + 1, by omega, by go_num, Lib.hid (by rw [hst.out]; exact HG8.out), HB8⟩
        case measure => simp [intOf]; omega
      · have hst := Lib.hid (ofL_n hlt hb)
        obtain ⟨x, hx⟩ : ∃ x, Hid (l[k] = x) := ⟨_, Lib.hid rfl⟩
        rw [hx.out] at r0 r1 hb
        have hbx : (x.bell == b) = false := beq_eq_false_iff_ne.2 hb
        go_wp2
        go_roundw
        case rel => exact ⟨k + 1, by omega, by go_num, Lib.hid (by rw [hst.out]; exact HG.out.later ((Below.refl _ _).alloc (Nat.le_refl _) _)), Lib.hid (HB.out.alloc hgs _)⟩
        case measure => simp [intOf]; omega
    · obtain rfl : k = l.length := by omega
      rw [List.take_of_length_le (Nat.le_refl _)] at HG
      obtain ⟨A', c', rfl, ho⟩ := HG.out.own encInt_len
      have hcp : (ofL l b).length ≤ c' := HG.out.capN
      go_wp2
      go_ret
      exact ⟨A', c', rfl, hcp, ho, HB.out⟩
set_option maxHeartbeats 1600000 in
theorem l21Of_any (l : List Stk) (b : Int) (A : Option Addr) (c : Nat) (w : World) (h : RdL w w.heap.size A 2 Stk.enc l) (hl : l.length ≤ 1048576) :
    Calls Tryz.prog 42 #[.slice A l.length c, .int .i64 b] w fun e w' => ∃ A' c', e = .returned (.slice A' (ofL l b).length c') ∧ (ofL l b).length ≤ c' ∧ OwnL w' w.heap.size w'.heap.size A' 1 encInt (ofL l b) ∧ Below w.heap.size w w' := by
  have Hr := Lib.hid h
  clear h
  go_enter Tryz.func42, Tryz.ntmps42
  go_wp2
  go_loopw [5, 10] (fun v i wr => ∃ k : Nat, k ≤ l.length ∧ i = .int .i64 k ∧ Hid (Grow wr w.heap.size 3 1 encInt v (ofL (l.take k) b)) ∧ Hid (Below w.heap.size w wr)) (fun _ i _ => l.length - (intOf i).toNat)
  case atStart => exact ⟨0, by omega, by rfl, Lib.hid (by simpa [ofL] using Grow.nil), Lib.hid (Below.refl _ _)⟩
  case round =>
    obtain ⟨k, hk, rfl, HG, HB⟩ := hrel
    have hgs := HB.out.size
    have hlen := ofL_len (l.take k) b
    rw [List.length_take] at hlen
    by_cases hlt : k < l.length
    · obtain ⟨g, off, hA, hg, hcell⟩ := Hr.out.at hlt
      have r0 := (HB.out.cell (p := ⟨g, off + k * 2, none⟩) hg).trans (hcell 0 _ rfl)
      have r1 := (HB.out.cell (p := ⟨g, off + k * 2 + 1, none⟩) hg).trans (hcell 1 _ rfl)
      subst hA
      have hgw : g < wr.heap.size := Nat.lt_of_lt_of_le hg hgs
      clear hcell
      by_cases hb : l[k].bell = b
      · have hst := Lib.hid (ofL_y hlt hb)
        obtain ⟨x, hx⟩ : ∃ x, Hid (l[k] = x) := ⟨_, Lib.hid rfl⟩
        rw [hx.out] at r0 r1 hst hb
        subst hb
        go_wp2_with (first | (at_builtin; refine wpList_pushA rfl (.tmp 18) (.tmp 21) 24 rfl w.heap.size 3 _ 1 8 encInt rfl Int_info rfl (by omega) _ (ofL (l.take k) x.bell) [x.at_] 1 rfl rfl (by simp) (HG.out.later ((Below.refl _ _).alloc (Nat.le_refl _) _)) rfl encInt_len (by simp [encInt, Value.oneCell']) (by simp only [List.length_singleton]; omega) (by omega) (by simp; omega) ?_; intro v8 w8 g8 b8 _ _; have HG8 := Lib.hid g8; have HB8 : Hid (Below w.heap.size w w8) := Lib.hid ((HB.out.alloc hgs _).trans b8); clear g8 b8) | fail)
        go_roundw
        case rel => exact ⟨k + 1, by omega, by go_num, Lib.hid (by rw [hst.out]; exact HG8.out), HB8⟩
        case measure => simp [intOf]; omega
      · have hst := Lib.hid (ofL_n hlt hb)
        obtain ⟨x, hx⟩ : ∃ x, Hid (l[k] = x) := ⟨_, Lib.hid rfl⟩
        rw [hx.out] at r0 r1 hb
        have hbx : (x.bell == b) = false := beq_eq_false_iff_ne.2 hb
        go_wp2
        go_roundw
        case rel => exact ⟨k + 1, by omega, by go_num, Lib.hid (by rw [hst.out]; exact HG.out.later ((Below.refl _ _).alloc (Nat.le_refl _) _)), Lib.hid (HB.out.alloc hgs _)⟩
        case measure => simp [intOf]; omega
    · obtain rfl : k = l.length := by omega
      rw [List.take_of_length_le (Nat.le_refl _)] at HG
      obtain ⟨A', c', rfl, ho⟩ := HG.out.own encInt_len
      have hcp : (ofL l b).length ≤ c' := HG.out.capN
      go_wp2
      go_ret
      exact ⟨A', c', rfl, hcp, ho, HB.out⟩
end Go.Proofs.YtglnehinmdmgmaaGreat
