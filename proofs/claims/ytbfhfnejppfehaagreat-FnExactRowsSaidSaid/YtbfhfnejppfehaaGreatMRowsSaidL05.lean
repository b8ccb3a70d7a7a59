import Derived.Test.YtbfhfnejppfehaaGreatMRowsSaidL01
import Derived.Test.YtbfhfnejppfehaaGreatMRowsSaidL04
/-
  Contracts: words, notes, calls and touches as texts (both sides).
-/
namespace Go.Proofs.YtbfhfnejppfehaaGreat
open Go.RowKit
set_option linter.unusedVariables false
set_option linter.unusedSimpArgs false
set_option maxRecDepth 100000

theorem within_any (n lo hi : Int) (w : World) :
    Calls Tryz.prog 49 #[.int .i64 n, .int .i64 lo, .int .i64 hi] w fun e w' => e = .returned (.bool (B (inB n lo hi))) ∧ w = w' := by
  by_cases h1 : lo ≤ n <;> by_cases h2 : n ≤ hi
  all_goals
    go_enter Tryz.func49, Tryz.ntmps49
    go_wp2
    go_ret
    first | exact ⟨ret_t ⟨h1, h2⟩, rfl⟩ | exact ⟨ret_f (fun x => by have := x.1; have := x.2; omega), rfl⟩
theorem isBell_any (n b : Int) (w : World) :
    Calls Tryz.prog 112 #[.int .i64 n, .int .i64 b] w fun e w' => e = .returned (.bool (B (inB b 1 n))) ∧ w = w' := by
  by_cases h1 : 1 ≤ b <;> by_cases h2 : b ≤ n
  all_goals
    go_enter Tryz.func112, Tryz.ntmps112
    go_wp2
    go_ret
    first | exact ⟨ret_t ⟨h1, h2⟩, rfl⟩ | exact ⟨ret_f (fun x => by have := x.1; have := x.2; omega), rfl⟩

/-! ### A text whose bytes are all of a kind -/
def allB (p : Int → Prop) (s : ByteArray) : Prop := ∀ i : Nat, i < s.size → p (bat s i)
def wordByte (b : Int) : Prop := 97 ≤ b ∧ b ≤ 122
def isWordP (s : ByteArray) : Prop := allB wordByte s ∧ 1 ≤ s.size ∧ s.size ≤ 10
def noteByte (b : Int) : Prop := (97 ≤ b ∧ b ≤ 122) ∨ (48 ≤ b ∧ b ≤ 57) ∨ b = 46 ∨ b = 45
def isNoteP (s : ByteArray) : Prop := allB noteByte s ∧ s.size ≤ 20
def callByte (b : Int) : Prop := b = 112 ∨ b = 98 ∨ b = 115








set_option maxHeartbeats 800000 in
theorem isWord_any (s : ByteArray) (w : World) (hs : s.size ≤ 9223372036854775800) :
    Calls Tryz.prog 204 #[.string s] w fun e w' => e = .returned (.bool (B (isWordP s))) ∧ w = w' := by
  go_enter Tryz.func204, Tryz.ntmps204
  go_wp2
  go_loop [6] (fun i => ∃ k : Nat, k ≤ s.size ∧ i = .int .i64 k ∧ (∀ j : Nat, j < k → wordByte (bat s j))) (fun i => s.size - (intOf i).toNat)
  case atStart => exact ⟨0, by omega, by rfl, by omega⟩
  case round =>
    obtain ⟨k, hk, rfl, hp⟩ := hrel
    have Hp := Lib.hid hp
    clear hp
    by_cases hlt : k < s.size
    · have hb0 := bat_lo s k
      have hb1 := bat_hi s k
      have hc : bat s k < 97 ∨ (97 ≤ bat s k ∧ bat s k ≤ 122) ∨ 122 < bat s k := by omega
      rcases hc with h | ⟨h, h'⟩ | h
      all_goals
        skip
        go_wp2
        first
          | (go_ret
             refine ⟨ret_f (fun h => ?_), rfl⟩
             have := h.1 k hlt
             unfold wordByte at this
             omega)
          | (go_round
             case rel =>
               refine ⟨k + 1, by omega, by go_num, fun j hj => ?_⟩
               rcases Nat.lt_or_eq_of_le (Nat.le_of_lt_succ hj) with h' | rfl
               · exact Hp.out j h'
               · unfold wordByte; omega
             case measure => simp [intOf]; omega)
    · obtain rfl : k = s.size := by omega
      by_cases c1 : 1 ≤ s.size
      · by_cases c2 : s.size ≤ 10
        · go_wp2
          go_ret
          exact ⟨by rw [B_t (show isWordP s from ⟨Hp.out, c1, c2⟩)]; (first | (simp; omega) | (simp; done)), rfl⟩
        · go_wp2
          go_ret
          exact ⟨by rw [B_f (show ¬ isWordP s from fun h => c2 h.2.2)]; (first | (simp; omega) | (simp; done)), rfl⟩
      · go_wp2
        go_ret
        exact ⟨by rw [B_f (show ¬ isWordP s from fun h => c1 h.2.1)]; (first | (simp; omega) | (simp; done)), rfl⟩
theorem isWord_t (s : ByteArray) (w : World) (hs : s.size ≤ 9223372036854775800) (h : isWordP s) : Calls Tryz.prog 204 #[.string s] w fun e w' => e = .returned (.bool true) ∧ w = w' := by
  have := isWord_any s w hs; rw [B_t h] at this; exact this
theorem isWord_f (s : ByteArray) (w : World) (hs : s.size ≤ 9223372036854775800) (h : ¬ isWordP s) : Calls Tryz.prog 204 #[.string s] w fun e w' => e = .returned (.bool false) ∧ w = w' := by
  have := isWord_any s w hs; rw [B_f h] at this; exact this
set_option maxHeartbeats 800000 in
theorem l4Name_any (s : ByteArray) (w : World) (hs : s.size ≤ 9223372036854775800) :
    Calls Tryz.prog 203 #[.string s] w fun e w' => e = .returned (.bool (B (isWordP s))) ∧ w = w' := by
  go_enter Tryz.func203, Tryz.ntmps203
  go_wp2
  go_loop [3] (fun i => ∃ k : Nat, k ≤ s.size ∧ i = .int .i64 k ∧ (∀ j : Nat, j < k → wordByte (bat s j))) (fun i => s.size - (intOf i).toNat)
  case atStart => exact ⟨0, by omega, by rfl, by omega⟩
  case round =>
    obtain ⟨k, hk, rfl, hp⟩ := hrel
    have Hp := Lib.hid hp
    clear hp
    by_cases hlt : k < s.size
    · have hb0 := bat_lo s k
      have hb1 := bat_hi s k
      have hc : bat s k < 97 ∨ (97 ≤ bat s k ∧ bat s k ≤ 122) ∨ 122 < bat s k := by omega
      rcases hc with h | ⟨h, h'⟩ | h
      all_goals
        skip
        go_wp2
        first
          | (go_ret
             refine ⟨ret_f (fun h => ?_), rfl⟩
             have := h.1 k hlt
             unfold wordByte at this
             omega)
          | (go_round
             case rel =>
               refine ⟨k + 1, by omega, by go_num, fun j hj => ?_⟩
               rcases Nat.lt_or_eq_of_le (Nat.le_of_lt_succ hj) with h' | rfl
               · exact Hp.out j h'
               · unfold wordByte; omega
             case measure => simp [intOf]; omega)
    · obtain rfl : k = s.size := by omega
      by_cases c1 : 1 ≤ s.size
      · by_cases c2 : s.size ≤ 10
        · go_wp2_with (go_at_call 92; refine (l1In_t _ _ _ _ ⟨by omega, by omega⟩).mono ?_; rintro e w' ⟨rfl, rfl⟩)
          go_ret
          exact ⟨ret_t ⟨Hp.out, c1, c2⟩, rfl⟩
        · go_wp2_with (go_at_call 92; refine (l1In_f _ _ _ _ (fun h => by have := h.2; omega)).mono ?_; rintro e w' ⟨rfl, rfl⟩)
          go_ret
          exact ⟨ret_f (fun h => c2 h.2.2), rfl⟩
      · go_wp2_with (go_at_call 92; refine (l1In_f _ _ _ _ (fun h => by have := h.1; omega)).mono ?_; rintro e w' ⟨rfl, rfl⟩)
        go_ret
        exact ⟨ret_f (fun h => c1 h.2.1), rfl⟩
theorem l4Name_t (s : ByteArray) (w : World) (hs : s.size ≤ 9223372036854775800) (h : isWordP s) : Calls Tryz.prog 203 #[.string s] w fun e w' => e = .returned (.bool true) ∧ w = w' := by
  have := l4Name_any s w hs; rw [B_t h] at this; exact this
theorem l4Name_f (s : ByteArray) (w : World) (hs : s.size ≤ 9223372036854775800) (h : ¬ isWordP s) : Calls Tryz.prog 203 #[.string s] w fun e w' => e = .returned (.bool false) ∧ w = w' := by
  have := l4Name_any s w hs; rw [B_f h] at this; exact this

/-! ### calls and touches -/
theorem extract_one (s : ByteArray) (k : Nat) (h : k < s.size) : (s.extract k (k + 1)).toList = [s.data.toList[k]'(by have := size_len s; omega)] := by
  rw [ByteArray.toList_eq, ByteArray.data_extract, Array.toList_extract]
  have h2 : k < s.data.toList.length := h
  rw [List.extract_eq_take_drop, List.drop_eq_getElem_cons h2]
  simp
theorem bat_elem (s : ByteArray) (k : Nat) (h : k < s.data.toList.length) : bat s k = ((s.data.toList[k]).toNat : Int) := by
  unfold bat; rw [Int.toNat_natCast, List.getD_eq_getElem?_getD, List.getElem?_eq_getElem h]; rfl
/-- A text of one letter that is a call. -/
def isCallP (s : ByteArray) : Prop := s.toList = [112] ∨ s.toList = [98] ∨ s.toList = [115]
theorem isCall_ext (s : ByteArray) (k : Nat) (h : k < s.size) : isCallP (s.extract k (k + 1)) ↔ callByte (bat s k) := by
  unfold isCallP callByte
  rw [extract_one s k h, bat_elem s k h]
  generalize s.data.toList[k]'(by have := size_len s; omega) = c
  have h1 : ∀ d : UInt8, ([c] = [d]) ↔ (c.toNat : Int) = (d.toNat : Int) := fun d => by
    constructor
    · intro h; injection h with h; rw [h]
    · intro h; rw [show c = d from UInt8.toNat_inj.1 (by omega)]
  rw [h1, h1, h1]
  rfl

theorem isCall_any (s : ByteArray) (w : World) :
    Calls Tryz.prog 208 #[.string s] w fun e w' => e = .returned (.bool (B (isCallP s))) ∧ w = w' := by
  by_cases h1 : s.toList = [112]
  · have e1 : (s.toList == [112]) = true := by simpa using h1
    have H := Lib.hid h1
    clear h1
    go_enter Tryz.func208, Tryz.ntmps208
    go_wp2
    go_ret
    exact ⟨ret_t (.inl H.out), rfl⟩
  · by_cases h2 : s.toList = [98]
    · have e1 : (s.toList == [112]) = false := by simpa using h1
      have e2 : (s.toList == [98]) = true := by simpa using h2
      have H := Lib.hid h2
      clear h1 h2
      go_enter Tryz.func208, Tryz.ntmps208
      go_wp2
      go_ret
      exact ⟨ret_t (.inr (.inl H.out)), rfl⟩
    · by_cases h3 : s.toList = [115]
      · have e1 : (s.toList == [112]) = false := by simpa using h1
        have e2 : (s.toList == [98]) = false := by simpa using h2
        have e3 : (s.toList == [115]) = true := by simpa using h3
        have H := Lib.hid h3
        clear h1 h2 h3
        go_enter Tryz.func208, Tryz.ntmps208
        go_wp2
        go_ret
        exact ⟨ret_t (.inr (.inr H.out)), rfl⟩
      · have e1 : (s.toList == [112]) = false := by simpa using h1
        have e2 : (s.toList == [98]) = false := by simpa using h2
        have e3 : (s.toList == [115]) = false := by simpa using h3
        have H : Hid (¬ isCallP s) := Lib.hid (fun h => by rcases h with h | h | h; exact h1 h; exact h2 h; exact h3 h)
        clear h1 h2 h3
        go_enter Tryz.func208, Tryz.ntmps208
        go_wp2
        go_ret
        exact ⟨ret_f H.out, rfl⟩
theorem l8Call_any (s : ByteArray) (w : World) :
    Calls Tryz.prog 185 #[.string s] w fun e w' => e = .returned (.bool (B (isCallP s))) ∧ w = w' := by
  by_cases h1 : s.toList = [112]
  · have e1 : (s.toList == [112]) = true := by simpa using h1
    have H := Lib.hid h1
    clear h1
    go_enter Tryz.func185, Tryz.ntmps185
    go_wp2
    go_ret
    exact ⟨ret_t (.inl H.out), rfl⟩
  · by_cases h2 : s.toList = [98]
    · have e1 : (s.toList == [112]) = false := by simpa using h1
      have e2 : (s.toList == [98]) = true := by simpa using h2
      have H := Lib.hid h2
      clear h1 h2
      go_enter Tryz.func185, Tryz.ntmps185
      go_wp2
      go_ret
      exact ⟨ret_t (.inr (.inl H.out)), rfl⟩
    · by_cases h3 : s.toList = [115]
      · have e1 : (s.toList == [112]) = false := by simpa using h1
        have e2 : (s.toList == [98]) = false := by simpa using h2
        have e3 : (s.toList == [115]) = true := by simpa using h3
        have H := Lib.hid h3
        clear h1 h2 h3
        go_enter Tryz.func185, Tryz.ntmps185
        go_wp2
        go_ret
        exact ⟨ret_t (.inr (.inr H.out)), rfl⟩
      · have e1 : (s.toList == [112]) = false := by simpa using h1
        have e2 : (s.toList == [98]) = false := by simpa using h2
        have e3 : (s.toList == [115]) = false := by simpa using h3
        have H : Hid (¬ isCallP s) := Lib.hid (fun h => by rcases h with h | h | h; exact h1 h; exact h2 h; exact h3 h)
        clear h1 h2 h3
        go_enter Tryz.func185, Tryz.ntmps185
        go_wp2
        go_ret
        exact ⟨ret_f H.out, rfl⟩
def areCallsP (s : ByteArray) : Prop := allB callByte s
def touchP (s : ByteArray) : Prop := areCallsP s ∧ 1 ≤ s.size ∧ s.size ≤ 60
theorem areCalls_any (s : ByteArray) (w : World) (hs : s.size ≤ 9223372036854775800) :
    Calls Tryz.prog 176 #[.string s] w fun e w' => e = .returned (.bool (B (areCallsP s))) ∧ w = w' := by
  go_enter Tryz.func176, Tryz.ntmps176
  go_wp2
  go_loop [6] (fun i => ∃ k : Nat, k ≤ s.size ∧ i = .int .i64 k ∧ (∀ j : Nat, j < k → callByte (bat s j))) (fun i => s.size - (intOf i).toNat)
  case atStart => exact ⟨0, by omega, by rfl, by omega⟩
  case round =>
    obtain ⟨k, hk, rfl, hp⟩ := hrel
    have Hp := Lib.hid hp
    clear hp
    by_cases hlt : k < s.size
    · by_cases hc : callByte (bat s k)
      · have e1 : B (isCallP (s.extract k (k + 1))) = true := B_t ((isCall_ext s k hlt).2 hc)
        have Hc := Lib.hid hc
        clear hc
        go_wp2_with (go_at_call 208; refine (isCall_any _ _).mono ?_; rintro e w' ⟨rfl, rfl⟩)
        go_round
        case rel =>
          refine ⟨k + 1, by omega, by go_num, fun j hj => ?_⟩
          rcases Nat.lt_or_eq_of_le (Nat.le_of_lt_succ hj) with h' | rfl
          · exact Hp.out j h'
          · exact Hc.out
        case measure => simp [intOf]; omega
      · have e1 : B (isCallP (s.extract k (k + 1))) = false := B_f (fun h => hc ((isCall_ext s k hlt).1 h))
        have Hc := Lib.hid hc
        clear hc
        go_wp2_with (go_at_call 208; refine (isCall_any _ _).mono ?_; rintro e w' ⟨rfl, rfl⟩)
        go_ret
        exact ⟨ret_f (fun h => Hc.out (h k hlt)), rfl⟩
    · obtain rfl : k = s.size := by omega
      go_wp2
      go_ret
      exact ⟨ret_t Hp.out, rfl⟩
theorem touch_any (s : ByteArray) (w : World) (hs : s.size ≤ 9223372036854775800) :
    Calls Tryz.prog 130 #[.string s] w fun e w' => e = .returned (.bool (B (touchP s))) ∧ w = w' := by
  by_cases c1 : 1 ≤ s.size
  · by_cases c2 : s.size ≤ 60
    · by_cases c3 : areCallsP s
      · have e1 := B_t c3
        have C := Lib.hid c3
        clear c3
        go_enter Tryz.func130, Tryz.ntmps130
        go_wp2_with (go_at_call 176; refine (areCalls_any _ _ hs).mono ?_; rintro e w' ⟨rfl, rfl⟩)
        go_ret
        exact ⟨ret_t ⟨C.out, c1, c2⟩, rfl⟩
      · have e1 := B_f c3
        have C := Lib.hid c3
        clear c3
        go_enter Tryz.func130, Tryz.ntmps130
        go_wp2_with (go_at_call 176; refine (areCalls_any _ _ hs).mono ?_; rintro e w' ⟨rfl, rfl⟩)
        go_ret
        exact ⟨ret_f (fun h => C.out h.1), rfl⟩
    · go_enter Tryz.func130, Tryz.ntmps130
      go_wp2
      go_ret
      exact ⟨ret_f (fun h => c2 h.2.2), rfl⟩
  · go_enter Tryz.func130, Tryz.ntmps130
    go_wp2
    go_ret
    exact ⟨ret_f (fun h => c1 h.2.1), rfl⟩
theorem l9Good_any (s : ByteArray) (w : World) (hs : s.size ≤ 9223372036854775800) :
    Calls Tryz.prog 139 #[.string s] w fun e w' => e = .returned (.bool (B (touchP s))) ∧ w = w' := by
  go_enter Tryz.func139, Tryz.ntmps139
  go_wp2
  go_loop [3] (fun i => ∃ k : Nat, k ≤ s.size ∧ i = .int .i64 k ∧ (∀ j : Nat, j < k → callByte (bat s j))) (fun i => s.size - (intOf i).toNat)
  case atStart => exact ⟨0, by omega, by rfl, by omega⟩
  case round =>
    obtain ⟨k, hk, rfl, hp⟩ := hrel
    have Hp := Lib.hid hp
    clear hp
    by_cases hlt : k < s.size
    · by_cases hc : callByte (bat s k)
      · have e1 : B (isCallP (s.extract k (k + 1))) = true := B_t ((isCall_ext s k hlt).2 hc)
        have Hc := Lib.hid hc
        clear hc
        go_wp2_with (go_at_call 185; refine (l8Call_any _ _).mono ?_; rintro e w' ⟨rfl, rfl⟩)
        go_round
        case rel =>
          refine ⟨k + 1, by omega, by go_num, fun j hj => ?_⟩
          rcases Nat.lt_or_eq_of_le (Nat.le_of_lt_succ hj) with h' | rfl
          · exact Hp.out j h'
          · exact Hc.out
        case measure => simp [intOf]; omega
      · have e1 : B (isCallP (s.extract k (k + 1))) = false := B_f (fun h => hc ((isCall_ext s k hlt).1 h))
        have Hc := Lib.hid hc
        clear hc
        go_wp2_with (go_at_call 185; refine (l8Call_any _ _).mono ?_; rintro e w' ⟨rfl, rfl⟩)
        go_ret
        exact ⟨ret_f (fun h => Hc.out (h.1 k hlt)), rfl⟩
    · obtain rfl : k = s.size := by omega
      by_cases c1 : 1 ≤ s.size
      · by_cases c2 : s.size ≤ 60
        · go_wp2_with (go_at_call 92; refine (l1In_t _ _ _ _ ⟨by omega, by omega⟩).mono ?_; rintro e w' ⟨rfl, rfl⟩)
          go_ret
          exact ⟨ret_t ⟨Hp.out, c1, c2⟩, rfl⟩
        · go_wp2_with (go_at_call 92; refine (l1In_f _ _ _ _ (fun h => by have := h.2; omega)).mono ?_; rintro e w' ⟨rfl, rfl⟩)
          go_ret
          exact ⟨ret_f (fun h => c2 h.2.2), rfl⟩
      · go_wp2_with (go_at_call 92; refine (l1In_f _ _ _ _ (fun h => by have := h.1; omega)).mono ?_; rintro e w' ⟨rfl, rfl⟩)
        go_ret
        exact ⟨ret_f (fun h => c1 h.2.1), rfl⟩
end Go.Proofs.YtbfhfnejppfehaaGreat

/-
  Contracts: valid changes, methods and calls (both sides).
-/
namespace Go.Proofs.YtbfhfnejppfehaaGreat
open Go.RowKit
set_option linter.unusedVariables false
set_option linter.unusedSimpArgs false
set_option maxRecDepth 100000

theorem dgL_len (c : ByteArray) : (dgL c).length = c.size := by simp [dgL]
theorem dgL_at (c : ByteArray) (i : Nat) (hi : i < (dgL c).length) : (dgL c)[i] = dg c i := by simp [dgL]
theorem apP_dg (n : Int) (c : ByteArray) : apP n (dgL c) ↔ 0 < c.size ∧ (c.size : Int) ≠ n ∧ dg c 0 % 2 ≠ 0 ∧ dg c (c.size - 1) % 2 = n % 2 ∧ dg c (c.size - 1) ≤ n ∧ ∀ i : Nat, i + 1 < c.size → dg c i < dg c (i + 1) ∧ (dg c (i + 1) - dg c i) % 2 ≠ 0 := by
  unfold apP
  constructor
  · rintro ⟨h, h1, h2, h3, h4, h5⟩
    simp only [dgL_at, dgL_len] at h h1 h2 h3 h4 h5
    exact ⟨h, h1, h2, h3, h4, h5⟩
  · rintro ⟨h, h1, h2, h3, h4, h5⟩
    refine ⟨by rw [dgL_len]; exact h, ?_⟩
    simp only [dgL_at, dgL_len]
    exact ⟨h1, h2, h3, h4, h5⟩
theorem change_iff {n : Int} {c : ByteArray} (h : inB n 3 8) : (0 < c.size ∧ (c.size : Int) ≤ n - 2 ∧ chainP n c) ↔ (digsP c ∧ apP n (dgL c)) := by
  obtain ⟨hn3, hn8⟩ := h
  rw [apP_dg]
  constructor
  · rintro ⟨h0, h1, h2, h3⟩
    have hs : ∀ i, i < c.size → 1 ≤ dg c i ∧ dg c i ≤ n := fun i hi => by
      have hb := steps_bound i (fun j hj => h2 j (by omega))
      obtain ⟨a1, a2, _⟩ := h2 i hi
      omega
    have hl : dgP c c.size = dg c (c.size - 1) := by
      obtain ⟨m, hm⟩ : ∃ m, c.size = m + 1 := ⟨c.size - 1, by omega⟩
      rw [hm]; rfl
    rw [hl] at h3
    have hz := h2 0 h0
    have hlast := hs (c.size - 1) (by omega)
    refine ⟨fun i hi => by have := hs i hi; unfold dg at this; omega, h0, by omega, ?_, by omega, hlast.2, fun i hi => ?_⟩
    · have := hz.2.2; simp only [dgP] at this; omega
    · obtain ⟨a1, _, a3⟩ := h2 (i + 1) hi
      exact ⟨a1, a3⟩
  · rintro ⟨hd, h0, h1, h2, h3, h4, h5⟩
    have hge : ∀ i : Nat, i < c.size → (i : Int) + 1 ≤ dg c i ∧ dg c i % 2 = ((i : Int) + 1) % 2 := fun i => by
      induction i with
      | zero => intro _; have := hd 0 h0; unfold dg at h2 ⊢; constructor <;> omega
      | succ i ih =>
        intro hi
        obtain ⟨a1, a2⟩ := ih (by omega)
        obtain ⟨a3, a4⟩ := h5 i hi
        push_cast
        constructor <;> omega
    have hle : ∀ m i : Nat, i + m = c.size - 1 → dg c i ≤ n := fun m => by
      induction m with
      | zero => intro i hi; rw [show i = c.size - 1 from by omega]; exact h4
      | succ m ih =>
        intro i hi
        have := ih (i + 1) (by omega)
        have := (h5 i (by omega)).1
        omega
    have hl := hge (c.size - 1) (by omega)
    have hlP : dgP c c.size = dg c (c.size - 1) := by
      obtain ⟨m, hm⟩ : ∃ m, c.size = m + 1 := ⟨c.size - 1, by omega⟩
      rw [hm]; rfl
    refine ⟨h0, by omega, fun i hi => ⟨?_, hle (c.size - 1 - i) i (by omega), ?_⟩, by rw [hlP]; omega⟩
    · cases i with
      | zero => have := (hge 0 h0).1; simp only [dgP]; omega
      | succ i => simp only [dgP]; exact (h5 i hi).1
    · cases i with
      | zero => simp only [dgP]; omega
      | succ i => simp only [dgP]; exact (h5 i hi).2
set_option maxHeartbeats 1600000 in
theorem goodChange_any (n : Int) (c : ByteArray) (w : World) (hc : c.size ≤ 1048576) :
    Calls Tryz.prog 175 #[.int .i64 n, .string c] w fun e w' => e = .returned (.bool (B (changeP n c))) ∧ Below w.heap.size w w' := by
  by_cases h1 : inB n 3 8
  · have hci := change_iff (c := c) h1
    obtain ⟨h11, h12⟩ := h1
    by_cases hd : c = dash
    · have hd2 : (c.toList == [45]) = true := by rw [hd, ByteArray.toList_eq]; rfl
      have Hd := Lib.hid hd
      clear hd hci
      by_cases hn : n % 2 = 0
      all_goals
        go_enter Tryz.func175, Tryz.ntmps175
        go_wp2_with (go_at_call 105; refine (isStage_t n _ h11 h12).mono ?_; rintro e w' ⟨rfl, rfl⟩)
        go_ret
        first
          | exact ⟨by rw [B_t (show changeP n c from ⟨⟨h11, h12⟩, .inl ⟨Hd.out, hn⟩⟩)]; simp [hn], Below.refl _ _⟩
          | exact ⟨by rw [B_f (show ¬ changeP n c from fun h => by
              rcases h.2 with ⟨_, h2⟩ | ⟨h2, _⟩
              · exact hn h2
              · exact h2 Hd.out)]; simp [hn], Below.refl _ _⟩
    · have hd2 := toList_dash hd
      have hch : Hid (changeP n c ↔ digsP c ∧ apP n (dgL c)) := Lib.hid ⟨fun h => by
        rcases h.2 with ⟨h2, _⟩ | ⟨_, h2⟩
        · exact absurd h2 hd
        · exact hci.1 h2, fun h => ⟨⟨h11, h12⟩, .inr ⟨hd, hci.2 h⟩⟩⟩
      clear hd hci
      by_cases hp : digsP c
      · have HP := Lib.hid hp
        have hel : Hid (∀ x ∈ dgL c, 1 ≤ x ∧ x ≤ 8) := Lib.hid (fun x hx => by
          obtain ⟨i, hi, rfl⟩ := List.getElem_of_mem hx
          rw [dgL_at]
          have := hp i (by rw [dgL_len] at hi; exact hi)
          unfold dg; omega)
        have hll : (dgL c).length ≤ 1048576 := by rw [dgL_len]; exact hc
        obtain ⟨L, hL⟩ : ∃ L, Hid (dgL c = L) := ⟨_, Lib.hid rfl⟩
        have hpt := fun W => places_t c W hc HP.out
        rw [hL.out] at hel hll hch hpt
        have Hpt := Lib.hid hpt
        clear hp hpt
        by_cases ha : apP n L
        all_goals
          first | have e2 := B_t ha | have e2 := B_f ha
          have Ha := Lib.hid ha
          clear ha
          go_enter Tryz.func175, Tryz.ntmps175
          go_wp2_with (first | (go_at_call 105; refine (isStage_t n _ h11 h12).mono ?_; rintro e w' ⟨rfl, rfl⟩) | (go_at_call 206; refine (Hpt.out _).mono ?_; rintro e w1 ⟨A, c2, rfl, ho, hb1⟩; have Ho := Lib.hid ho; clear ho) | (go_at_call 207; refine (arePlaces_any n L _ _ _ (Ho.out.rd encInt_len) hll ⟨by omega, h12⟩ hel.out).mono ?_; rintro e w2 ⟨rfl, hb2⟩))
          go_ret
          first
            | exact ⟨ret_t (hch.out.2 ⟨HP.out, Ha.out⟩), hb1.trans (hb2.mono hb1.size)⟩
            | exact ⟨ret_f (fun h => Ha.out (hch.out.1 h).2), hb1.trans (hb2.mono hb1.size)⟩
            | exact ⟨by show Ending.returned (Value.bool (B (apP n L))) = Ending.returned (Value.bool (B (changeP n c))); rw [B_t Ha.out, B_t (hch.out.2 ⟨HP.out, Ha.out⟩)], hb1.trans (hb2.mono hb1.size)⟩
            | exact ⟨by show Ending.returned (Value.bool (B (apP n L))) = Ending.returned (Value.bool (B (changeP n c))); rw [B_f Ha.out, B_f (fun h => Ha.out (hch.out.1 h).2)], hb1.trans (hb2.mono hb1.size)⟩
      · have HP := Lib.hid hp
        have hpf := fun W => places_f c W hc hp
        have Hpf := Lib.hid hpf
        clear hp hpf
        go_enter Tryz.func175, Tryz.ntmps175
        go_wp2_with (first | (go_at_call 105; refine (isStage_t n _ h11 h12).mono ?_; rintro e w' ⟨rfl, rfl⟩) | (go_at_call 206; refine (Hpf.out _).mono ?_; rintro e w1 ⟨rfl, hb1⟩))
        go_ret
        exact ⟨ret_f (fun h => HP.out (hch.out.1 h).1), hb1⟩
  · have h2 : Hid (n < 3 ∨ 8 < n) := Lib.hid (by unfold inB at h1; omega)
    have H1 := Lib.hid h1
    clear h1
    go_enter Tryz.func175, Tryz.ntmps175
    go_wp2_with (go_at_call 105; refine (isStage_f n _ h2.out).mono ?_; rintro e w' ⟨rfl, rfl⟩)
    go_ret
    exact ⟨ret_f (fun h => H1.out h.1), Below.refl _ _⟩
end Go.Proofs.YtbfhfnejppfehaaGreat
