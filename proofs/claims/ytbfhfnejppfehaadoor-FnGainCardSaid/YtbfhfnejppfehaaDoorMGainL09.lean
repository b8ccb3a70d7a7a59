import Derived.Test.YtbfhfnejppfehaaDoorMGainL08
/-
  Contracts: words, notes, calls and touches as texts (both sides).
-/
namespace Go.Proofs.YtbfhfnejppfehaaDoor
open Go.RowKit
set_option linter.unusedVariables false
set_option linter.unusedSimpArgs false
set_option maxRecDepth 100000

theorem within_any (n lo hi : Int) (w : World) :
    Calls Tryd.prog 85 #[.int .i64 n, .int .i64 lo, .int .i64 hi] w fun e w' => e = .returned (.bool (B (inB n lo hi))) ∧ w = w' := by
  by_cases h1 : lo ≤ n <;> by_cases h2 : n ≤ hi
  all_goals
    go_enter Tryd.func85, Tryd.ntmps85
    go_wp2
    go_ret
    first | exact ⟨ret_t ⟨h1, h2⟩, rfl⟩ | exact ⟨ret_f (fun x => by have := x.1; have := x.2; omega), rfl⟩
theorem isBell_any (n b : Int) (w : World) :
    Calls Tryd.prog 43 #[.int .i64 n, .int .i64 b] w fun e w' => e = .returned (.bool (B (inB b 1 n))) ∧ w = w' := by
  by_cases h1 : 1 ≤ b <;> by_cases h2 : b ≤ n
  all_goals
    go_enter Tryd.func43, Tryd.ntmps43
    go_wp2
    go_ret
    first | exact ⟨ret_t ⟨h1, h2⟩, rfl⟩ | exact ⟨ret_f (fun x => by have := x.1; have := x.2; omega), rfl⟩

/-! ### A text whose bytes are all of a kind -/
def allB (p : Int → Prop) (s : ByteArray) : Prop := ∀ i : Nat, i < s.size → p (bat s i)
def wordByte (b : Int) : Prop := 97 ≤ b ∧ b ≤ 122
def isWordP (s : ByteArray) : Prop := allB wordByte s ∧ 1 ≤ s.size ∧ s.size ≤ 10
def noteByte (b : Int) : Prop := (97 ≤ b ∧ b ≤ 122) ∨ (48 ≤ b ∧ b ≤ 57) ∨ b = 46 ∨ b = 45
def isNoteP (s : ByteArray) : Prop := allB noteByte s ∧ s.size ≤ 20
def callByte (b : Int) : Prop := b = 112 ∨ b = 98 ∨ b = 115








set_option maxHeartbeats 800000 in
theorem isWord_any (s : ByteArray) (w : World) (hs : s.size ≤ 9223372036854775800) :
    Calls Tryd.prog 93 #[.string s] w fun e w' => e = .returned (.bool (B (isWordP s))) ∧ w = w' := by
  go_enter Tryd.func93, Tryd.ntmps93
  go_wp2
  go_loop [6] (fun i => ∃ k : Nat, k ≤ s.size ∧ i = .int .i64 k ∧ (∀ j : Nat, j < k → wordByte (bat s j))) (fun i => s.size - (intOf i).toNat)
  case atStart => exact ⟨0, by omega, by rfl, by omega⟩
  case round =>
    obtain ⟨k, hk, rfl, hp⟩ := hrel
    have Hp := Lib.hid hp
    clear hp
    by_cases hlt : k < s.size
    · have hb0 := bat_lo s k
      have hb1 := bat_hi s k
      have hc : bat s k < 97 ∨ (97 ≤ bat s k ∧ bat s k ≤ 122) ∨ 122 < bat s k := by omega
      rcases hc with h | ⟨h, h'⟩ | h
      all_goals
        skip
        go_wp2
        first
          | (go_ret
             refine ⟨ret_f (fun h => ?_), rfl⟩
             have := h.1 k hlt
             unfold wordByte at this
             omega)
          | (go_round
             case rel =>
               refine ⟨k + 1, by omega, by go_num, fun j hj => ?_⟩
               rcases Nat.lt_or_eq_of_le (Nat.le_of_lt_succ hj) with h' | rfl
               · exact Hp.out j h'
               · unfold wordByte; omega
             case measure => simp [intOf]; omega)
    · obtain rfl : k = s.size := by omega
      by_cases c1 : 1 ≤ s.size
      · by_cases c2 : s.size ≤ 10
        · go_wp2
          go_ret
          exact ⟨by rw [B_t (show isWordP s from ⟨Hp.out, c1, c2⟩)]; (first | (simp; omega) | (simp; done)), rfl⟩
        · go_wp2
          go_ret
          exact ⟨by rw [B_f (show ¬ isWordP s from fun h => c2 h.2.2)]; (first | (simp; omega) | (simp; done)), rfl⟩
      · go_wp2
        go_ret
        exact ⟨by rw [B_f (show ¬ isWordP s from fun h => c1 h.2.1)]; (first | (simp; omega) | (simp; done)), rfl⟩
theorem isWord_t (s : ByteArray) (w : World) (hs : s.size ≤ 9223372036854775800) (h : isWordP s) : Calls Tryd.prog 93 #[.string s] w fun e w' => e = .returned (.bool true) ∧ w = w' := by
  have := isWord_any s w hs; rw [B_t h] at this; exact this
theorem isWord_f (s : ByteArray) (w : World) (hs : s.size ≤ 9223372036854775800) (h : ¬ isWordP s) : Calls Tryd.prog 93 #[.string s] w fun e w' => e = .returned (.bool false) ∧ w = w' := by
  have := isWord_any s w hs; rw [B_f h] at this; exact this
set_option maxHeartbeats 800000 in
theorem l4Name_any (s : ByteArray) (w : World) (hs : s.size ≤ 9223372036854775800) :
    Calls Tryd.prog 66 #[.string s] w fun e w' => e = .returned (.bool (B (isWordP s))) ∧ w = w' := by
  go_enter Tryd.func66, Tryd.ntmps66
  go_wp2
  go_loop [3] (fun i => ∃ k : Nat, k ≤ s.size ∧ i = .int .i64 k ∧ (∀ j : Nat, j < k → wordByte (bat s j))) (fun i => s.size - (intOf i).toNat)
  case atStart => exact ⟨0, by omega, by rfl, by omega⟩
  case round =>
    obtain ⟨k, hk, rfl, hp⟩ := hrel
    have Hp := Lib.hid hp
    clear hp
    by_cases hlt : k < s.size
    · have hb0 := bat_lo s k
      have hb1 := bat_hi s k
      have hc : bat s k < 97 ∨ (97 ≤ bat s k ∧ bat s k ≤ 122) ∨ 122 < bat s k := by omega
      rcases hc with h | ⟨h, h'⟩ | h
      all_goals
        skip
        go_wp2
        first
          | (go_ret
             refine ⟨ret_f (fun h => ?_), rfl⟩
             have := h.1 k hlt
             unfold wordByte at this
             omega)
          | (go_round
             case rel =>
               refine ⟨k + 1, by omega, by go_num, fun j hj => ?_⟩
               rcases Nat.lt_or_eq_of_le (Nat.le_of_lt_succ hj) with h' | rfl
               · exact Hp.out j h'
               · unfold wordByte; omega
             case measure => simp [intOf]; omega)
    · obtain rfl : k = s.size := by omega
      by_cases c1 : 1 ≤ s.size
      · by_cases c2 : s.size ≤ 10
        · go_wp2_with (go_at_call 48; refine (l1In_t _ _ _ _ ⟨by omega, by omega⟩).mono ?_; rintro e w' ⟨rfl, rfl⟩)
          go_ret
          exact ⟨ret_t ⟨Hp.out, c1, c2⟩, rfl⟩
        · go_wp2_with (go_at_call 48; refine (l1In_f _ _ _ _ (fun h => by have := h.2; omega)).mono ?_; rintro e w' ⟨rfl, rfl⟩)
          go_ret
          exact ⟨ret_f (fun h => c2 h.2.2), rfl⟩
      · go_wp2_with (go_at_call 48; refine (l1In_f _ _ _ _ (fun h => by have := h.1; omega)).mono ?_; rintro e w' ⟨rfl, rfl⟩)
        go_ret
        exact ⟨ret_f (fun h => c1 h.2.1), rfl⟩
theorem l4Name_t (s : ByteArray) (w : World) (hs : s.size ≤ 9223372036854775800) (h : isWordP s) : Calls Tryd.prog 66 #[.string s] w fun e w' => e = .returned (.bool true) ∧ w = w' := by
  have := l4Name_any s w hs; rw [B_t h] at this; exact this
theorem l4Name_f (s : ByteArray) (w : World) (hs : s.size ≤ 9223372036854775800) (h : ¬ isWordP s) : Calls Tryd.prog 66 #[.string s] w fun e w' => e = .returned (.bool false) ∧ w = w' := by
  have := l4Name_any s w hs; rw [B_f h] at this; exact this

/-! ### calls and touches -/
theorem extract_one (s : ByteArray) (k : Nat) (h : k < s.size) : (s.extract k (k + 1)).toList = [s.data.toList[k]'(by have := size_len s; omega)] := by
  rw [ByteArray.toList_eq, ByteArray.data_extract, Array.toList_extract]
  have h2 : k < s.data.toList.length := h
  rw [List.extract_eq_take_drop, List.drop_eq_getElem_cons h2]
  simp
theorem bat_elem (s : ByteArray) (k : Nat) (h : k < s.data.toList.length) : bat s k = ((s.data.toList[k]).toNat : Int) := by
  unfold bat; rw [Int.toNat_natCast, List.getD_eq_getElem?_getD, List.getElem?_eq_getElem h]; rfl
/-- A text of one letter that is a call. -/
def isCallP (s : ByteArray) : Prop := s.toList = [112] ∨ s.toList = [98] ∨ s.toList = [115]
theorem isCall_ext (s : ByteArray) (k : Nat) (h : k < s.size) : isCallP (s.extract k (k + 1)) ↔ callByte (bat s k) := by
  unfold isCallP callByte
  rw [extract_one s k h, bat_elem s k h]
  generalize s.data.toList[k]'(by have := size_len s; omega) = c
  have h1 : ∀ d : UInt8, ([c] = [d]) ↔ (c.toNat : Int) = (d.toNat : Int) := fun d => by
    constructor
    · intro h; injection h with h; rw [h]
    · intro h; rw [show c = d from UInt8.toNat_inj.1 (by omega)]
  rw [h1, h1, h1]
  rfl

theorem isCall_any (s : ByteArray) (w : World) :
    Calls Tryd.prog 108 #[.string s] w fun e w' => e = .returned (.bool (B (isCallP s))) ∧ w = w' := by
  by_cases h1 : s.toList = [112]
  · have e1 : (s.toList == [112]) = true := by simpa using h1
    have H := Lib.hid h1
    clear h1
    go_enter Tryd.func108, Tryd.ntmps108
    go_wp2
    go_ret
    exact ⟨ret_t (.inl H.out), rfl⟩
  · by_cases h2 : s.toList = [98]
    · have e1 : (s.toList == [112]) = false := by simpa using h1
      have e2 : (s.toList == [98]) = true := by simpa using h2
      have H := Lib.hid h2
      clear h1 h2
      go_enter Tryd.func108, Tryd.ntmps108
      go_wp2
      go_ret
      exact ⟨ret_t (.inr (.inl H.out)), rfl⟩
    · by_cases h3 : s.toList = [115]
      · have e1 : (s.toList == [112]) = false := by simpa using h1
        have e2 : (s.toList == [98]) = false := by simpa using h2
        have e3 : (s.toList == [115]) = true := by simpa using h3
        have H := Lib.hid h3
        clear h1 h2 h3
        go_enter Tryd.func108, Tryd.ntmps108
        go_wp2
        go_ret
        exact ⟨ret_t (.inr (.inr H.out)), rfl⟩
      · have e1 : (s.toList == [112]) = false := by simpa using h1
        have e2 : (s.toList == [98]) = false := by simpa using h2
        have e3 : (s.toList == [115]) = false := by simpa using h3
        have H : Hid (¬ isCallP s) := Lib.hid (fun h => by rcases h with h | h | h; exact h1 h; exact h2 h; exact h3 h)
        clear h1 h2 h3
        go_enter Tryd.func108, Tryd.ntmps108
        go_wp2
        go_ret
        exact ⟨ret_f H.out, rfl⟩
theorem l8Call_any (s : ByteArray) (w : World) :
    Calls Tryd.prog 98 #[.string s] w fun e w' => e = .returned (.bool (B (isCallP s))) ∧ w = w' := by
  by_cases h1 : s.toList = [112]
  · have e1 : (s.toList == [112]) = true := by simpa using h1
    have H := Lib.hid h1
    clear h1
    go_enter Tryd.func98, Tryd.ntmps98
    go_wp2
    go_ret
    exact ⟨ret_t (.inl H.out), rfl⟩
  · by_cases h2 : s.toList = [98]
    · have e1 : (s.toList == [112]) = false := by simpa using h1
      have e2 : (s.toList == [98]) = true := by simpa using h2
      have H := Lib.hid h2
      clear h1 h2
      go_enter Tryd.func98, Tryd.ntmps98
      go_wp2
      go_ret
      exact ⟨ret_t (.inr (.inl H.out)), rfl⟩
    · by_cases h3 : s.toList = [115]
      · have e1 : (s.toList == [112]) = false := by simpa using h1
        have e2 : (s.toList == [98]) = false := by simpa using h2
        have e3 : (s.toList == [115]) = true := by simpa using h3
        have H := Lib.hid h3
        clear h1 h2 h3
        go_enter Tryd.func98, Tryd.ntmps98
        go_wp2
        go_ret
        exact ⟨ret_t (.inr (.inr H.out)), rfl⟩
      · have e1 : (s.toList == [112]) = false := by simpa using h1
        have e2 : (s.toList == [98]) = false := by simpa using h2
        have e3 : (s.toList == [115]) = false := by simpa using h3
        have H : Hid (¬ isCallP s) := Lib.hid (fun h => by rcases h with h | h | h; exact h1 h; exact h2 h; exact h3 h)
        clear h1 h2 h3
        go_enter Tryd.func98, Tryd.ntmps98
        go_wp2
        go_ret
        exact ⟨ret_f H.out, rfl⟩
theorem l24Call_any (s : ByteArray) (w : World) :
    Calls Tryd.prog 100 #[.string s] w fun e w' => e = .returned (.bool (B (isCallP s))) ∧ w = w' := by
  by_cases h1 : s.toList = [112]
  · have e1 : (s.toList == [112]) = true := by simpa using h1
    have H := Lib.hid h1
    clear h1
    go_enter Tryd.func100, Tryd.ntmps100
    go_wp2
    go_ret
    exact ⟨ret_t (.inl H.out), rfl⟩
  · by_cases h2 : s.toList = [98]
    · have e1 : (s.toList == [112]) = false := by simpa using h1
      have e2 : (s.toList == [98]) = true := by simpa using h2
      have H := Lib.hid h2
      clear h1 h2
      go_enter Tryd.func100, Tryd.ntmps100
      go_wp2
      go_ret
      exact ⟨ret_t (.inr (.inl H.out)), rfl⟩
    · by_cases h3 : s.toList = [115]
      · have e1 : (s.toList == [112]) = false := by simpa using h1
        have e2 : (s.toList == [98]) = false := by simpa using h2
        have e3 : (s.toList == [115]) = true := by simpa using h3
        have H := Lib.hid h3
        clear h1 h2 h3
        go_enter Tryd.func100, Tryd.ntmps100
        go_wp2
        go_ret
        exact ⟨ret_t (.inr (.inr H.out)), rfl⟩
      · have e1 : (s.toList == [112]) = false := by simpa using h1
        have e2 : (s.toList == [98]) = false := by simpa using h2
        have e3 : (s.toList == [115]) = false := by simpa using h3
        have H : Hid (¬ isCallP s) := Lib.hid (fun h => by rcases h with h | h | h; exact h1 h; exact h2 h; exact h3 h)
        clear h1 h2 h3
        go_enter Tryd.func100, Tryd.ntmps100
        go_wp2
        go_ret
        exact ⟨ret_f H.out, rfl⟩
def areCallsP (s : ByteArray) : Prop := allB callByte s
def touchP (s : ByteArray) : Prop := areCallsP s ∧ 1 ≤ s.size ∧ s.size ≤ 60
theorem areCalls_any (s : ByteArray) (w : World) (hs : s.size ≤ 9223372036854775800) :
    Calls Tryd.prog 105 #[.string s] w fun e w' => e = .returned (.bool (B (areCallsP s))) ∧ w = w' := by
  go_enter Tryd.func105, Tryd.ntmps105
  go_wp2
  go_loop [6] (fun i => ∃ k : Nat, k ≤ s.size ∧ i = .int .i64 k ∧ (∀ j : Nat, j < k → callByte (bat s j))) (fun i => s.size - (intOf i).toNat)
  case atStart => exact ⟨0, by omega, by rfl, by omega⟩
  case round =>
    obtain ⟨k, hk, rfl, hp⟩ := hrel
    have Hp := Lib.hid hp
    clear hp
    by_cases hlt : k < s.size
    · by_cases hc : callByte (bat s k)
      · have e1 : B (isCallP (s.extract k (k + 1))) = true := B_t ((isCall_ext s k hlt).2 hc)
        have Hc := Lib.hid hc
        clear hc
        go_wp2_with (go_at_call 108; refine (isCall_any _ _).mono ?_; rintro e w' ⟨rfl, rfl⟩)
        go_round
        case rel =>
          refine ⟨k + 1, by omega, by go_num, fun j hj => ?_⟩
          rcases Nat.lt_or_eq_of_le (Nat.le_of_lt_succ hj) with h' | rfl
          · exact Hp.out j h'
          · exact Hc.out
        case measure => simp [intOf]; omega
      · have e1 : B (isCallP (s.extract k (k + 1))) = false := B_f (fun h => hc ((isCall_ext s k hlt).1 h))
        have Hc := Lib.hid hc
        clear hc
        go_wp2_with (go_at_call 108; refine (isCall_any _ _).mono ?_; rintro e w' ⟨rfl, rfl⟩)
        go_ret
        exact ⟨ret_f (fun h => Hc.out (h k hlt)), rfl⟩
    · obtain rfl : k = s.size := by omega
      go_wp2
      go_ret
      exact ⟨ret_t Hp.out, rfl⟩
theorem touch_any (s : ByteArray) (w : World) (hs : s.size ≤ 9223372036854775800) :
    Calls Tryd.prog 75 #[.string s] w fun e w' => e = .returned (.bool (B (touchP s))) ∧ w = w' := by
  by_cases c1 : 1 ≤ s.size
  · by_cases c2 : s.size ≤ 60
    · by_cases c3 : areCallsP s
      · have e1 := B_t c3
        have C := Lib.hid c3
        clear c3
        go_enter Tryd.func75, Tryd.ntmps75
        go_wp2_with (go_at_call 105; refine (areCalls_any _ _ hs).mono ?_; rintro e w' ⟨rfl, rfl⟩)
        go_ret
        exact ⟨ret_t ⟨C.out, c1, c2⟩, rfl⟩
      · have e1 := B_f c3
        have C := Lib.hid c3
        clear c3
        go_enter Tryd.func75, Tryd.ntmps75
        go_wp2_with (go_at_call 105; refine (areCalls_any _ _ hs).mono ?_; rintro e w' ⟨rfl, rfl⟩)
        go_ret
        exact ⟨ret_f (fun h => C.out h.1), rfl⟩
    · go_enter Tryd.func75, Tryd.ntmps75
      go_wp2
      go_ret
      exact ⟨ret_f (fun h => c2 h.2.2), rfl⟩
  · go_enter Tryd.func75, Tryd.ntmps75
    go_wp2
    go_ret
    exact ⟨ret_f (fun h => c1 h.2.1), rfl⟩
theorem l9Good_any (s : ByteArray) (w : World) (hs : s.size ≤ 9223372036854775800) :
    Calls Tryd.prog 68 #[.string s] w fun e w' => e = .returned (.bool (B (touchP s))) ∧ w = w' := by
  go_enter Tryd.func68, Tryd.ntmps68
  go_wp2
  go_loop [3] (fun i => ∃ k : Nat, k ≤ s.size ∧ i = .int .i64 k ∧ (∀ j : Nat, j < k → callByte (bat s j))) (fun i => s.size - (intOf i).toNat)
  case atStart => exact ⟨0, by omega, by rfl, by omega⟩
  case round =>
    obtain ⟨k, hk, rfl, hp⟩ := hrel
    have Hp := Lib.hid hp
    clear hp
    by_cases hlt : k < s.size
    · by_cases hc : callByte (bat s k)
      · have e1 : B (isCallP (s.extract k (k + 1))) = true := B_t ((isCall_ext s k hlt).2 hc)
        have Hc := Lib.hid hc
        clear hc
        go_wp2_with (go_at_call 98; refine (l8Call_any _ _).mono ?_; rintro e w' ⟨rfl, rfl⟩)
        go_round
        case rel =>
          refine ⟨k + 1, by omega, by go_num, fun j hj => ?_⟩
          rcases Nat.lt_or_eq_of_le (Nat.le_of_lt_succ hj) with h' | rfl
          · exact Hp.out j h'
          · exact Hc.out
        case measure => simp [intOf]; omega
      · have e1 : B (isCallP (s.extract k (k + 1))) = false := B_f (fun h => hc ((isCall_ext s k hlt).1 h))
        have Hc := Lib.hid hc
        clear hc
        go_wp2_with (go_at_call 98; refine (l8Call_any _ _).mono ?_; rintro e w' ⟨rfl, rfl⟩)
        go_ret
        exact ⟨ret_f (fun h => Hc.out (h.1 k hlt)), rfl⟩
    · obtain rfl : k = s.size := by omega
      by_cases c1 : 1 ≤ s.size
      · by_cases c2 : s.size ≤ 60
        · go_wp2_with (go_at_call 48; refine (l1In_t _ _ _ _ ⟨by omega, by omega⟩).mono ?_; rintro e w' ⟨rfl, rfl⟩)
          go_ret
          exact ⟨ret_t ⟨Hp.out, c1, c2⟩, rfl⟩
        · go_wp2_with (go_at_call 48; refine (l1In_f _ _ _ _ (fun h => by have := h.2; omega)).mono ?_; rintro e w' ⟨rfl, rfl⟩)
          go_ret
          exact ⟨ret_f (fun h => c2 h.2.2), rfl⟩
      · go_wp2_with (go_at_call 48; refine (l1In_f _ _ _ _ (fun h => by have := h.1; omega)).mono ?_; rintro e w' ⟨rfl, rfl⟩)
        go_ret
        exact ⟨ret_f (fun h => c1 h.2.1), rfl⟩
end Go.Proofs.YtbfhfnejppfehaaDoor
