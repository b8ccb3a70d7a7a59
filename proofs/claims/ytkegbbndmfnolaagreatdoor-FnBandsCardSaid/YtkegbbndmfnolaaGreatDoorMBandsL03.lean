import Derived.Test.YtkegbbndmfnolaaGreatDoorMBandsL00
import Derived.Test.YtkegbbndmfnolaaGreatDoorMBandsL01
import Derived.Test.YtkegbbndmfnolaaGreatDoorMBandsL02
/-
  Contracts: words, notes, calls and touches as texts (both sides).
-/
namespace Go.Proofs.YtkegbbndmfnolaaGreatDoor
open Go.RowKit
set_option linter.unusedVariables false
set_option linter.unusedSimpArgs false
set_option maxRecDepth 100000

theorem within_any (n lo hi : Int) (w : World) :
    Calls Tryz.prog 71 #[.int .i64 n, .int .i64 lo, .int .i64 hi] w fun e w' => e = .returned (.bool (B (inB n lo hi))) ∧ w = w' := by
  by_cases h1 : lo ≤ n <;> by_cases h2 : n ≤ hi
  all_goals
    go_enter Tryz.func71, Tryz.ntmps71
    go_wp2
    go_ret
    first | exact ⟨ret_t ⟨h1, h2⟩, rfl⟩ | exact ⟨ret_f (fun x => by have := x.1; have := x.2; omega), rfl⟩
theorem isBell_any (n b : Int) (w : World) :
    Calls Tryz.prog 74 #[.int .i64 n, .int .i64 b] w fun e w' => e = .returned (.bool (B (inB b 1 n))) ∧ w = w' := by
  by_cases h1 : 1 ≤ b <;> by_cases h2 : b ≤ n
  all_goals
    go_enter Tryz.func74, Tryz.ntmps74
    go_wp2
    go_ret
    first | exact ⟨ret_t ⟨h1, h2⟩, rfl⟩ | exact ⟨ret_f (fun x => by have := x.1; have := x.2; omega), rfl⟩

/-! ### A text whose bytes are all of a kind -/
def allB (p : Int → Prop) (s : ByteArray) : Prop := ∀ i : Nat, i < s.size → p (bat s i)
def wordByte (b : Int) : Prop := 97 ≤ b ∧ b ≤ 122
def isWordP (s : ByteArray) : Prop := allB wordByte s ∧ 1 ≤ s.size ∧ s.size ≤ 10
def noteByte (b : Int) : Prop := (97 ≤ b ∧ b ≤ 122) ∨ (48 ≤ b ∧ b ≤ 57) ∨ b = 46 ∨ b = 45
def isNoteP (s : ByteArray) : Prop := allB noteByte s ∧ s.size ≤ 20
def callByte (b : Int) : Prop := b = 112 ∨ b = 98 ∨ b = 115








set_option maxHeartbeats 800000 in
theorem isWord_any (s : ByteArray) (w : World) (hs : s.size ≤ 9223372036854775800) :
    Calls Tryz.prog 156 #[.string s] w fun e w' => e = .returned (.bool (B (isWordP s))) ∧ w = w' := by
  go_enter Tryz.func156, Tryz.ntmps156
  go_wp2
  go_loop [6] (fun i => ∃ k : Nat, k ≤ s.size ∧ i = .int .i64 k ∧ (∀ j : Nat, j < k → wordByte (bat s j))) (fun i => s.size - (intOf i).toNat)
  case atStart => exact ⟨0, by omega, by rfl, by omega⟩
  case round =>
    obtain ⟨k, hk, rfl, hp⟩ := hrel
    have Hp := Lib.hid hp
    clear hp
    by_cases hlt : k < s.size
    · have hb0 := bat_lo s k
      have hb1 := bat_hi s k
      have hc : bat s k < 97 ∨ (97 ≤ bat s k ∧ bat s k ≤ 122) ∨ 122 < bat s k := by omega
      rcases hc with h | ⟨h, h'⟩ | h
      all_goals
        skip
        go_wp2
        first
          | (go_ret
             refine ⟨ret_f (fun h => ?_), rfl⟩
             have := h.1 k hlt
             unfold wordByte at this
             omega)
          | (go_round
             case rel =>
               refine ⟨k + 1, by omega, by go_num, fun j hj => ?_⟩
               rcases Nat.lt_or_eq_of_le (Nat.le_of_lt_succ hj) with h' | rfl
               · exact Hp.out j h'
               · unfold wordByte; omega
             case measure => simp [intOf]; omega)
    · obtain rfl : k = s.size := by omega
      by_cases c1 : 1 ≤ s.size
      · by_cases c2 : s.size ≤ 10
        · go_wp2
          go_ret
          exact ⟨by rw [B_t (show isWordP s from ⟨Hp.out, c1, c2⟩)]; (first | (simp; omega) | (simp; done)), rfl⟩
        · go_wp2
          go_ret
          exact ⟨by rw [B_f (show ¬ isWordP s from fun h => c2 h.2.2)]; (first | (simp; omega) | (simp; done)), rfl⟩
      · go_wp2
        go_ret
        exact ⟨by rw [B_f (show ¬ isWordP s from fun h => c1 h.2.1)]; (first | (simp; omega) | (simp; done)), rfl⟩
set_option maxHeartbeats 800000 in
theorem l4Name_any (s : ByteArray) (w : World) (hs : s.size ≤ 9223372036854775800) :
    Calls Tryz.prog 115 #[.string s] w fun e w' => e = .returned (.bool (B (isWordP s))) ∧ w = w' := by
  go_enter Tryz.func115, Tryz.ntmps115
  go_wp2
  go_loop [3] (fun i => ∃ k : Nat, k ≤ s.size ∧ i = .int .i64 k ∧ (∀ j : Nat, j < k → wordByte (bat s j))) (fun i => s.size - (intOf i).toNat)
  case atStart => exact ⟨0, by omega, by rfl, by omega⟩
  case round =>
    obtain ⟨k, hk, rfl, hp⟩ := hrel
    have Hp := Lib.hid hp
    clear hp
    by_cases hlt : k < s.size
    · have hb0 := bat_lo s k
      have hb1 := bat_hi s k
      have hc : bat s k < 97 ∨ (97 ≤ bat s k ∧ bat s k ≤ 122) ∨ 122 < bat s k := by omega
      rcases hc with h | ⟨h, h'⟩ | h
      all_goals
        skip
        go_wp2
        first
          | (go_ret
             refine ⟨ret_f (fun h => ?_), rfl⟩
             have := h.1 k hlt
             unfold wordByte at this
             omega)
          | (go_round
             case rel =>
               refine ⟨k + 1, by omega, by go_num, fun j hj => ?_⟩
               rcases Nat.lt_or_eq_of_le (Nat.le_of_lt_succ hj) with h' | rfl
               · exact Hp.out j h'
               · unfold wordByte; omega
             case measure => simp [intOf]; omega)
    · obtain rfl : k = s.size := by omega
      by_cases c1 : 1 ≤ s.size
      · by_cases c2 : s.size ≤ 10
        · go_wp2_with (go_at_call 99; refine (l1In_t _ _ _ _ ⟨by omega, by omega⟩).mono ?_; rintro e w' ⟨rfl, rfl⟩)
          go_ret
          exact ⟨ret_t ⟨Hp.out, c1, c2⟩, rfl⟩
        · go_wp2_with (go_at_call 99; refine (l1In_f _ _ _ _ (fun h => by have := h.2; omega)).mono ?_; rintro e w' ⟨rfl, rfl⟩)
          go_ret
          exact ⟨ret_f (fun h => c2 h.2.2), rfl⟩
      · go_wp2_with (go_at_call 99; refine (l1In_f _ _ _ _ (fun h => by have := h.1; omega)).mono ?_; rintro e w' ⟨rfl, rfl⟩)
        go_ret
        exact ⟨ret_f (fun h => c1 h.2.1), rfl⟩
/-! ### calls and touches -/
theorem extract_one (s : ByteArray) (k : Nat) (h : k < s.size) : (s.extract k (k + 1)).toList = [s.data.toList[k]'(by have := size_len s; omega)] := by
  rw [ByteArray.toList_eq, ByteArray.data_extract, Array.toList_extract]
  have h2 : k < s.data.toList.length := h
  rw [List.extract_eq_take_drop, List.drop_eq_getElem_cons h2]
  simp
theorem bat_elem (s : ByteArray) (k : Nat) (h : k < s.data.toList.length) : bat s k = ((s.data.toList[k]).toNat : Int) := by
  unfold bat; rw [Int.toNat_natCast, List.getD_eq_getElem?_getD, List.getElem?_eq_getElem h]; rfl
/-- A text of one letter that is a call. -/
def isCallP (s : ByteArray) : Prop := s.toList = [112] ∨ s.toList = [98] ∨ s.toList = [115]
theorem isCall_ext (s : ByteArray) (k : Nat) (h : k < s.size) : isCallP (s.extract k (k + 1)) ↔ callByte (bat s k) := by
  unfold isCallP callByte
  rw [extract_one s k h, bat_elem s k h]
  generalize s.data.toList[k]'(by have := size_len s; omega) = c
  have h1 : ∀ d : UInt8, ([c] = [d]) ↔ (c.toNat : Int) = (d.toNat : Int) := fun d => by
    constructor
    · intro h; injection h with h; rw [h]
    · intro h; rw [show c = d from UInt8.toNat_inj.1 (by omega)]
  rw [h1, h1, h1]
  rfl

theorem isCall_any (s : ByteArray) (w : World) :
    Calls Tryz.prog 72 #[.string s] w fun e w' => e = .returned (.bool (B (isCallP s))) ∧ w = w' := by
  by_cases h1 : s.toList = [112]
  · have e1 : (s.toList == [112]) = true := by simpa using h1
    have H := Lib.hid h1
    clear h1
    go_enter Tryz.func72, Tryz.ntmps72
    go_wp2
    go_ret
    exact ⟨ret_t (.inl H.out), rfl⟩
  · by_cases h2 : s.toList = [98]
    · have e1 : (s.toList == [112]) = false := by simpa using h1
      have e2 : (s.toList == [98]) = true := by simpa using h2
      have H := Lib.hid h2
      clear h1 h2
      go_enter Tryz.func72, Tryz.ntmps72
      go_wp2
      go_ret
      exact ⟨ret_t (.inr (.inl H.out)), rfl⟩
    · by_cases h3 : s.toList = [115]
      · have e1 : (s.toList == [112]) = false := by simpa using h1
        have e2 : (s.toList == [98]) = false := by simpa using h2
        have e3 : (s.toList == [115]) = true := by simpa using h3
        have H := Lib.hid h3
        clear h1 h2 h3
        go_enter Tryz.func72, Tryz.ntmps72
        go_wp2
        go_ret
        exact ⟨ret_t (.inr (.inr H.out)), rfl⟩
      · have e1 : (s.toList == [112]) = false := by simpa using h1
        have e2 : (s.toList == [98]) = false := by simpa using h2
        have e3 : (s.toList == [115]) = false := by simpa using h3
        have H : Hid (¬ isCallP s) := Lib.hid (fun h => by rcases h with h | h | h; exact h1 h; exact h2 h; exact h3 h)
        clear h1 h2 h3
        go_enter Tryz.func72, Tryz.ntmps72
        go_wp2
        go_ret
        exact ⟨ret_f H.out, rfl⟩
theorem l8Call_any (s : ByteArray) (w : World) :
    Calls Tryz.prog 152 #[.string s] w fun e w' => e = .returned (.bool (B (isCallP s))) ∧ w = w' := by
  by_cases h1 : s.toList = [112]
  · have e1 : (s.toList == [112]) = true := by simpa using h1
    have H := Lib.hid h1
    clear h1
    go_enter Tryz.func152, Tryz.ntmps152
    go_wp2
    go_ret
    exact ⟨ret_t (.inl H.out), rfl⟩
  · by_cases h2 : s.toList = [98]
    · have e1 : (s.toList == [112]) = false := by simpa using h1
      have e2 : (s.toList == [98]) = true := by simpa using h2
      have H := Lib.hid h2
      clear h1 h2
      go_enter Tryz.func152, Tryz.ntmps152
      go_wp2
      go_ret
      exact ⟨ret_t (.inr (.inl H.out)), rfl⟩
    · by_cases h3 : s.toList = [115]
      · have e1 : (s.toList == [112]) = false := by simpa using h1
        have e2 : (s.toList == [98]) = false := by simpa using h2
        have e3 : (s.toList == [115]) = true := by simpa using h3
        have H := Lib.hid h3
        clear h1 h2 h3
        go_enter Tryz.func152, Tryz.ntmps152
        go_wp2
        go_ret
        exact ⟨ret_t (.inr (.inr H.out)), rfl⟩
      · have e1 : (s.toList == [112]) = false := by simpa using h1
        have e2 : (s.toList == [98]) = false := by simpa using h2
        have e3 : (s.toList == [115]) = false := by simpa using h3
        have H : Hid (¬ isCallP s) := Lib.hid (fun h => by rcases h with h | h | h; exact h1 h; exact h2 h; exact h3 h)
        clear h1 h2 h3
        go_enter Tryz.func152, Tryz.ntmps152
        go_wp2
        go_ret
        exact ⟨ret_f H.out, rfl⟩
theorem l24Call_any (s : ByteArray) (w : World) :
    Calls Tryz.prog 124 #[.string s] w fun e w' => e = .returned (.bool (B (isCallP s))) ∧ w = w' := by
  by_cases h1 : s.toList = [112]
  · have e1 : (s.toList == [112]) = true := by simpa using h1
    have H := Lib.hid h1
    clear h1
    go_enter Tryz.func124, Tryz.ntmps124
    go_wp2
    go_ret
    exact ⟨ret_t (.inl H.out), rfl⟩
  · by_cases h2 : s.toList = [98]
    · have e1 : (s.toList == [112]) = false := by simpa using h1
      have e2 : (s.toList == [98]) = true := by simpa using h2
      have H := Lib.hid h2
      clear h1 h2
      go_enter Tryz.func124, Tryz.ntmps124
      go_wp2
      go_ret
      exact ⟨ret_t (.inr (.inl H.out)), rfl⟩
    · by_cases h3 : s.toList = [115]
      · have e1 : (s.toList == [112]) = false := by simpa using h1
        have e2 : (s.toList == [98]) = false := by simpa using h2
        have e3 : (s.toList == [115]) = true := by simpa using h3
        have H := Lib.hid h3
        clear h1 h2 h3
        go_enter Tryz.func124, Tryz.ntmps124
        go_wp2
        go_ret
        exact ⟨ret_t (.inr (.inr H.out)), rfl⟩
      · have e1 : (s.toList == [112]) = false := by simpa using h1
        have e2 : (s.toList == [98]) = false := by simpa using h2
        have e3 : (s.toList == [115]) = false := by simpa using h3
        have H : Hid (¬ isCallP s) := Lib.hid (fun h => by rcases h with h | h | h; exact h1 h; exact h2 h; exact h3 h)
        clear h1 h2 h3
        go_enter Tryz.func124, Tryz.ntmps124
        go_wp2
        go_ret
        exact ⟨ret_f H.out, rfl⟩
def areCallsP (s : ByteArray) : Prop := allB callByte s
def touchP (s : ByteArray) : Prop := areCallsP s ∧ 1 ≤ s.size ∧ s.size ≤ 60
theorem areCalls_any (s : ByteArray) (w : World) (hs : s.size ≤ 9223372036854775800) :
    Calls Tryz.prog 150 #[.string s] w fun e w' => e = .returned (.bool (B (areCallsP s))) ∧ w = w' := by
  go_enter Tryz.func150, Tryz.ntmps150
  go_wp2
  go_loop [6] (fun i => ∃ k : Nat, k ≤ s.size ∧ i = .int .i64 k ∧ (∀ j : Nat, j < k → callByte (bat s j))) (fun i => s.size - (intOf i).toNat)
  case atStart => exact ⟨0, by omega, by rfl, by omega⟩
  case round =>
    obtain ⟨k, hk, rfl, hp⟩ := hrel
    have Hp := Lib.hid hp
    clear hp
    by_cases hlt : k < s.size
    · by_cases hc : callByte (bat s k)
      · have e1 : B (isCallP (s.extract k (k + 1))) = true := B_t ((isCall_ext s k hlt).2 hc)
        have Hc := Lib.hid hc
        clear hc
        go_wp2_with (go_at_call 72; refine (isCall_any _ _).mono ?_; rintro e w' ⟨rfl, rfl⟩)
        go_round
        case rel =>
          refine ⟨k + 1, by omega, by go_num, fun j hj => ?_⟩
          rcases Nat.lt_or_eq_of_le (Nat.le_of_lt_succ hj) with h' | rfl
          · exact Hp.out j h'
          · exact Hc.out
        case measure => simp [intOf]; omega
      · have e1 : B (isCallP (s.extract k (k + 1))) = false := B_f (fun h => hc ((isCall_ext s k hlt).1 h))
        have Hc := Lib.hid hc
        clear hc
        go_wp2_with (go_at_call 72; refine (isCall_any _ _).mono ?_; rintro e w' ⟨rfl, rfl⟩)
        go_ret
        exact ⟨ret_f (fun h => Hc.out (h k hlt)), rfl⟩
    · obtain rfl : k = s.size := by omega
      go_wp2
      go_ret
      exact ⟨ret_t Hp.out, rfl⟩
theorem touch_any (s : ByteArray) (w : World) (hs : s.size ≤ 9223372036854775800) :
    Calls Tryz.prog 109 #[.string s] w fun e w' => e = .returned (.bool (B (touchP s))) ∧ w = w' := by
  by_cases c1 : 1 ≤ s.size
  · by_cases c2 : s.size ≤ 60
    · by_cases c3 : areCallsP s
      · have e1 := B_t c3
        have C := Lib.hid c3
        clear c3
        go_enter Tryz.func109, Tryz.ntmps109
        go_wp2_with (go_at_call 150; refine (areCalls_any _ _ hs).mono ?_; rintro e w' ⟨rfl, rfl⟩)
        go_ret
        exact ⟨ret_t ⟨C.out, c1, c2⟩, rfl⟩
      · have e1 := B_f c3
        have C := Lib.hid c3
        clear c3
        go_enter Tryz.func109, Tryz.ntmps109
        go_wp2_with (go_at_call 150; refine (areCalls_any _ _ hs).mono ?_; rintro e w' ⟨rfl, rfl⟩)
        go_ret
        exact ⟨ret_f (fun h => C.out h.1), rfl⟩
    · go_enter Tryz.func109, Tryz.ntmps109
      go_wp2
      go_ret
      exact ⟨ret_f (fun h => c2 h.2.2), rfl⟩
  · go_enter Tryz.func109, Tryz.ntmps109
    go_wp2
    go_ret
    exact ⟨ret_f (fun h => c1 h.2.1), rfl⟩
theorem l9Good_any (s : ByteArray) (w : World) (hs : s.size ≤ 9223372036854775800) :
    Calls Tryz.prog 117 #[.string s] w fun e w' => e = .returned (.bool (B (touchP s))) ∧ w = w' := by
  go_enter Tryz.func117, Tryz.ntmps117
  go_wp2
  go_loop [3] (fun i => ∃ k : Nat, k ≤ s.size ∧ i = .int .i64 k ∧ (∀ j : Nat, j < k → callByte (bat s j))) (fun i => s.size - (intOf i).toNat)
  case atStart => exact ⟨0, by omega, by rfl, by omega⟩
  case round =>
    obtain ⟨k, hk, rfl, hp⟩ := hrel
    have Hp := Lib.hid hp
    clear hp
    by_cases hlt : k < s.size
    · by_cases hc : callByte (bat s k)
      · have e1 : B (isCallP (s.extract k (k + 1))) = true := B_t ((isCall_ext s k hlt).2 hc)
        have Hc := Lib.hid hc
        clear hc
        go_wp2_with (go_at_call 152; refine (l8Call_any _ _).mono ?_; rintro e w' ⟨rfl, rfl⟩)
        go_round
        case rel =>
          refine ⟨k + 1, by omega, by go_num, fun j hj => ?_⟩
          rcases Nat.lt_or_eq_of_le (Nat.le_of_lt_succ hj) with h' | rfl
          · exact Hp.out j h'
          · exact Hc.out
        case measure => simp [intOf]; omega
      · have e1 : B (isCallP (s.extract k (k + 1))) = false := B_f (fun h => hc ((isCall_ext s k hlt).1 h))
        have Hc := Lib.hid hc
        clear hc
        go_wp2_with (go_at_call 152; refine (l8Call_any _ _).mono ?_; rintro e w' ⟨rfl, rfl⟩)
        go_ret
        exact ⟨ret_f (fun h => Hc.out (h.1 k hlt)), rfl⟩
    · obtain rfl : k = s.size := by omega
      by_cases c1 : 1 ≤ s.size
      · by_cases c2 : s.size ≤ 60
        · go_wp2_with (go_at_call 99; refine (l1In_t _ _ _ _ ⟨by omega, by omega⟩).mono ?_; rintro e w' ⟨rfl, rfl⟩)
          go_ret
          exact ⟨ret_t ⟨Hp.out, c1, c2⟩, rfl⟩
        · go_wp2_with (go_at_call 99; refine (l1In_f _ _ _ _ (fun h => by have := h.2; omega)).mono ?_; rintro e w' ⟨rfl, rfl⟩)
          go_ret
          exact ⟨ret_f (fun h => c2 h.2.2), rfl⟩
      · go_wp2_with (go_at_call 99; refine (l1In_f _ _ _ _ (fun h => by have := h.1; omega)).mono ?_; rintro e w' ⟨rfl, rfl⟩)
        go_ret
        exact ⟨ret_f (fun h => c1 h.2.1), rfl⟩
end Go.Proofs.YtkegbbndmfnolaaGreatDoor

/-
 Contracts: all numbers of a list within bounds; a number among the first of a list (both sides).
-/
namespace Go.Proofs.YtkegbbndmfnolaaGreatDoor
open Go.RowKit
set_option linter.unusedVariables false
set_option linter.unusedSimpArgs false
set_option maxRecDepth 100000

def allIn (l : List Int) (lo hi : Int) : Prop := ∀ s ∈ l, inB s lo hi
def hasUpTo (l : List Int) (m : Nat) (n : Int) : Prop := ∃ (j : Nat) (h : j < l.length), j < m ∧ l[j] = n


theorem indexInt_any (l : List Int) (m : Nat) (hm : m ≤ l.length) (A : Option Addr) (c : Nat) (n : Int) (w : World) (h : RdL w w.heap.size A 1 encInt l) (hl : l.length ≤ 4611686018427387904) :
  Calls Tryz.prog 200 #[.slice A m c, .int .i64 n] w fun e w' => (∃ r : Int, e = .returned (.int .i64 r) ∧ (0 ≤ r ↔ hasUpTo l m n)) ∧ w = w' := by
 go_enter Tryz.func200, Tryz.ntmps200
 go_wp2
 go_loop [8] (fun i => ∃ k : Nat, k ≤ m ∧ i = .int .i64 k ∧ ∀ (j : Nat) (hj : j < l.length), j < k → l[j] ≠ n) (fun i => m - (intOf i).toNat)
 case atStart => exact ⟨0, by omega, by rfl, fun j _ h => by omega⟩
 case round =>
  obtain ⟨k, hk, rfl, hp⟩ := hrel
  have Hp := Lib.hid hp
  clear hp
  by_cases hlt : k < m
  ·obtain ⟨g, off, hA, hg, hcell⟩ := h.at (k := k) (by omega)
   subst hA
   have r0 : w.cell? ⟨g, off + k, none⟩ = some (.int .i64 (l[k]'(by omega))) := by have := hcell 0 _ rfl; rw [Nat.mul_one] at this; exact this
   obtain ⟨x, hx⟩ : ∃ x, Hid (l[k]'(by omega) = x) := ⟨_, Lib.hid rfl⟩
   rw [hx.out] at r0
   clear hcell
   by_cases hin : x = n
   ·rw [hin] at r0 hx
    clear hin
    go_wp2
    go_ret
    exact ⟨⟨_, rfl, ⟨fun _ => ⟨k, by omega, hlt, hx.out⟩, fun _ => by omega⟩⟩, rfl⟩
   ·have hin2 : ¬ n = x := fun h => hin h.symm
    go_wp2
    go_round
    case rel =>
     refine ⟨k + 1, by omega, by go_num, fun j hj h1 => ?_⟩
     rcases Nat.lt_or_eq_of_le (Nat.le_of_lt_succ h1) with h' | rfl
     ·exact Hp.out j hj h'
     ·rw [hx.out]; exact hin
    case measure => simp [intOf]; omega
  ·obtain rfl : k = m := by omega
   go_wp2
   go_ret
   exact ⟨⟨_, rfl, ⟨fun h => absurd h (by omega), fun ⟨j, h1, h2, h3⟩ => absurd h3 (Hp.out j h1 h2)⟩⟩, rfl⟩
theorem containsInt_any (l : List Int) (m : Nat) (hm : m ≤ l.length) (A : Option Addr) (c : Nat) (n : Int) (w : World) (h : RdL w w.heap.size A 1 encInt l) (hl : l.length ≤ 4611686018427387904) :
  Calls Tryz.prog 185 #[.slice A m c, .int .i64 n] w fun e w' => e = .returned (.bool (B (hasUpTo l m n))) ∧ w = w' := by
 have H := Lib.hid h
 clear h
 go_enter Tryz.func185, Tryz.ntmps185
 go_wp2_with (go_at_call 200; refine (indexInt_any l m hm A c n _ H.out hl).mono ?_; rintro e w' ⟨⟨r, rfl, hr⟩, rfl⟩; have Hr := Lib.hid hr; clear hr)
 all_goals go_ret
 by_cases hq : hasUpTo l m n
 ·exact ⟨by have := Hr.out.2 hq; rw [B_t hq]; first | (simp; done) | (simp; omega), rfl⟩
 ·exact ⟨by have : ¬ 0 ≤ r := fun h => hq (Hr.out.1 h); rw [B_f hq]; first | (simp; done) | (simp; omega), rfl⟩
end Go.Proofs.YtkegbbndmfnolaaGreatDoor

/-
 Contracts of chapter 1: products and inverses of rows.
-/
namespace Go.Proofs.YtkegbbndmfnolaaGreatDoor
open Go.RowKit
set_option linter.unusedVariables false
set_option linter.unusedSimpArgs false
set_option maxRecDepth 100000

theorem byte_info : (Tryz.prog.info? 5).map (fun i => (i.zero, i.size, i.bytes)) = some (some (.int .u8 0), 1, 1) := by kernel_rfl

/-- The product of two rows. -/
def timesL (a b : ByteArray) : List Int := (List.range b.size).map fun i : Nat => bat a (bat b i - 49)
def timesS (a b : ByteArray) : ByteArray := mkS (timesL a b)
theorem size_times (a b : ByteArray) : (timesS a b).size = b.size := by unfold timesS timesL; rw [size_mkS]; simp
theorem bat_times (a b : ByteArray) (i : Nat) (h : i < b.size) : bat (timesS a b) i = bat a (bat b i - 49) := by
 unfold timesS
 have hl : i < (timesL a b).length := by simpa [timesL] using h
 have e : (timesL a b)[i] = bat a (bat b i - 49) := by simp [timesL]
 rw [bat_mkS _ i hl (by rw [e]; exact bat_lo _ _) (by rw [e]; exact bat_hi _ _), e]

set_option maxHeartbeats 800000 in
theorem times_any (a b : ByteArray) (w : World) (hb : b.size ≤ 1000000) (h : ∀ i : Nat, i < b.size → 49 ≤ bat b i ∧ bat b i < 49 + a.size) :
  Calls Tryz.prog 155 #[.string a, .string b] w fun e w' => e = .returned (.string (timesS a b)) ∧ Below w.heap.size w w' := by
 have H := Lib.hid h
 clear h
 go_enter Tryz.func155, Tryz.ntmps155
 go_wp2_with (refine wpList_make_cells rfl 22 _ rfl 5 _ 1 rfl byte_info rfl .i64 b.size rfl (by omega) (by omega) ?_; intro w1 hc1 hb1 _)
 go_loopw [12] (fun i wr => ∃ k : Nat, k ≤ b.size ∧ i = .int .i64 k ∧ Cells wr w.heap.size b.size (fun j => if j < k then .int .u8 (bat a (bat b j - 49)) else .int .u8 0) ∧ Below w.heap.size w wr) (fun i _ => b.size - (intOf i).toNat)
 case atStart => exact ⟨0, by omega, by rfl, hc1.congr (fun i _ => by simp), hb1⟩
 case round =>
  obtain ⟨k, hk, rfl, hc, hbl⟩ := hrel
  by_cases hlt : k < b.size
  ·obtain ⟨h1, h2⟩ := H.out k hlt
   have hx := bat_hi a (bat b k - 49)
   have hx0 := bat_lo a (bat b k - 49)
   have hy := bat_hi b k
   have hcell := hc.cell hlt
   have hfree := hc.free hlt
   have Hc := Lib.hid hc
   have Hbl := Lib.hid hbl
   clear hc hbl hc1 hb1
   go_wp2
   go_roundw
   case rel =>
    refine ⟨k + 1, by omega, by go_num, (Hc.out.set hlt _).congr fun j _ => ?_, Hbl.out.setCell (p := ⟨w.heap.size, k, none⟩) (Nat.le_refl _) _⟩
    by_cases e : j = k
    ·subst e; rw [upd_same, if_pos (by omega)]
    ·rw [upd_other _ _ _ _ e]
     by_cases hj : j < k
     ·rw [if_pos hj, if_pos (by omega)]
     ·rw [if_neg hj, if_neg (by omega)]
   case measure => simp [intOf]; omega
  ·obtain rfl : k = b.size := by omega
   have hs := run_convert_bytes_arg (P := Tryz.prog) wr 22 5 rfl rfl w.heap.size 0 b.size b.size (timesL a b) (by simp [timesL]) (fun i hi => by
    have := hc.cell hi
    rw [if_pos hi] at this
    rw [Nat.zero_add, this]
    simp [timesL, hi]) 9 rfl
   have Hbl := Lib.hid hbl
   clear hc hbl hc1 hb1
   go_wp2
   go_ret
   exact ⟨rfl, Hbl.out⟩

/-- The inverse of a row: at each place the place of the bell there. -/
def placeAt (a : ByteArray) (v : Int) : Nat → Int
 | 0 => 0
 | n + 1 => if bat a n = v then n + 1 else placeAt a v n
/-- The place of a bell (0: none). -/
def placeS (a : ByteArray) (bell : Int) : Int := placeAt a (48 + bell) a.size
theorem placeAt_hit (a : ByteArray) (v : Int) (n i : Nat) (hi : i < n) (h : bat a i = v) (hd : ∀ j : Nat, j < n → bat a j = v → j = i) : placeAt a v n = i + 1 := by
 induction n with
 | zero => omega
 | succ n ih =>
  unfold placeAt
  by_cases e : bat a n = v
  ·rw [if_pos e]; have := hd n (by omega) e; omega
  ·rw [if_neg e]
   exact ih (by rcases Nat.lt_or_eq_of_le (Nat.le_of_lt_succ hi) with h' | rfl; exact h'; exact absurd h e) (fun j hj hv => hd j (by omega) hv)
theorem placeAt_none (a : ByteArray) (v : Int) (n : Nat) (h : ∀ j : Nat, j < n → bat a j ≠ v) : placeAt a v n = 0 := by
 induction n with
 | zero => rfl
 | succ n ih => unfold placeAt; rw [if_neg (h n (by omega))]; exact ih (fun j hj => h j (by omega))
theorem isRow.inj {a : ByteArray} (h : isRow a) {i j : Nat} (hi : i < a.size) (hj : j < a.size) (e : bat a i = bat a j) : i = j := by
 rcases Nat.lt_trichotomy i j with h' | h' | h'
 ·exact absurd e (h.2.2.2 i j h' hj)
 ·exact h'
 ·exact absurd e.symm (h.2.2.2 j i h' hi)
theorem isRow.place {a : ByteArray} (h : isRow a) {i : Nat} (hi : i < a.size) : placeS a (bat a i - 48) = i + 1 := by
 unfold placeS
 exact placeAt_hit a _ a.size i hi (by omega) (fun j hj e => h.inj hj hi (by omega))
/-- An injective map of the first n numbers into themselves hits each. -/
theorem hit_all (n : Nat) : ∀ (f : Nat → Nat), (∀ i, i < n → f i < n) → (∀ i j, i < n → j < n → f i = f j → i = j) → ∀ v, v < n → ∃ i, i < n ∧ f i = v := by
 induction n with
 | zero => intro f _ _ v hv; omega
 | succ n ih =>
  intro f hf hi v hv
  by_cases hn : ∃ i, i < n + 1 ∧ f i = v
  ·exact hn
  ·exfalso
   -- f misses v: squeeze it
   let g : Nat → Nat := fun i => if f i < v then f i else f i - 1
   have hne : ∀ i, i < n + 1 → f i ≠ v := fun i h e => hn ⟨i, h, e⟩
   have hg : ∀ i, i < n + 1 → g i < n := fun i h => by
    have := hf i h; have := hne i h; simp only [g]; split <;> omega
   have hgi : ∀ i j, i < n + 1 → j < n + 1 → g i = g j → i = j := fun i j h1 h2 e => by
    have := hne i h1; have := hne j h2
    apply hi i j h1 h2
    simp only [g] at e
    split at e <;> split at e <;> omega
   obtain ⟨i, h1, h2⟩ := ih g (fun i h => hg i (by omega)) (fun i j h1 h2 e => hgi i j (by omega) (by omega) e) (g n) (hg n (by omega))
   have := hgi i n (by omega) (by omega) h2
   omega
theorem isRow.hit {a : ByteArray} (h : isRow a) {v : Int} (h1 : 49 ≤ v) (h2 : v < 49 + a.size) : ∃ i : Nat, i < a.size ∧ bat a i = v := by
 obtain ⟨i, hi, e⟩ := hit_all a.size (fun i => (bat a i - 49).toNat) (fun i hi => by have := h.2.2.1 i hi; omega)
  (fun i j hi hj e => h.inj hi hj (by have := h.2.2.1 i hi; have := h.2.2.1 j hj; omega)) (v - 49).toNat (by omega)
 exact ⟨i, hi, by have := h.2.2.1 i hi; omega⟩

def turnL (a : ByteArray) : List Int := (List.range a.size).map fun p : Nat => 48 + placeS a ((p : Int) + 1)
def turnS (a : ByteArray) : ByteArray := mkS (turnL a)
/-- What stands in the cells behind k stores of the inverse. -/
def turnAt (a : ByteArray) (z : Nat → Int) (k : Nat) (p : Nat) : Int :=
 if placeAt a (49 + p) k = 0 then z p else 48 + placeAt a (49 + p) k
end Go.Proofs.YtkegbbndmfnolaaGreatDoor

/-
 Contracts of chapter 1, the reference's side: products and inverses of rows; two rows of one stage.
-/
namespace Go.Proofs.YtkegbbndmfnolaaGreatDoor
open Go.RowKit
set_option linter.unusedVariables false
set_option linter.unusedSimpArgs false
set_option maxRecDepth 100000

theorem l1At_k (s : ByteArray) (k : Nat) (p : Int) (w : World) (hp : p = k + 1) (h2 : k < s.size) (hs : s.size ≤ 1000000) (h3 : 48 ≤ bat s k) :
  Calls Tryz.prog 162 #[.string s, .int .i64 p] w fun e w' => e = .returned (.int .i64 (bat s k - 48)) ∧ w = w' := by
 have e : p - 1 = k := by omega
 have := l1At_any s p w (by omega) (by omega) (by omega) (by rw [e]; exact h3)
 rw [e] at this; exact this

theorem take_snoc {l : List Int} {k : Nat} (h : k < l.length) : l.take (k + 1) = l.take k ++ [l[k]] := List.take_succ_eq_append_getElem h
theorem mkS_snoc (l : List Int) (s : ByteArray) (v : Int) (hs : s.size = 1) (hv : bat s 0 = v) : mkS l ++ s = mkS (l ++ [v]) := by
 refine str_ext (by rw [size_app, size_mkS, size_mkS, hs]; simp) fun i hi => ?_
 rw [size_app, size_mkS, hs] at hi
 have h1 := bat_lo s 0
 have h2 := bat_hi s 0
 by_cases h : i < l.length
 ·rw [bat_append_l _ _ _ (by rw [size_mkS]; exact h)]
  unfold bat mkS
  simp [List.getElem?_append_left, h]
 ·obtain rfl : i = l.length := by omega
  have := bat_append_r (mkS l) s 0
  rw [size_mkS] at this
  rw [show (l.length : Nat) = l.length + 0 from rfl, this]
  rw [bat_mkS _ _ (by simp) (by simp; omega) (by simp; omega)]
  simp; exact hv

set_option maxHeartbeats 800000 in
theorem l1Times_any (a b : ByteArray) (w : World) (hb : b.size ≤ 1000000) (ha : a.size ≤ 1000000) (h : ∀ i : Nat, i < b.size → 49 ≤ bat b i ∧ bat b i < 49 + a.size) :
  Calls Tryz.prog 165 #[.string a, .string b] w fun e w' => e = .returned (.string (timesS a b)) ∧ w = w' := by
 have H := Lib.hid h
 clear h
 go_enter Tryz.func165, Tryz.ntmps165
 go_wp2
 go_loop [5, 6] (fun s i => ∃ (k : Nat) (o : ByteArray), k ≤ b.size ∧ i = .int .i64 (k + 1) ∧ s = .string o ∧ o.size ≤ k ∧ Hid (o = mkS ((timesL a b).take k))) (fun _ i => b.size + 1 - (intOf i).toNat)
 case atStart => exact ⟨0, ⟨#[]⟩, by omega, by rfl, rfl, by decide, rfl⟩
 case round =>
  obtain ⟨k, o, hk, rfl, rfl, ho, he⟩ := hrel
  by_cases hlt : k < b.size
  ·obtain ⟨h1, h2⟩ := H.out k hlt
   have hy := bat_hi b k
   go_wp2_with (go_at_call 162; refine (l1At_k b k _ _ (by omega) hlt hb (by omega)).mono ?_; rintro e w' ⟨rfl, rfl⟩)
   go_round
   case rel =>
    have hsz : (a.extract ((bat b k - 48).toNat - 1) (bat b k - 48).toNat).size = 1 := by rw [size_ext]; omega
    refine ⟨k + 1, _, by omega, by go_num, rfl, by rw [size_app, hsz]; omega, ?_⟩
    have hl : k < (timesL a b).length := by simp [timesL]; omega
    show _ = _
    rw [take_snoc hl, he.out]
    refine mkS_snoc _ _ _ hsz ?_
    have := bat_ext a ((bat b k - 48).toNat - 1) (bat b k - 48).toNat 0 (by omega)
    rw [show ((0 : Nat) : Int) = 0 from rfl] at this
    rw [this]
    have e : (((bat b k - 48).toNat - 1 + 0 : Nat) : Int) = bat b k - 49 := by omega
    rw [e]; simp [timesL]
   case measure => simp [intOf]; omega
  ·go_wp2
   go_ret
   exact ⟨by rw [he.out, List.take_of_length_le (by simp [timesL]; omega)]; rfl, rfl⟩

/-- Two rows of one stage. -/
def two (a b : ByteArray) : Prop := isRow a ∧ isRow b ∧ a.size = b.size
end Go.Proofs.YtkegbbndmfnolaaGreatDoor
/-
 Words of our own that know no program: a whole list appended; an own list of integers written.
-/
namespace Go.Proofs.YtkegbbndmfnolaaGreatDoor
open Go.RowKit
set_option linter.unusedVariables false
set_option linter.unusedSimpArgs false

theorem flat_inv {α : Type} {enc : α → List Value} {size : Nat} (henc : ∀ x, (enc x).length = size) : ∀ (l : List α) (j : Nat) (u : Value), (flat enc l)[j]? = some u → ∃ (i : Nat) (hi : i < l.length) (k : Nat), j = i * size + k ∧ (enc l[i])[k]? = some u
 | [], j, u, h => by simp [flat] at h
 | x :: l, j, u, h => by
  simp only [flat] at h
  by_cases hj : j < (enc x).length
  ·rw [List.getElem?_append_left hj] at h
   exact ⟨0, by simp, j, by simp, by simpa using h⟩
  ·rw [List.getElem?_append_right (by omega)] at h
   obtain ⟨i, hi, k, e, hk⟩ := flat_inv henc l _ u h
   rw [henc] at e hj
   exact ⟨i + 1, by simpa using hi, k, by rw [Nat.succ_mul]; omega, by simpa using hk⟩
section
variable {P : Program} {ops : Array Oper} {rest : List Oper} {o : Oper} {a : Act} {Q : Exit → Act → World → Prop} {w : World}
/-- 'l = append(l, ys...)': ys reads as a list that is not empty. -/
theorem wpList_pushAll {α : Type} (hgd : o.guard = none) (s x : Operand) (t : TypeId) (ho : o.op = .call { callee := .builtin .append, args := #[s, x], argTypes := #[t, t] })
  (base : Nat) (e : TypeId) (z : Value) (size bytes : Nat) (enc : α → List Value)
  (ht : P.underlying t = some (.slice e)) (hinfo : (P.info? e).map (fun i => (i.zero, i.size, i.bytes)) = some (some z, size, bytes)) (hzs : z.cells.size = size) (hsz : 0 < size)
  (v : Value) (l ys : List α) (A : Option Addr) (c b : Nat) (hs : a.eval s = v) (hx : a.eval x = .slice A ys.length c) (hr : RdL w b A size enc ys) (hne : 0 < ys.length)
  (hown : Grow w base e size enc v l) (henc : ∀ x, (enc x).length = size) (h1 : ∀ x, ∀ u ∈ enc x, u.oneCell' = true)
  (hn : l.length + ys.length ≤ 1000000000) (hb : bytes ≤ 1000) (hbase : base ≤ w.heap.size)
  (h : ∀ v' w', Grow w' base e size enc v' (l ++ ys) → Below base w w' → w.grownBy w' v.ownBlock → wpList P ops Q rest (a.put o.dst v') w') :
  wpList P ops Q (o :: rest) a w := by
 obtain ⟨i, hi, hzz⟩ := Option.map_eq_some_iff.1 hinfo
 simp only [Prod.mk.injEq] at hzz
 obtain ⟨hz, hs', hb'⟩ := hzz
 have hmul : (l.length + ys.length) * bytes ≤ 1000000000 * 1000 := Nat.mul_le_mul hn hb
 obtain ⟨g, off, hA, _, _⟩ := hr.at (k := 0) hne
 subst hA
 refine wpList_append_own (P := P) _ hgd s x t ho base e i z size bytes ht hi hz hs' hb' hzs hsz v l.length (flat enc l) hs hown ⟨g, off, none⟩ ys.length c (flat enc ys) hx (flat_len henc ys)
  (fun j u hu => by
   obtain ⟨i, hi, k, rfl, hk⟩ := flat_inv henc ys j u hu
   obtain ⟨g', off', hA', _, hcell⟩ := hr.at hi
   simp only [Option.some.injEq, Addr.mk.injEq, and_true] at hA'
   obtain ⟨rfl, rfl⟩ := hA'
   have e : (⟨g, off, none⟩ : Addr).add (i * size + k) = ⟨g, off + (i * size + k), none⟩ := by unfold Addr.add; split <;> simp_all
   rw [e]; exact hcell k u hk) (fun u hu => by
   obtain ⟨j, hj⟩ := List.getElem?_of_mem hu
   obtain ⟨i, hi, k, _, hk⟩ := flat_inv henc ys j u hj
   exact h1 _ u (List.mem_of_getElem? hk)) (by unfold maxLen; omega) (by omega) hbase ?_
 intro v' w' hown' hg _
 have hr : ∀ k, v.ownBlock = some k → base ≤ k := fun k hk => by
  rcases hown.2 with ⟨rfl, _⟩ | ⟨g, cap, cur, rfl, hbg, _⟩
  ·simp [Value.ownBlock] at hk
  ·simp [Value.ownBlock] at hk; omega
 refine h v' w' ?_ ?_ hg
 ·unfold Grow
  rw [List.length_append, flat_append]
  exact hown'
 ·exact (Below.refl base w).grown hg hbase hr
end
theorem Grow.capN {α : Type} {w : World} {base : Nat} {e : TypeId} {size : Nat} {enc : α → List Value} {l : List α} {A : Option Addr} {n c : Nat} (h : Grow w base e size enc (.slice A n c) l) : n ≤ c := by
 rcases h.2 with ⟨h1, h2⟩ | ⟨g, cap, cur, h1, h2, h3, h4, h5, _⟩
 ·injection h1 with _ e1 e2; omega
 ·injection h1 with _ e1 e2; omega
section
variable {w : World} {b c g : Nat} {l : List Int}
theorem OwnL.some_of {A : Option Addr} (h : OwnL w b c A 1 encInt l) (hl : 0 < l.length) : ∃ g, A = some ⟨g, 0, none⟩ ∧ b ≤ g ∧ g < c ∧ g < w.heap.size := by
 obtain ⟨g, f, hA, h1, h2, h3⟩ := h.cells hl
 exact ⟨g, hA, h1, h2, h3.lt⟩
theorem OwnL.cellInt (h : OwnL w b c (some ⟨g, 0, none⟩) 1 encInt l) (k : Nat) (hk : k < l.length) : w.cell? ⟨g, k, none⟩ = some (.int .i64 l[k]) ∧ w.frozen? ⟨g, k, none⟩ = false := by
 rcases h with h | ⟨g', f, hA, h1, h2, h3, h4⟩
 ·subst h; simp at hk
 ·simp only [Option.some.injEq, Addr.mk.injEq, and_true] at hA
  subst hA
  have := h4 k hk 0 _ rfl
  have hc := h3.cell (i := k) (by omega)
  rw [Nat.mul_one, Nat.add_zero] at this
  rw [this] at hc
  exact ⟨hc, h3.free (by omega)⟩
end
end Go.Proofs.YtkegbbndmfnolaaGreatDoor

/-
 The cycles of a row, as the reference makes them.
-/
namespace Go.Proofs.YtkegbbndmfnolaaGreatDoor
open Go.RowKit
open CycT (Cy Part Run)
set_option linter.unusedVariables false
set_option linter.unusedSimpArgs false
set_option maxRecDepth 100000

section
variable {P : Program} {ops : Array Oper} {rest : List Oper} {o : Oper} {a : Act} {Q : Exit → Act → World → Prop} {w : World}
/-- wpList_pushAll; the new slice's block is the old one's, or new. -/
theorem wpList_pushAllA {α : Type} (hgd : o.guard = none) (s x : Operand) (t : TypeId) (ho : o.op = .call { callee := .builtin .append, args := #[s, x], argTypes := #[t, t] })
  (base : Nat) (e : TypeId) (z : Value) (size bytes : Nat) (enc : α → List Value)
  (ht : P.underlying t = some (.slice e)) (hinfo : (P.info? e).map (fun i => (i.zero, i.size, i.bytes)) = some (some z, size, bytes)) (hzs : z.cells.size = size) (hsz : 0 < size)
  (v : Value) (l ys : List α) (A : Option Addr) (c b : Nat) (hs : a.eval s = v) (hx : a.eval x = .slice A ys.length c) (hr : RdL w b A size enc ys) (hne : 0 < ys.length)
  (hown : Grow w base e size enc v l) (henc : ∀ x, (enc x).length = size) (h1 : ∀ x, ∀ u ∈ enc x, u.oneCell' = true)
  (hn : l.length + ys.length ≤ 1000000000) (hb : bytes ≤ 1000) (hbase : base ≤ w.heap.size)
  (h : ∀ v' w', Grow w' base e size enc v' (l ++ ys) → Below base w w' → w.grownBy w' v.ownBlock → (v'.ownBlock = v.ownBlock ∨ v'.ownBlock = some w.heap.size) → wpList P ops Q rest (a.put o.dst v') w') :
  wpList P ops Q (o :: rest) a w := by
 obtain ⟨i, hi, hzz⟩ := Option.map_eq_some_iff.1 hinfo
 simp only [Prod.mk.injEq] at hzz
 obtain ⟨hz, hs', hb'⟩ := hzz
 have hmul : (l.length + ys.length) * bytes ≤ 1000000000 * 1000 := Nat.mul_le_mul hn hb
 obtain ⟨g, off, hA, _, _⟩ := hr.at (k := 0) hne
 subst hA
 refine wpList_append_own_at (P := P) _ hgd s x t ho base e i z size bytes ht hi hz hs' hb' hzs hsz v l.length (flat enc l) hs hown ⟨g, off, none⟩ ys.length c (flat enc ys) hx (flat_len henc ys)
  (fun j u hu => by
   obtain ⟨i, hi, k, rfl, hk⟩ := flat_inv henc ys j u hu
   obtain ⟨g', off', hA', _, hcell⟩ := hr.at hi
   simp only [Option.some.injEq, Addr.mk.injEq, and_true] at hA'
   obtain ⟨rfl, rfl⟩ := hA'
   have e : (⟨g, off, none⟩ : Addr).add (i * size + k) = ⟨g, off + (i * size + k), none⟩ := by unfold Addr.add; split <;> simp_all
   rw [e]; exact hcell k u hk) (fun u hu => by
   obtain ⟨j, hj⟩ := List.getElem?_of_mem hu
   obtain ⟨i, hi, k, _, hk⟩ := flat_inv henc ys j u hj
   exact h1 _ u (List.mem_of_getElem? hk)) (by unfold maxLen; omega) (by omega) hbase ?_
 intro v' w' hown' hg _ hblk
 have hr : ∀ k, v.ownBlock = some k → base ≤ k := fun k hk => by
  rcases hown.2 with ⟨rfl, _⟩ | ⟨g, cap, cur, rfl, hbg, _⟩
  ·simp [Value.ownBlock] at hk
  ·simp [Value.ownBlock] at hk; omega
 refine h v' w' ?_ ?_ hg hblk
 ·unfold Grow
  rw [List.length_append, flat_append]
  exact hown'
 ·exact (Below.refl base w).grown hg hbase hr
end
/-- The head of a slice. -/
structure Hd where
 A : Option Addr
 n : Nat
 c : Nat
def Hd.enc (h : Hd) : List Value := [.slice h.A h.n h.c]
/-- Where a row sends a place. -/
def rowF (a : ByteArray) (i : Nat) : Nat := (bat a i - 49).toNat
def up (l : List Nat) : List Int := l.map fun x : Nat => (x : Int) + 1
/-- The heads of the cycles' slices. -/
def HdsOf (hs : List Hd) (C : List Cy) : Prop := hs.map Hd.n = C.map fun c => c.2.length + 1
theorem HdsOf.len {hs : List Hd} {C : List Cy} (h : HdsOf hs C) : hs.length = C.length := by have := congrArg List.length h; simpa using this
def lenV : Value → Nat
 | .slice _ n _ => n
 | _ => 0
end Go.Proofs.YtkegbbndmfnolaaGreatDoor
