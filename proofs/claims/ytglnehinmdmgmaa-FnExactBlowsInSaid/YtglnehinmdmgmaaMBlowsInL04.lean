import Derived.Test.YtglnehinmdmgmaaRows
import Derived.Test.YtglnehinmdmgmaaMBlowsInL00
/-
  Contracts of chapter 1: rows.
-/
namespace Go.Proofs.Ytglnehinmdmgmaa
open Go.RowKit
set_option linter.unusedVariables false
set_option linter.unusedSimpArgs false
set_option maxRecDepth 100000

/-- A row: a permutation of the first bells. -/
def isRow (s : ByteArray) : Prop :=
  3 ≤ s.size ∧ s.size ≤ 8 ∧ (∀ i : Nat, i < s.size → 49 ≤ bat s i ∧ bat s i < 49 + s.size) ∧ (∀ i j : Nat, i < j → j < s.size → bat s i ≠ bat s j)

theorem isStage_any (n : Int) (w : World) :
    Calls Try.prog 49 #[.int .i64 n] w fun e w' => e = .returned (.bool (decide (3 ≤ n) && decide (n ≤ 8))) ∧ w = w' := by
  go_enter Try.func49, Try.ntmps49
  go_wp2
  all_goals (go_ret; exact ⟨by simp <;> omega, rfl⟩)
theorem isStage_t (n : Int) (w : World) (h1 : 3 ≤ n) (h2 : n ≤ 8) :
    Calls Try.prog 49 #[.int .i64 n] w fun e w' => e = .returned (.bool true) ∧ w = w' := by
  have := isStage_any n w; simpa [h1, h2] using this
theorem isStage_f (n : Int) (w : World) (h : n < 3 ∨ 8 < n) :
    Calls Try.prog 49 #[.int .i64 n] w fun e w' => e = .returned (.bool false) ∧ w = w' := by
  have := isStage_any n w
  have e : (decide (3 ≤ n) && decide (n ≤ 8)) = false := by simp <;> omega
  rw [e] at this; exact this

/-- The marks of the bells met so far. -/
def Marks (s : ByteArray) (k j : Nat) : Prop := j < 256 ∧ ∀ b : Nat, b < 8 → (j.testBit b = true ↔ ∃ i : Nat, i < k ∧ bat s i = 49 + b)
theorem Marks.zero (s : ByteArray) : Marks s 0 0 := ⟨by omega, fun b _ => by simp⟩
theorem Marks.step {s : ByteArray} {k j : Nat} (h : Marks s k j) (b : Nat) (hb : b < 8) (e : bat s k = 49 + b) : Marks s (k + 1) (j ||| 2 ^ b) := by
  refine ⟨?_, fun c hc => ?_⟩
  · have : 2 ^ b < 2 ^ 8 := Nat.pow_lt_pow_right (by omega) hb
    exact Nat.or_lt_two_pow (n := 8) h.1 this
  · rw [Nat.testBit_or, Nat.testBit_two_pow, Bool.or_eq_true, h.2 c hc, decide_eq_true_eq]
    constructor
    · rintro (⟨i, hi, hx⟩ | rfl)
      · exact ⟨i, by omega, hx⟩
      · exact ⟨k, by omega, e⟩
    · rintro ⟨i, hi, hx⟩
      rcases Nat.lt_or_eq_of_le (Nat.le_of_lt_succ hi) with h' | rfl
      · exact .inl ⟨i, h', hx⟩
      · right; omega
theorem bit_test (j b : Nat) (hj : j < 256) : (bits BinOp.and IntKind.i64 ((j : Int) / 2 ^ b) 1 == 1) = j.testBit b := by
  have e1 : ((j : Int) / 2 ^ b) = ((j / 2 ^ b : Nat) : Int) := by simp
  have e2 : (1 : Int) = ((1 : Nat) : Int) := rfl
  rw [e1, e2, and_i64 _ _ (by have := Nat.div_le_self j (2 ^ b); omega) (by omega), Nat.and_one_is_mod]
  rw [Nat.testBit_eq_decide_div_mod_eq]
  generalize j / 2 ^ b = m
  rw [Bool.eq_iff_iff]; simp <;> omega
theorem bit_or (j b : Nat) (hj : j < 256) (hb : b < 8) : bits BinOp.or IntKind.i64 (j : Int) (wrap64 (2 ^ b)) = ((j ||| 2 ^ b : Nat) : Int) := by
  have h8 : (2 : Nat) ^ b < 2 ^ 8 := Nat.pow_lt_pow_right (by omega) hb
  have e1 : ((2 : Int) ^ b) = ((2 ^ b : Nat) : Int) := by simp
  rw [e1]
  generalize 2 ^ b = m at *
  rw [IntWalk.wrap64_in _ (by omega), or_i64 _ _ (by omega) (by omega)]

set_option maxHeartbeats 800000 in
theorem goodRow_any (s : ByteArray) (w : World) :
    Calls Try.prog 54 #[.string s] w fun e w' => e = .returned (.bool (B (isRow s))) ∧ w = w' := by
  by_cases hs : 3 ≤ s.size ∧ s.size ≤ 8
  · obtain ⟨h1, h2⟩ := hs
    go_enter Try.func54, Try.ntmps54
    go_wp2_with (go_at_call 49; refine (isStage_t _ _ (by omega) (by omega)).mono ?_; rintro e w' ⟨rfl, rfl⟩)
    go_loop [3, 12] (fun m i => ∃ k j : Nat, k ≤ s.size ∧ i = .int .i64 k ∧ m = .int .i64 j ∧ Marks s k j ∧ (∀ i : Nat, i < k → 49 ≤ bat s i ∧ bat s i < 49 + s.size) ∧ (∀ i l : Nat, i < l → l < k → bat s i ≠ bat s l)) (fun _ i => s.size - (intOf i).toNat)
    case atStart => exact ⟨0, 0, by omega, by rfl, rfl, Marks.zero s, by omega, by omega⟩
    case round =>
      obtain ⟨k, j, hk, rfl, rfl, hm, hr, hd⟩ := hrel
      have hj := hm.1
      have Hm := Lib.hid hm
      have Hr := Lib.hid hr
      have Hd := Lib.hid hd
      clear hm hr hd
      by_cases hlt : k < s.size
      · have hb0 := bat_lo s k
        have hb1 := bat_hi s k
        by_cases c1 : bat s k < 49
        · go_wp2
          go_ret
          refine ⟨ret_f ?_, rfl⟩
          intro h; have := (h.2.2.1 k hlt).1; omega
        · by_cases c2 : (s.size : Int) ≤ bat s k - 49
          · go_wp2
            go_ret
            refine ⟨ret_f ?_, rfl⟩
            intro h; have := (h.2.2.1 k hlt).2; omega
          · obtain ⟨b, hb⟩ : ∃ b : Nat, bat s k - 49 = b := ⟨(bat s k - 49).toNat, by omega⟩
            have ht := bit_test j b hj
            have ho := bit_or j b hj (by omega)
            have Ho := Lib.hid ho
            clear ho
            by_cases c3 : (bits BinOp.and IntKind.i64 (↑j / 2 ^ (bat s k - 49).toNat) 1 == 1) = true
            · rw [hb, Int.toNat_natCast, ht] at c3
              have C3 := Lib.hid c3
              rw [c3] at ht
              have ht' : (bits BinOp.and IntKind.i64 (↑j / 2 ^ (bat s k - 49).toNat) 1 == 1) = true := by rw [hb, Int.toNat_natCast]; exact ht
              have Hb := Lib.hid hb
              clear ht c3 hb
              go_wp2
              go_ret
              refine ⟨ret_f ?_, rfl⟩
              have hb := Hb.out
              intro h
              obtain ⟨i, hi, he⟩ := (Hm.out.2 b (by omega)).1 C3.out
              exact h.2.2.2 i k hi hlt (by omega)
            · rw [hb, Int.toNat_natCast, ht, Bool.not_eq_true] at c3
              have C3 := Lib.hid c3
              rw [c3] at ht
              have ht' : (bits BinOp.and IntKind.i64 (↑j / 2 ^ (bat s k - 49).toNat) 1 == 1) = false := by rw [hb, Int.toNat_natCast]; exact ht
              have Hb := Lib.hid hb
              clear ht c3 hb
              go_wp2
              have hb := Hb.out
              go_round
              case rel =>
                refine ⟨k + 1, j ||| 2 ^ b, by omega, by go_num, ?_, Hm.out.step b (by omega) (by omega), fun i hi => ?_, fun i l hi hl => ?_⟩
                · rw [hb, Int.toNat_natCast, Ho.out]
                · rcases Nat.lt_or_eq_of_le (Nat.le_of_lt_succ hi) with h' | rfl
                  · exact Hr.out i h'
                  · omega
                · rcases Nat.lt_or_eq_of_le (Nat.le_of_lt_succ hl) with h' | rfl
                  · exact Hd.out i l hi h'
                  · intro he
                    have := (Hm.out.2 b (by omega)).2 ⟨i, hi, by omega⟩
                    rw [C3.out] at this
                    cases this
              case measure => simp [intOf]; omega
      · go_wp2
        go_ret
        obtain rfl : k = s.size := by omega
        exact ⟨ret_t ⟨h1, h2, Hr.out, Hd.out⟩, rfl⟩
  · go_enter Try.func54, Try.ntmps54
    go_wp2_with (go_at_call 49; refine (isStage_f _ _ (by omega)).mono ?_; rintro e w' ⟨rfl, rfl⟩)
    go_ret
    refine ⟨ret_f ?_, rfl⟩
    intro h; exact hs ⟨h.1, h.2.1⟩
theorem goodRow_t (s : ByteArray) (w : World) (h : (isRow s)) : Calls Try.prog 54 #[.string s] w fun e w' => e = .returned (.bool true) ∧ w = w' := by
  have := goodRow_any s w; rw [B_t h] at this; exact this
theorem goodRow_f (s : ByteArray) (w : World) (h : ¬ (isRow s)) : Calls Try.prog 54 #[.string s] w fun e w' => e = .returned (.bool false) ∧ w = w' := by
  have := goodRow_any s w; rw [B_f h] at this; exact this


def isRowOf (n : Int) (s : ByteArray) : Prop := (s.size : Int) = n ∧ isRow s
theorem isRowOf_any (n : Int) (s : ByteArray) (w : World) :
    Calls Try.prog 42 #[.int .i64 n, .string s] w fun e w' => e = .returned (.bool (B (isRowOf n s))) ∧ w = w' := by
  by_cases h : (s.size : Int) = n
  · have hb : ((s.size : Int) == n) = true := by simpa using h
    have H := Lib.hid h
    clear h
    by_cases g : isRow s
    · go_enter Try.func42, Try.ntmps42
      go_wp2_with (go_at_call 54; refine (goodRow_t s _ g).mono ?_; rintro e w' ⟨rfl, rfl⟩)
      go_ret
      exact ⟨ret_t ⟨H.out, g⟩, rfl⟩
    · go_enter Try.func42, Try.ntmps42
      go_wp2_with (go_at_call 54; refine (goodRow_f s _ g).mono ?_; rintro e w' ⟨rfl, rfl⟩)
      go_ret
      exact ⟨ret_f (fun x => g x.2), rfl⟩
  · have hb : ((s.size : Int) == n) = false := by simpa using h
    have H := Lib.hid h
    clear h
    go_enter Try.func42, Try.ntmps42
    go_wp2
    go_ret
    exact ⟨ret_f (fun x => H.out x.1), rfl⟩
def inB (n lo hi : Int) : Prop := lo ≤ n ∧ n ≤ hi
theorem l1In_any (n lo hi : Int) (w : World) :
    Calls Try.prog 37 #[.int .i64 n, .int .i64 lo, .int .i64 hi] w fun e w' => e = .returned (.bool (B (inB n lo hi))) ∧ w = w' := by
  by_cases h1 : lo ≤ n <;> by_cases h2 : n ≤ hi
  all_goals
    go_enter Try.func37, Try.ntmps37
    go_wp2
    go_ret
    first | exact ⟨ret_t ⟨h1, h2⟩, rfl⟩ | exact ⟨ret_f (fun x => by have := x.1; have := x.2; omega), rfl⟩
theorem l1In_t (n lo hi : Int) (w : World) (h : (inB n lo hi)) : Calls Try.prog 37 #[.int .i64 n, .int .i64 lo, .int .i64 hi] w fun e w' => e = .returned (.bool true) ∧ w = w' := by
  have := l1In_any n lo hi w; rw [B_t h] at this; exact this
theorem l1In_f (n lo hi : Int) (w : World) (h : ¬ (inB n lo hi)) : Calls Try.prog 37 #[.int .i64 n, .int .i64 lo, .int .i64 hi] w fun e w' => e = .returned (.bool false) ∧ w = w' := by
  have := l1In_any n lo hi w; rw [B_f h] at this; exact this


theorem l1At_any (s : ByteArray) (p : Int) (w : World) (h1 : 1 ≤ p) (h2 : p ≤ s.size) (hp : p ≤ 1000000) (h3 : 48 ≤ bat s (p - 1)) :
    Calls Try.prog 41 #[.string s, .int .i64 p] w fun e w' => e = .returned (.int .i64 (bat s (p - 1) - 48)) ∧ w = w' := by
  have hb1 := bat_hi s (p - 1)
  go_enter Try.func41, Try.ntmps41
  go_wp2
  go_ret
  exact ⟨rfl, rfl⟩

set_option maxHeartbeats 800000 in
theorem l1Row_any (s : ByteArray) (w : World) :
    Calls Try.prog 38 #[.string s] w fun e w' => e = .returned (.bool (B (isRow s))) ∧ ∃ n, w' = w.drewN n := by
  by_cases hs : 3 ≤ s.size ∧ s.size ≤ 8
  · obtain ⟨h1, h2⟩ := hs
    go_enter Try.func38, Try.ntmps38
    go_wp2_with (go_at_call 37; refine (l1In_t _ _ _ _ ⟨by omega, by omega⟩).mono ?_; rintro e w' ⟨rfl, rfl⟩)
    go_loopw [3] (fun i wr => ∃ k : Nat, k ≤ s.size ∧ i = .int .i64 k ∧ (∀ i : Nat, i < k → 49 ≤ bat s i ∧ bat s i < 49 + s.size) ∧ (∀ i l : Nat, i < l → l < k → bat s i ≠ bat s l) ∧ ∃ n, wr = w.drewN n) (fun i _ => s.size - (intOf i).toNat)
    case atStart => exact ⟨0, by omega, by rfl, by omega, by omega, 0, rfl⟩
    case round =>
      obtain ⟨k, hk, rfl, hr, hd, n, rfl⟩ := hrel
      have Hr := Lib.hid hr
      have Hd := Lib.hid hd
      clear hr hd
      by_cases hlt : k < s.size
      · have hb0 := bat_lo s k
        have hb1 := bat_hi s k
        by_cases c1 : bat s k < 49
        · go_wp2
          go_ret
          refine ⟨ret_f ?_, _, rfl⟩
          intro h; have := (h.2.2.1 k hlt).1; omega
        · by_cases c2 : (s.size : Int) < bat s k - 48
          · go_wp2
            go_ret
            refine ⟨ret_f ?_, _, rfl⟩
            intro h; have := (h.2.2.1 k hlt).2; omega
          · go_wp2
            go_loopw [4] (fun i wr => ∃ l : Nat, l ≤ k ∧ i = .int .i64 l ∧ (∀ i : Nat, i < l → bat s i ≠ bat s k) ∧ ∃ n, wr = w.drewN n) (fun i _ => k - (intOf i).toNat)
            case atStart => exact ⟨0, by omega, by rfl, by omega, n, rfl⟩
            case round =>
              obtain ⟨l, hl, rfl, he, m, rfl⟩ := hrel
              have He := Lib.hid he
              clear he
              by_cases hlt2 : l < k
              · have hb2 := bat_lo s l
                by_cases c3 : bat s l = bat s k
                · have c3b : (bat s l == bat s k) = true := by simpa using c3
                  have C3 := Lib.hid c3
                  clear c3
                  go_wp2
                  go_quiet (fail)
                  go_wp2
                  go_ret
                  refine ⟨ret_f ?_, _, drew2 _ _ _⟩
                  intro h; exact h.2.2.2 l k hlt2 hlt C3.out
                · have c3b : (bat s l == bat s k) = false := by simpa using c3
                  have C3 := Lib.hid c3
                  clear c3
                  go_wp2
                  go_quiet (fail)
                  go_wp2
                  go_roundw
                  case rel =>
                    refine ⟨l + 1, by omega, by go_num, fun i hi => ?_, _, rfl⟩
                    rcases Nat.lt_or_eq_of_le (Nat.le_of_lt_succ hi) with h' | rfl
                    · exact He.out i h'
                    · exact C3.out
                  case measure => simp [intOf]; omega
              · go_wp2
                go_roundw
                case rel =>
                  obtain rfl : l = k := by omega
                  refine ⟨l + 1, by omega, by go_num, fun i hi => ?_, fun i j hi hj => ?_, _, rfl⟩
                  · rcases Nat.lt_or_eq_of_le (Nat.le_of_lt_succ hi) with h' | rfl
                    · exact Hr.out i h'
                    · omega
                  · rcases Nat.lt_or_eq_of_le (Nat.le_of_lt_succ hj) with h' | rfl
                    · exact Hd.out i j hi h'
                    · exact He.out i hi
                case measure => simp [intOf]; omega
      · go_wp2
        go_ret
        obtain rfl : k = s.size := by omega
        exact ⟨ret_t ⟨h1, h2, Hr.out, Hd.out⟩, _, rfl⟩
  · go_enter Try.func38, Try.ntmps38
    go_wp2_with (go_at_call 37; refine (l1In_f _ _ _ _ (fun x => hs ⟨by have := x.1; omega, by have := x.2; omega⟩)).mono ?_; rintro e w' ⟨rfl, rfl⟩)
    go_ret
    refine ⟨ret_f ?_, 0, rfl⟩
    intro h; exact hs ⟨h.1, h.2.1⟩
end Go.Proofs.Ytglnehinmdmgmaa
