import Derived.Test.YtkegbbndmfnolaaGreatDoorMHeardL28
/-
  Decimal numbers read: contracts of both sides.
-/
namespace Go.Proofs.YtkegbbndmfnolaaGreatDoor
open Go.RowKit
set_option linter.unusedVariables false
set_option linter.unusedSimpArgs false
set_option maxRecDepth 100000

/-- A number of at most so many digits in its one form. -/
def numP (s : ByteArray) (most : Int) : Prop := (s.size : Int) ≤ most ∧ SplT.canon s.data.toList
def numN (s : ByteArray) : Nat := SplT.digVal s.data.toList
/-- The first k bytes are digits. -/
def DigTo (s : ByteArray) (k : Nat) : Prop := ∀ j, j < k → 48 ≤ bat s (j : Int) ∧ bat s (j : Int) ≤ 57
theorem digTo_all {s : ByteArray} {k : Nat} (h : DigTo s k) (hk : k ≤ s.size) : ∀ d ∈ s.data.toList.take k, SplT.isDig d := by
  intro d hd
  obtain ⟨j, hj, e⟩ := List.getElem_of_mem hd
  have hs : s.data.toList.length = s.size := rfl
  have hj2 : j < k := by simp at hj; omega
  have := h j hj2
  rw [bat_get (by omega)] at this
  rw [List.getElem_take] at e
  subst e
  unfold SplT.isDig; omega
theorem digTo_succ {s : ByteArray} {k : Nat} (h : DigTo s k) (hb : 48 ≤ bat s (k : Int) ∧ bat s (k : Int) ≤ 57) : DigTo s (k + 1) := fun j hj => by
  rcases Nat.lt_or_eq_of_le (Nat.le_of_lt_succ hj) with h1 | rfl
  · exact h j h1
  · exact hb
theorem digVal_take {s : ByteArray} {k : Nat} (hk : k < s.size) : (SplT.digVal (s.data.toList.take (k + 1)) : Int) = 10 * (SplT.digVal (s.data.toList.take k) : Int) + ((s.data.toList[k]'hk).toNat - 48 : Nat) := by
  have e : s.data.toList.take (k + 1) = s.data.toList.take k ++ [s.data.toList[k]'hk] := List.take_succ_eq_append_getElem hk
  rw [e, SplT.digVal_snoc]
  omega
theorem canon_of {s : ByteArray} (h0 : 0 < s.size) (hd : DigTo s s.size) (hz : ¬ (1 < s.size ∧ bat s 0 = 48)) : SplT.canon s.data.toList := by
  have hs : s.data.toList.length = s.size := rfl
  refine ⟨fun e => by rw [e] at hs; simp at hs; omega, fun d hm => digTo_all hd (Nat.le_refl _) d (by rw [List.take_of_length_le (by omega)]; exact hm), ?_⟩
  by_cases h1 : s.size = 1
  · exact .inl (by omega)
  · refine .inr fun e => hz ⟨by omega, ?_⟩
    rw [List.head?_eq_getElem?, List.getElem?_eq_getElem (by omega)] at e
    injection e with e
    rw [show (0 : Int) = ((0 : Nat) : Int) from rfl, bat_get (by omega), e]; rfl
theorem not_num_digit {s : ByteArray} {most : Int} {k : Nat} (hk : k < s.size) (hb : ¬ (48 ≤ bat s (k : Int) ∧ bat s (k : Int) ≤ 57)) : ¬ numP s most := fun ⟨_, _, h, _⟩ => by
  have hs : s.data.toList.length = s.size := rfl
  have := h _ (List.getElem_mem (l := s.data.toList) (n := k) (by omega))
  apply hb
  rw [bat_get (by omega)]
  unfold SplT.isDig at this; omega
theorem not_num_zero {s : ByteArray} {most : Int} (h1 : 1 < s.size) (hb : bat s 0 = 48) : ¬ numP s most := fun ⟨_, _, _, h⟩ => by
  have hs : s.data.toList.length = s.size := rfl
  rcases h with h | h
  · omega
  · apply h
    rw [show (0 : Int) = ((0 : Nat) : Int) from rfl, bat_get (by omega)] at hb
    rw [List.head?_eq_getElem?, List.getElem?_eq_getElem (by omega)]
    exact congrArg some (UInt8.toNat_inj.1 (by have : (48 : UInt8).toNat = 48 := rfl; omega))
theorem not_num_empty {s : ByteArray} {most : Int} (h : s.size < 1) : ¬ numP s most := fun ⟨_, h1, _⟩ => by
  have hs : s.data.toList.length = s.size := rfl
  exact h1 (List.eq_nil_of_length_eq_zero (by omega))
def NumPost (s : ByteArray) (most : Int) (w : World) (e : Ending) (w' : World) : Prop := ∃ r b, e = .returned (.tuple #[.int .i64 r, .bool b]) ∧ ((b = true ∧ numP s most ∧ r = (numN s : Int)) ∨ (b = false ∧ ¬ numP s most ∧ r = 0)) ∧ Below w.heap.size w w'
theorem numNo {s : ByteArray} {most : Int} {w w' : World} {e : Ending} (h : e = .returned (.tuple #[.int .i64 0, .bool false])) (hn : ¬ numP s most) (hb : Below w.heap.size w w') : NumPost s most w e w' := ⟨0, false, h, .inr ⟨rfl, hn, rfl⟩, hb⟩
theorem numYes {s : ByteArray} {most : Int} {n : Nat} {w w' : World} {e : Ending} (h : e = .returned (.tuple #[.int .i64 (n : Int), .bool true])) (hn : numP s most ∧ n = numN s) (hb : Below w.heap.size w w') : NumPost s most w e w' := ⟨n, true, h, .inl ⟨rfl, hn.1, by rw [hn.2]⟩, hb⟩

set_option maxHeartbeats 1600000 in
theorem number_any (s : ByteArray) (most : Int) (w : World) (hm : most ≤ 8) (hsz : s.size ≤ 1048576) :
    Calls Tryz.prog 91 #[.string s, .int .i64 most] w fun e w' => NumPost s most w e w' := by
  by_cases h1 : s.size < 1
  · have hno : Hid (¬ numP s most) := Lib.hid (not_num_empty h1)
    have e1 : decide ((s.size : Int) < 1) = true := by simp; omega
    go_enter Tryz.func91, Tryz.ntmps91
    go_wp2
    go_ret2
    first | exact numNo rfl hno.out (Below.refl _ _) | exact .inl ⟨rfl, ⟨hno.out, rfl⟩, Below.refl _ _⟩ | exact ⟨_, .inl ⟨rfl, ⟨hno.out, rfl⟩, Below.refl _ _⟩⟩
  have e1 : decide ((s.size : Int) < 1) = false := by simp; omega
  by_cases h2 : most < (s.size : Int)
  · have hno : Hid (¬ numP s most) := Lib.hid (fun h => by have := h.1; omega)
    have e2 : decide (most < (s.size : Int)) = true := decide_eq_true h2
    go_enter Tryz.func91, Tryz.ntmps91
    go_wp2
    go_ret2
    first | exact numNo rfl hno.out (Below.refl _ _) | exact .inl ⟨rfl, ⟨hno.out, rfl⟩, Below.refl _ _⟩ | exact ⟨_, .inl ⟨rfl, ⟨hno.out, rfl⟩, Below.refl _ _⟩⟩
  have hmost : (s.size : Int) ≤ most := by omega
  have e2 : decide (most < (s.size : Int)) = false := decide_eq_false h2
  by_cases h3 : 1 < s.size
  · have e3 : decide ((1 : Int) < (s.size : Int)) = true := by simp; omega
    by_cases h4 : bat s 0 = 48
    · have hno : Hid (¬ numP s most) := Lib.hid (not_num_zero h3 h4)
      have e4 : (bat s 0 == 48) = true := by simpa using h4
      clear h4
      go_enter Tryz.func91, Tryz.ntmps91
      go_wp2
      go_ret2
      first | exact numNo rfl hno.out (Below.refl _ _) | exact .inl ⟨rfl, ⟨hno.out, rfl⟩, Below.refl _ _⟩ | exact ⟨_, .inl ⟨rfl, ⟨hno.out, rfl⟩, Below.refl _ _⟩⟩
    · have hzz : Hid (¬ (1 < s.size ∧ bat s 0 = 48)) := Lib.hid (fun h => h4 h.2)
      have e4 : (bat s 0 == 48) = false := by simpa using h4
      clear h4
      go_enter Tryz.func91, Tryz.ntmps91
      go_wp2
      skip
      go_loopw [6, 29] (fun v i wr => ∃ (k n : Nat), k ≤ s.size ∧ i = .int .i64 (k : Int) ∧ v = .int .i64 (n : Int) ∧ Hid (DigTo s k) ∧ Hid (n = SplT.digVal (s.data.toList.take k)) ∧ n < 10 ^ k ∧ Below w.heap.size w wr) (fun _ i _ => s.size - (intOf i).toNat)
      case atStart => exact ⟨0, 0, by omega, by rfl, by rfl, Lib.hid (fun j h => by omega), Lib.hid rfl, by decide, Below.refl _ _⟩
      case round =>
        obtain ⟨k, n, hk, rfl, rfl, hdg, hn, hn9, hbl⟩ := hrel
        have Hbl := Lib.hid hbl
        clear hbl
        by_cases hlt : k < s.size
        · have hk9 : 10 ^ k ≤ 10 ^ 8 := Nat.pow_le_pow_right (by decide) (by omega)
          have hn8 : n < 100000000 := Nat.lt_of_lt_of_le hn9 hk9
          obtain ⟨b, hb⟩ : ∃ b, Hid (bat s (k : Int) = b) := ⟨_, Lib.hid rfl⟩
          have hb0 : 0 ≤ b := by rw [← hb.out]; exact bat_lo _ _
          have hb1 : b < 256 := by rw [← hb.out]; exact bat_hi _ _
          by_cases hd1 : 48 ≤ b
          · by_cases hd2 : b ≤ 57
            · have hdg2 : Hid (DigTo s (k + 1)) := Lib.hid (digTo_succ hdg.out (by rw [hb.out]; exact ⟨hd1, hd2⟩))
              obtain ⟨n2, hn2⟩ : ∃ n2, Hid (n2 = SplT.digVal (s.data.toList.take (k + 1))) := ⟨_, Lib.hid rfl⟩
              have hv : (n2 : Int) = 10 * (n : Int) + (b - 48) := by
                have h1 := digVal_take (s := s) hlt
                rw [← hn2.out, ← hn.out] at h1
                have h2 : bat s (k : Int) = _ := bat_get (show k < s.data.toList.length from hlt)
                rw [hb.out] at h2
                rw [h1]; omega
              have hn10 : n2 < 10 ^ (k + 1) := by rw [Nat.pow_succ]; omega
              have e1 : decide (bat s (k : Int) < 48) = false := by rw [hb.out]; simp; omega
              have e2 : decide (57 < bat s (k : Int)) = false := by rw [hb.out]; simp; omega
              have a1 : IntKind.u8.wrap (bat s (k : Int) - 48) = b - 48 := by rw [hb.out]; exact IntWalk.u8_in _ (by omega)
              have a2 : IntKind.i64.wrap (b - 48) = b - 48 := IntWalk.i64_in _ (by omega)
              have a3 : IntKind.i64.wrap (10 * (n : Int)) = 10 * (n : Int) := IntWalk.i64_in _ (by omega)
              have a4 : IntKind.i64.wrap (10 * (n : Int) + (b - 48)) = (n2 : Int) := by rw [hv]; exact IntWalk.i64_in _ (by omega)
              clear hv hk9 hn9
              go_wp2
              go_roundw
              case rel => exact ⟨k + 1, n2, by omega, by go_num, rfl, hdg2, hn2, hn10, Hbl.out⟩
              case measure => simp [intOf]; omega
            · have e1 : decide (bat s (k : Int) < 48) = false := by rw [hb.out]; simp; omega
              have e2 : decide (57 < bat s (k : Int)) = true := by rw [hb.out]; simp; omega
              have hno : Hid (¬ numP s (most)) := Lib.hid (not_num_digit hlt (by rw [hb.out]; omega))
              go_wp2
              go_ret2
              first | exact numNo rfl hno.out Hbl.out | exact .inl ⟨rfl, ⟨hno.out, rfl⟩, Hbl.out⟩ | exact ⟨_, .inl ⟨rfl, ⟨hno.out, rfl⟩, Hbl.out⟩⟩
          · have e1 : decide (bat s (k : Int) < 48) = true := by rw [hb.out]; simp; omega
            have hno : Hid (¬ numP s (most)) := Lib.hid (not_num_digit hlt (by rw [hb.out]; omega))
            go_wp2
            go_ret2
            first | exact numNo rfl hno.out Hbl.out | exact .inl ⟨rfl, ⟨hno.out, rfl⟩, Hbl.out⟩ | exact ⟨_, .inl ⟨rfl, ⟨hno.out, rfl⟩, Hbl.out⟩⟩
        · obtain rfl : k = s.size := by omega
          have hyes : Hid (numP s (most) ∧ n = numN s) := Lib.hid ⟨⟨hmost, canon_of (by omega) hdg.out hzz.out⟩, by rw [hn.out]; unfold numN; rw [List.take_of_length_le (show s.data.toList.length ≤ s.size from Nat.le_refl _)]⟩
          go_wp2
          go_ret2
          first | exact numYes rfl hyes.out Hbl.out | exact .inr ⟨rfl, ⟨hyes.out.1, by rw [hyes.out.2]⟩, Hbl.out⟩
  · have e3 : decide ((1 : Int) < (s.size : Int)) = false := by simp; omega
    have hzz : Hid (¬ (1 < s.size ∧ bat s 0 = 48)) := Lib.hid (fun h => h3 h.1)
    go_enter Tryz.func91, Tryz.ntmps91
    go_wp2
    skip
    go_loopw [6, 29] (fun v i wr => ∃ (k n : Nat), k ≤ s.size ∧ i = .int .i64 (k : Int) ∧ v = .int .i64 (n : Int) ∧ Hid (DigTo s k) ∧ Hid (n = SplT.digVal (s.data.toList.take k)) ∧ n < 10 ^ k ∧ Below w.heap.size w wr) (fun _ i _ => s.size - (intOf i).toNat)
    case atStart => exact ⟨0, 0, by omega, by rfl, by rfl, Lib.hid (fun j h => by omega), Lib.hid rfl, by decide, Below.refl _ _⟩
    case round =>
      obtain ⟨k, n, hk, rfl, rfl, hdg, hn, hn9, hbl⟩ := hrel
      have Hbl := Lib.hid hbl
      clear hbl
      by_cases hlt : k < s.size
      · have hk9 : 10 ^ k ≤ 10 ^ 8 := Nat.pow_le_pow_right (by decide) (by omega)
        have hn8 : n < 100000000 := Nat.lt_of_lt_of_le hn9 hk9
        obtain ⟨b, hb⟩ : ∃ b, Hid (bat s (k : Int) = b) := ⟨_, Lib.hid rfl⟩
        have hb0 : 0 ≤ b := by rw [← hb.out]; exact bat_lo _ _
        have hb1 : b < 256 := by rw [← hb.out]; exact bat_hi _ _
        by_cases hd1 : 48 ≤ b
        · by_cases hd2 : b ≤ 57
          · have hdg2 : Hid (DigTo s (k + 1)) := Lib.hid (digTo_succ hdg.out (by rw [hb.out]; exact ⟨hd1, hd2⟩))
            obtain ⟨n2, hn2⟩ : ∃ n2, Hid (n2 = SplT.digVal (s.data.toList.take (k + 1))) := ⟨_, Lib.hid rfl⟩
            have hv : (n2 : Int) = 10 * (n : Int) + (b - 48) := by
              have h1 := digVal_take (s := s) hlt
              rw [← hn2.out, ← hn.out] at h1
              have h2 : bat s (k : Int) = _ := bat_get (show k < s.data.toList.length from hlt)
              rw [hb.out] at h2
              rw [h1]; omega
            have hn10 : n2 < 10 ^ (k + 1) := by rw [Nat.pow_succ]; omega
            have e1 : decide (bat s (k : Int) < 48) = false := by rw [hb.out]; simp; omega
            have e2 : decide (57 < bat s (k : Int)) = false := by rw [hb.out]; simp; omega
            have a1 : IntKind.u8.wrap (bat s (k : Int) - 48) = b - 48 := by rw [hb.out]; exact IntWalk.u8_in _ (by omega)
            have a2 : IntKind.i64.wrap (b - 48) = b - 48 := IntWalk.i64_in _ (by omega)
            have a3 : IntKind.i64.wrap (10 * (n : Int)) = 10 * (n : Int) := IntWalk.i64_in _ (by omega)
            have a4 : IntKind.i64.wrap (10 * (n : Int) + (b - 48)) = (n2 : Int) := by rw [hv]; exact IntWalk.i64_in _ (by omega)
            clear hv hk9 hn9
            go_wp2
            go_roundw
            case rel => exact ⟨k + 1, n2, by omega, by go_num, rfl, hdg2, hn2, hn10, Hbl.out⟩
            case measure => simp [intOf]; omega
          · have e1 : decide (bat s (k : Int) < 48) = false := by rw [hb.out]; simp; omega
            have e2 : decide (57 < bat s (k : Int)) = true := by rw [hb.out]; simp; omega
            have hno : Hid (¬ numP s (most)) := Lib.hid (not_num_digit hlt (by rw [hb.out]; omega))
            go_wp2
            go_ret2
            first | exact numNo rfl hno.out Hbl.out | exact .inl ⟨rfl, ⟨hno.out, rfl⟩, Hbl.out⟩ | exact ⟨_, .inl ⟨rfl, ⟨hno.out, rfl⟩, Hbl.out⟩⟩
        · have e1 : decide (bat s (k : Int) < 48) = true := by rw [hb.out]; simp; omega
          have hno : Hid (¬ numP s (most)) := Lib.hid (not_num_digit hlt (by rw [hb.out]; omega))
          go_wp2
          go_ret2
          first | exact numNo rfl hno.out Hbl.out | exact .inl ⟨rfl, ⟨hno.out, rfl⟩, Hbl.out⟩ | exact ⟨_, .inl ⟨rfl, ⟨hno.out, rfl⟩, Hbl.out⟩⟩
      · obtain rfl : k = s.size := by omega
        have hyes : Hid (numP s (most) ∧ n = numN s) := Lib.hid ⟨⟨hmost, canon_of (by omega) hdg.out hzz.out⟩, by rw [hn.out]; unfold numN; rw [List.take_of_length_le (show s.data.toList.length ≤ s.size from Nat.le_refl _)]⟩
        go_wp2
        go_ret2
        first | exact numYes rfl hyes.out Hbl.out | exact .inr ⟨rfl, ⟨hyes.out.1, by rw [hyes.out.2]⟩, Hbl.out⟩
/-- The reference's reading of a number. -/
noncomputable def readV (s : ByteArray) : Int := @ite Int (numP s 6) (Classical.propDecidable _) (numN s : Int) (-1)
theorem readV_t {s : ByteArray} (h : numP s 6) : readV s = (numN s : Int) := by unfold readV; exact if_pos h
theorem readV_f {s : ByteArray} (h : ¬ numP s 6) : readV s = -1 := by unfold readV; exact if_neg h


set_option maxHeartbeats 1600000 in
theorem l1Read_any (s : ByteArray) (w : World) (hsz : s.size ≤ 1048576) :
    Calls Tryz.prog 93 #[.string s] w fun e w' => e = .returned (.int .i64 (readV s)) ∧ Below w.heap.size w w' := by
  have Hbl : Hid (Below w.heap.size w w) := Lib.hid (Below.refl _ _)
  by_cases h1 : inB (s.size : Int) 1 6
  rotate_left
  · have hno : Hid (¬ numP s 6) := Lib.hid (fun h => by
      have h2 := h.1
      by_cases h3 : s.size < 1
      · exact not_num_empty h3 h
      · exact h1 ⟨by omega, by omega⟩)
    have e1 := B_f h1
    clear h1
    go_enter Tryz.func93, Tryz.ntmps93
    go_wp2_with (go_at_call 99; refine (l1In_any _ _ _ _).mono ?_; rintro e w' ⟨rfl, rfl⟩)
    go_ret
    exact ⟨by rw [readV_f hno.out]; rfl, Hbl.out⟩
  have e1 := B_t h1
  obtain ⟨h11, h12⟩ := h1
  have hmost : (s.size : Int) ≤ (6 : Int) := h12
  have hm : (6 : Int) ≤ 8 := by omega
  have hs1 : 0 < s.size := by omega
  clear h11 h12
  by_cases h4 : bat s 0 = 48
  · have e4 : (bat s 0 == 48) = true := by simpa using h4
    by_cases h3 : 1 < s.size
    · have e3 : decide ((1 : Int) < (s.size : Int)) = true := by simp; omega
      have hno : Hid (¬ numP s 6) := Lib.hid (not_num_zero h3 h4)
      clear h4
      go_enter Tryz.func93, Tryz.ntmps93
      go_wp2_with (go_at_call 99; refine (l1In_any _ _ _ _).mono ?_; rintro e w' ⟨rfl, rfl⟩)
      go_ret
      exact ⟨by rw [readV_f hno.out]; rfl, Hbl.out⟩
    · have e3 : decide ((1 : Int) < (s.size : Int)) = false := by simp; omega
      have hzz : Hid (¬ (1 < s.size ∧ bat s 0 = 48)) := Lib.hid (fun h => h3 h.1)
      clear h4 Hbl
      go_enter Tryz.func93, Tryz.ntmps93
      go_wp2_with (go_at_call 99; refine (l1In_any _ _ _ _).mono ?_; rintro e w' ⟨rfl, rfl⟩)
      skip
      go_loopw [3, 4] (fun v i wr => ∃ (k n : Nat), k ≤ s.size ∧ i = .int .i64 (k : Int) ∧ v = .int .i64 (n : Int) ∧ Hid (DigTo s k) ∧ Hid (n = SplT.digVal (s.data.toList.take k)) ∧ n < 10 ^ k ∧ Below w.heap.size w wr) (fun _ i _ => s.size - (intOf i).toNat)
      case atStart => exact ⟨0, 0, by omega, by rfl, by rfl, Lib.hid (fun j h => by omega), Lib.hid rfl, by decide, Below.refl _ _⟩
      case round =>
        obtain ⟨k, n, hk, rfl, rfl, hdg, hn, hn9, hbl⟩ := hrel
        have Hbl := Lib.hid hbl
        clear hbl
        by_cases hlt : k < s.size
        · have hk9 : 10 ^ k ≤ 10 ^ 8 := Nat.pow_le_pow_right (by decide) (by omega)
          have hn8 : n < 100000000 := Nat.lt_of_lt_of_le hn9 hk9
          obtain ⟨b, hb⟩ : ∃ b, Hid (bat s (k : Int) = b) := ⟨_, Lib.hid rfl⟩
          have hb0 : 0 ≤ b := by rw [← hb.out]; exact bat_lo _ _
          have hb1 : b < 256 := by rw [← hb.out]; exact bat_hi _ _
          by_cases hd1 : 48 ≤ b
          · by_cases hd2 : b ≤ 57
            · have hdg2 : Hid (DigTo s (k + 1)) := Lib.hid (digTo_succ hdg.out (by rw [hb.out]; exact ⟨hd1, hd2⟩))
              obtain ⟨n2, hn2⟩ : ∃ n2, Hid (n2 = SplT.digVal (s.data.toList.take (k + 1))) := ⟨_, Lib.hid rfl⟩
              have hv : (n2 : Int) = 10 * (n : Int) + (b - 48) := by
                have h1 := digVal_take (s := s) hlt
                rw [← hn2.out, ← hn.out] at h1
                have h2 : bat s (k : Int) = _ := bat_get (show k < s.data.toList.length from hlt)
                rw [hb.out] at h2
                rw [h1]; omega
              have hn10 : n2 < 10 ^ (k + 1) := by rw [Nat.pow_succ]; omega
              have e1 : decide (bat s (k : Int) < 48) = false := by rw [hb.out]; simp; omega
              have e2 : decide (57 < bat s (k : Int)) = false := by rw [hb.out]; simp; omega
              have a1 : IntKind.u8.wrap (bat s (k : Int) - 48) = b - 48 := by rw [hb.out]; exact IntWalk.u8_in _ (by omega)
              have a2 : IntKind.i64.wrap (b - 48) = b - 48 := IntWalk.i64_in _ (by omega)
              have a3 : IntKind.i64.wrap (10 * (n : Int)) = 10 * (n : Int) := IntWalk.i64_in _ (by omega)
              have a4 : IntKind.i64.wrap (10 * (n : Int) + (b - 48)) = (n2 : Int) := by rw [hv]; exact IntWalk.i64_in _ (by omega)
              clear hv hk9 hn9
              go_wp2
              go_roundw
              case rel => exact ⟨k + 1, n2, by omega, by go_num, rfl, hdg2, hn2, hn10, Hbl.out⟩
              case measure => simp [intOf]; omega
            · have e1 : decide (bat s (k : Int) < 48) = false := by rw [hb.out]; simp; omega
              have e2 : decide (57 < bat s (k : Int)) = true := by rw [hb.out]; simp; omega
              have hno : Hid (¬ numP s (6)) := Lib.hid (not_num_digit hlt (by rw [hb.out]; omega))
              go_wp2
              go_ret
              exact ⟨by rw [readV_f hno.out]; rfl, Hbl.out⟩
          · have e1 : decide (bat s (k : Int) < 48) = true := by rw [hb.out]; simp; omega
            have hno : Hid (¬ numP s (6)) := Lib.hid (not_num_digit hlt (by rw [hb.out]; omega))
            go_wp2
            go_ret
            exact ⟨by rw [readV_f hno.out]; rfl, Hbl.out⟩
        · obtain rfl : k = s.size := by omega
          have hyes : Hid (numP s (6) ∧ n = numN s) := Lib.hid ⟨⟨hmost, canon_of (by omega) hdg.out hzz.out⟩, by rw [hn.out]; unfold numN; rw [List.take_of_length_le (show s.data.toList.length ≤ s.size from Nat.le_refl _)]⟩
          go_wp2
          go_ret
          exact ⟨by rw [readV_t hyes.out.1, ← hyes.out.2]; rfl, Hbl.out⟩
  · have hzz : Hid (¬ (1 < s.size ∧ bat s 0 = 48)) := Lib.hid (fun h => h4 h.2)
    have e4 : (bat s 0 == 48) = false := by simpa using h4
    clear h4 Hbl
    go_enter Tryz.func93, Tryz.ntmps93
    go_wp2_with (go_at_call 99; refine (l1In_any _ _ _ _).mono ?_; rintro e w' ⟨rfl, rfl⟩)
    skip
    go_loopw [3, 4] (fun v i wr => ∃ (k n : Nat), k ≤ s.size ∧ i = .int .i64 (k : Int) ∧ v = .int .i64 (n : Int) ∧ Hid (DigTo s k) ∧ Hid (n = SplT.digVal (s.data.toList.take k)) ∧ n < 10 ^ k ∧ Below w.heap.size w wr) (fun _ i _ => s.size - (intOf i).toNat)
    case atStart => exact ⟨0, 0, by omega, by rfl, by rfl, Lib.hid (fun j h => by omega), Lib.hid rfl, by decide, Below.refl _ _⟩
    case round =>
      obtain ⟨k, n, hk, rfl, rfl, hdg, hn, hn9, hbl⟩ := hrel
      have Hbl := Lib.hid hbl
      clear hbl
      by_cases hlt : k < s.size
      · have hk9 : 10 ^ k ≤ 10 ^ 8 := Nat.pow_le_pow_right (by decide) (by omega)
        have hn8 : n < 100000000 := Nat.lt_of_lt_of_le hn9 hk9
        obtain ⟨b, hb⟩ : ∃ b, Hid (bat s (k : Int) = b) := ⟨_, Lib.hid rfl⟩
        have hb0 : 0 ≤ b := by rw [← hb.out]; exact bat_lo _ _
        have hb1 : b < 256 := by rw [← hb.out]; exact bat_hi _ _
        by_cases hd1 : 48 ≤ b
        · by_cases hd2 : b ≤ 57
          · have hdg2 : Hid (DigTo s (k + 1)) := Lib.hid (digTo_succ hdg.out (by rw [hb.out]; exact ⟨hd1, hd2⟩))
            obtain ⟨n2, hn2⟩ : ∃ n2, Hid (n2 = SplT.digVal (s.data.toList.take (k + 1))) := ⟨_, Lib.hid rfl⟩
            have hv : (n2 : Int) = 10 * (n : Int) + (b - 48) := by
              have h1 := digVal_take (s := s) hlt
              rw [← hn2.out, ← hn.out] at h1
              have h2 : bat s (k : Int) = _ := bat_get (show k < s.data.toList.length from hlt)
              rw [hb.out] at h2
              rw [h1]; omega
            have hn10 : n2 < 10 ^ (k + 1) := by rw [Nat.pow_succ]; omega
            have e1 : decide (bat s (k : Int) < 48) = false := by rw [hb.out]; simp; omega
            have e2 : decide (57 < bat s (k : Int)) = false := by rw [hb.out]; simp; omega
            have a1 : IntKind.u8.wrap (bat s (k : Int) - 48) = b - 48 := by rw [hb.out]; exact IntWalk.u8_in _ (by omega)
            have a2 : IntKind.i64.wrap (b - 48) = b - 48 := IntWalk.i64_in _ (by omega)
            have a3 : IntKind.i64.wrap (10 * (n : Int)) = 10 * (n : Int) := IntWalk.i64_in _ (by omega)
            have a4 : IntKind.i64.wrap (10 * (n : Int) + (b - 48)) = (n2 : Int) := by rw [hv]; exact IntWalk.i64_in _ (by omega)
            clear hv hk9 hn9
            go_wp2
            go_roundw
            case rel => exact ⟨k + 1, n2, by omega, by go_num, rfl, hdg2, hn2, hn10, Hbl.out⟩
            case measure => simp [intOf]; omega
          · have e1 : decide (bat s (k : Int) < 48) = false := by rw [hb.out]; simp; omega
            have e2 : decide (57 < bat s (k : Int)) = true := by rw [hb.out]; simp; omega
            have hno : Hid (¬ numP s (6)) := Lib.hid (not_num_digit hlt (by rw [hb.out]; omega))
            go_wp2
            go_ret
            exact ⟨by rw [readV_f hno.out]; rfl, Hbl.out⟩
        · have e1 : decide (bat s (k : Int) < 48) = true := by rw [hb.out]; simp; omega
          have hno : Hid (¬ numP s (6)) := Lib.hid (not_num_digit hlt (by rw [hb.out]; omega))
          go_wp2
          go_ret
          exact ⟨by rw [readV_f hno.out]; rfl, Hbl.out⟩
      · obtain rfl : k = s.size := by omega
        have hyes : Hid (numP s (6) ∧ n = numN s) := Lib.hid ⟨⟨hmost, canon_of (by omega) hdg.out hzz.out⟩, by rw [hn.out]; unfold numN; rw [List.take_of_length_le (show s.data.toList.length ≤ s.size from Nat.le_refl _)]⟩
        go_wp2
        go_ret
        exact ⟨by rw [readV_t hyes.out.1, ← hyes.out.2]; rfl, Hbl.out⟩
end Go.Proofs.YtkegbbndmfnolaaGreatDoor
