/-
  GoodRecord of the program returns what the reference's returns, for all arguments: no condition.
-/
import Derived.Test.YtpedfjcidbopiaaDoorWords
import Derived.Test.YtpedfjcidbopiaaDoorTyRecord
import Derived.Test.YtpedfjcidbopiaaDoorRow
namespace Go.Proofs.YtpedfjcidbopiaaDoor
open Go.RowKit
set_option linter.unusedVariables false
set_option linter.unusedSimpArgs false
set_option maxRecDepth 100000

/-- A good record. -/
def recP (x : Rcd) : Prop := inB x.day 0 99999 ∧ isWordP x.meth ∧ touchP x.touch ∧ inB x.rows 1 800 ∧ isNoteP x.note

set_option maxHeartbeats 800000 in
theorem iRecord_any (x : Rcd) (w : World) (hs : Record_small 1048576 x) :
    Calls Tryd.prog 64 #[.agg #[.int .i64 x.day, .string x.meth, .string x.touch, .int .i64 x.rows, .string x.note]] w fun e w' => e = .returned (.bool (B (recP x))) ∧ Below w.heap.size w w' := by
  obtain ⟨s1, s2, s3⟩ := hs
  by_cases h_0 : inB x.day 0 99999
  rotate_left
  · have H := Lib.hid h_0
    have e_0 := B_f h_0
    clear h_0
    go_enter Tryd.func64, Tryd.ntmps64
    go_wp2_with (first | (go_at_call 118; refine (within_any _ _ _ _).mono ?_; rintro e w' ⟨rfl, rfl⟩) | (go_at_call 125; refine (isWord_any _ _ (by omega)).mono ?_; rintro e w' ⟨rfl, rfl⟩) | (go_at_call 126; refine (touch_any _ _ (by omega)).mono ?_; rintro e w' ⟨rfl, rfl⟩) | (go_at_call 127; refine (isNote_any _ _ (by omega)).mono ?_; rintro e w' ⟨rfl, rfl⟩))
    go_ret
    exact ⟨ret_f (fun x => H.out x.1), (Below.refl _ _).alloc (Nat.le_refl _) _⟩
  have H_0 := Lib.hid h_0
  have e_0 := B_t h_0
  clear h_0
  by_cases h_1 : isWordP x.meth
  rotate_left
  · have H := Lib.hid h_1
    have e_1 := B_f h_1
    clear h_1
    go_enter Tryd.func64, Tryd.ntmps64
    go_wp2_with (first | (go_at_call 118; refine (within_any _ _ _ _).mono ?_; rintro e w' ⟨rfl, rfl⟩) | (go_at_call 125; refine (isWord_any _ _ (by omega)).mono ?_; rintro e w' ⟨rfl, rfl⟩) | (go_at_call 126; refine (touch_any _ _ (by omega)).mono ?_; rintro e w' ⟨rfl, rfl⟩) | (go_at_call 127; refine (isNote_any _ _ (by omega)).mono ?_; rintro e w' ⟨rfl, rfl⟩))
    go_ret
    exact ⟨ret_f (fun x => H.out x.2.1), (Below.refl _ _).alloc (Nat.le_refl _) _⟩
  have H_1 := Lib.hid h_1
  have e_1 := B_t h_1
  clear h_1
  by_cases h_2 : touchP x.touch
  rotate_left
  · have H := Lib.hid h_2
    have e_2 := B_f h_2
    clear h_2
    go_enter Tryd.func64, Tryd.ntmps64
    go_wp2_with (first | (go_at_call 118; refine (within_any _ _ _ _).mono ?_; rintro e w' ⟨rfl, rfl⟩) | (go_at_call 125; refine (isWord_any _ _ (by omega)).mono ?_; rintro e w' ⟨rfl, rfl⟩) | (go_at_call 126; refine (touch_any _ _ (by omega)).mono ?_; rintro e w' ⟨rfl, rfl⟩) | (go_at_call 127; refine (isNote_any _ _ (by omega)).mono ?_; rintro e w' ⟨rfl, rfl⟩))
    go_ret
    exact ⟨ret_f (fun x => H.out x.2.2.1), (Below.refl _ _).alloc (Nat.le_refl _) _⟩
  have H_2 := Lib.hid h_2
  have e_2 := B_t h_2
  clear h_2
  by_cases h_3 : inB x.rows 1 800
  rotate_left
  · have H := Lib.hid h_3
    have e_3 := B_f h_3
    clear h_3
    go_enter Tryd.func64, Tryd.ntmps64
    go_wp2_with (first | (go_at_call 118; refine (within_any _ _ _ _).mono ?_; rintro e w' ⟨rfl, rfl⟩) | (go_at_call 125; refine (isWord_any _ _ (by omega)).mono ?_; rintro e w' ⟨rfl, rfl⟩) | (go_at_call 126; refine (touch_any _ _ (by omega)).mono ?_; rintro e w' ⟨rfl, rfl⟩) | (go_at_call 127; refine (isNote_any _ _ (by omega)).mono ?_; rintro e w' ⟨rfl, rfl⟩))
    go_ret
    exact ⟨ret_f (fun x => H.out x.2.2.2.1), (Below.refl _ _).alloc (Nat.le_refl _) _⟩
  have H_3 := Lib.hid h_3
  have e_3 := B_t h_3
  clear h_3
  by_cases h_4 : isNoteP x.note
  rotate_left
  · have H := Lib.hid h_4
    have e_4 := B_f h_4
    clear h_4
    go_enter Tryd.func64, Tryd.ntmps64
    go_wp2_with (first | (go_at_call 118; refine (within_any _ _ _ _).mono ?_; rintro e w' ⟨rfl, rfl⟩) | (go_at_call 125; refine (isWord_any _ _ (by omega)).mono ?_; rintro e w' ⟨rfl, rfl⟩) | (go_at_call 126; refine (touch_any _ _ (by omega)).mono ?_; rintro e w' ⟨rfl, rfl⟩) | (go_at_call 127; refine (isNote_any _ _ (by omega)).mono ?_; rintro e w' ⟨rfl, rfl⟩))
    go_ret
    exact ⟨ret_f (fun x => H.out x.2.2.2.2), (Below.refl _ _).alloc (Nat.le_refl _) _⟩
  have H_4 := Lib.hid h_4
  have e_4 := B_t h_4
  clear h_4
  go_enter Tryd.func64, Tryd.ntmps64
  go_wp2_with (first | (go_at_call 118; refine (within_any _ _ _ _).mono ?_; rintro e w' ⟨rfl, rfl⟩) | (go_at_call 125; refine (isWord_any _ _ (by omega)).mono ?_; rintro e w' ⟨rfl, rfl⟩) | (go_at_call 126; refine (touch_any _ _ (by omega)).mono ?_; rintro e w' ⟨rfl, rfl⟩) | (go_at_call 127; refine (isNote_any _ _ (by omega)).mono ?_; rintro e w' ⟨rfl, rfl⟩))
  go_ret
  exact ⟨ret_t ⟨H_0.out, H_1.out, H_2.out, H_3.out, H_4.out⟩, (Below.refl _ _).alloc (Nat.le_refl _) _⟩
set_option maxHeartbeats 800000 in
theorem l28Good_any (x : Rcd) (w : World) (hs : Record_small 1048576 x) :
    Calls Tryd.prog 62 #[.agg #[.int .i64 x.day, .string x.meth, .string x.touch, .int .i64 x.rows, .string x.note]] w fun e w' => e = .returned (.bool (B (recP x))) ∧ Below w.heap.size w w' := by
  obtain ⟨s1, s2, s3⟩ := hs
  by_cases h_0 : inB x.day 0 99999
  rotate_left
  · have H := Lib.hid h_0
    have e_0 := B_f h_0
    clear h_0
    go_enter Tryd.func62, Tryd.ntmps62
    go_wp2_with (first | (go_at_call 105; refine (l1In_any _ _ _ _).mono ?_; rintro e w' ⟨rfl, rfl⟩) | (go_at_call 121; refine (l4Name_any _ _ (by omega)).mono ?_; rintro e w' ⟨rfl, rfl⟩) | (go_at_call 122; refine (l9Good_any _ _ (by omega)).mono ?_; rintro e w' ⟨rfl, rfl⟩) | (go_at_call 123; refine (l28Note_any _ _ (by omega)).mono ?_; rintro e w' ⟨rfl, rfl⟩))
    go_ret
    exact ⟨ret_f (fun x => H.out x.1), (Below.refl _ _).alloc (Nat.le_refl _) _⟩
  have H_0 := Lib.hid h_0
  have e_0 := B_t h_0
  clear h_0
  by_cases h_1 : isWordP x.meth
  rotate_left
  · have H := Lib.hid h_1
    have e_1 := B_f h_1
    clear h_1
    go_enter Tryd.func62, Tryd.ntmps62
    go_wp2_with (first | (go_at_call 105; refine (l1In_any _ _ _ _).mono ?_; rintro e w' ⟨rfl, rfl⟩) | (go_at_call 121; refine (l4Name_any _ _ (by omega)).mono ?_; rintro e w' ⟨rfl, rfl⟩) | (go_at_call 122; refine (l9Good_any _ _ (by omega)).mono ?_; rintro e w' ⟨rfl, rfl⟩) | (go_at_call 123; refine (l28Note_any _ _ (by omega)).mono ?_; rintro e w' ⟨rfl, rfl⟩))
    go_ret
    exact ⟨ret_f (fun x => H.out x.2.1), (Below.refl _ _).alloc (Nat.le_refl _) _⟩
  have H_1 := Lib.hid h_1
  have e_1 := B_t h_1
  clear h_1
  by_cases h_2 : touchP x.touch
  rotate_left
  · have H := Lib.hid h_2
    have e_2 := B_f h_2
    clear h_2
    go_enter Tryd.func62, Tryd.ntmps62
    go_wp2_with (first | (go_at_call 105; refine (l1In_any _ _ _ _).mono ?_; rintro e w' ⟨rfl, rfl⟩) | (go_at_call 121; refine (l4Name_any _ _ (by omega)).mono ?_; rintro e w' ⟨rfl, rfl⟩) | (go_at_call 122; refine (l9Good_any _ _ (by omega)).mono ?_; rintro e w' ⟨rfl, rfl⟩) | (go_at_call 123; refine (l28Note_any _ _ (by omega)).mono ?_; rintro e w' ⟨rfl, rfl⟩))
    go_ret
    exact ⟨ret_f (fun x => H.out x.2.2.1), (Below.refl _ _).alloc (Nat.le_refl _) _⟩
  have H_2 := Lib.hid h_2
  have e_2 := B_t h_2
  clear h_2
  by_cases h_3 : inB x.rows 1 800
  rotate_left
  · have H := Lib.hid h_3
    have e_3 := B_f h_3
    clear h_3
    go_enter Tryd.func62, Tryd.ntmps62
    go_wp2_with (first | (go_at_call 105; refine (l1In_any _ _ _ _).mono ?_; rintro e w' ⟨rfl, rfl⟩) | (go_at_call 121; refine (l4Name_any _ _ (by omega)).mono ?_; rintro e w' ⟨rfl, rfl⟩) | (go_at_call 122; refine (l9Good_any _ _ (by omega)).mono ?_; rintro e w' ⟨rfl, rfl⟩) | (go_at_call 123; refine (l28Note_any _ _ (by omega)).mono ?_; rintro e w' ⟨rfl, rfl⟩))
    go_ret
    exact ⟨ret_f (fun x => H.out x.2.2.2.1), (Below.refl _ _).alloc (Nat.le_refl _) _⟩
  have H_3 := Lib.hid h_3
  have e_3 := B_t h_3
  clear h_3
  by_cases h_4 : isNoteP x.note
  rotate_left
  · have H := Lib.hid h_4
    have e_4 := B_f h_4
    clear h_4
    go_enter Tryd.func62, Tryd.ntmps62
    go_wp2_with (first | (go_at_call 105; refine (l1In_any _ _ _ _).mono ?_; rintro e w' ⟨rfl, rfl⟩) | (go_at_call 121; refine (l4Name_any _ _ (by omega)).mono ?_; rintro e w' ⟨rfl, rfl⟩) | (go_at_call 122; refine (l9Good_any _ _ (by omega)).mono ?_; rintro e w' ⟨rfl, rfl⟩) | (go_at_call 123; refine (l28Note_any _ _ (by omega)).mono ?_; rintro e w' ⟨rfl, rfl⟩))
    go_ret
    exact ⟨ret_f (fun x => H.out x.2.2.2.2), (Below.refl _ _).alloc (Nat.le_refl _) _⟩
  have H_4 := Lib.hid h_4
  have e_4 := B_t h_4
  clear h_4
  go_enter Tryd.func62, Tryd.ntmps62
  go_wp2_with (first | (go_at_call 105; refine (l1In_any _ _ _ _).mono ?_; rintro e w' ⟨rfl, rfl⟩) | (go_at_call 121; refine (l4Name_any _ _ (by omega)).mono ?_; rintro e w' ⟨rfl, rfl⟩) | (go_at_call 122; refine (l9Good_any _ _ (by omega)).mono ?_; rintro e w' ⟨rfl, rfl⟩) | (go_at_call 123; refine (l28Note_any _ _ (by omega)).mono ?_; rintro e w' ⟨rfl, rfl⟩))
  go_ret
  exact ⟨ret_t ⟨H_0.out, H_1.out, H_2.out, H_3.out, H_4.out⟩, (Below.refl _ _).alloc (Nat.le_refl _) _⟩
end Go.Proofs.YtpedfjcidbopiaaDoor
