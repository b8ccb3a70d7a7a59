/-
  GoodRecord of the program returns what the reference's returns, for all arguments: no condition.
-/
import Derived.Test.YtkmakmbdfeojcaaWords
import Derived.Test.YtkmakmbdfeojcaaTyRecord
import Derived.Test.YtkmakmbdfeojcaaRow
namespace Go.Proofs.Ytkmakmbdfeojcaa
open Go.RowKit
set_option linter.unusedVariables false
set_option linter.unusedSimpArgs false
set_option maxRecDepth 100000

/-- A good record. -/
def recP (x : Rcd) : Prop := inB x.day 0 99999 ∧ isWordP x.meth ∧ touchP x.touch ∧ inB x.rows 1 800 ∧ isNoteP x.note

set_option maxHeartbeats 800000 in
theorem iRecord_any (x : Rcd) (w : World) (hs : Record_small 1048576 x) :
    Calls Try.prog 20 #[.agg #[.int .i64 x.day, .string x.meth, .string x.touch, .int .i64 x.rows, .string x.note]] w fun e w' => e = .returned (.bool (B (recP x))) ∧ Below w.heap.size w w' := by
  obtain ⟨s1, s2, s3⟩ := hs
  by_cases h_0 : inB x.day 0 99999
  rotate_left
  · have H := Lib.hid h_0
    have e_0 := B_f h_0
    clear h_0
    go_enter Try.func20, Try.ntmps20
    go_wp2_with (first | (go_at_call 71; refine (within_any _ _ _ _).mono ?_; rintro e w' ⟨rfl, rfl⟩) | (go_at_call 72; refine (isWord_any _ _ (by omega)).mono ?_; rintro e w' ⟨rfl, rfl⟩) | (go_at_call 73; refine (touch_any _ _ (by omega)).mono ?_; rintro e w' ⟨rfl, rfl⟩) | (go_at_call 74; refine (isNote_any _ _ (by omega)).mono ?_; rintro e w' ⟨rfl, rfl⟩))
    go_ret
    exact ⟨ret_f (fun x => H.out x.1), (Below.refl _ _).alloc (Nat.le_refl _) _⟩
  have H_0 := Lib.hid h_0
  have e_0 := B_t h_0
  clear h_0
  by_cases h_1 : isWordP x.meth
  rotate_left
  · have H := Lib.hid h_1
    have e_1 := B_f h_1
    clear h_1
    go_enter Try.func20, Try.ntmps20
    go_wp2_with (first | (go_at_call 71; refine (within_any _ _ _ _).mono ?_; rintro e w' ⟨rfl, rfl⟩) | (go_at_call 72; refine (isWord_any _ _ (by omega)).mono ?_; rintro e w' ⟨rfl, rfl⟩) | (go_at_call 73; refine (touch_any _ _ (by omega)).mono ?_; rintro e w' ⟨rfl, rfl⟩) | (go_at_call 74; refine (isNote_any _ _ (by omega)).mono ?_; rintro e w' ⟨rfl, rfl⟩))
    go_ret
    exact ⟨ret_f (fun x => H.out x.2.1), (Below.refl _ _).alloc (Nat.le_refl _) _⟩
  have H_1 := Lib.hid h_1
  have e_1 := B_t h_1
  clear h_1
  by_cases h_2 : touchP x.touch
  rotate_left
  · have H := Lib.hid h_2
    have e_2 := B_f h_2
    clear h_2
    go_enter Try.func20, Try.ntmps20
    go_wp2_with (first | (go_at_call 71; refine (within_any _ _ _ _).mono ?_; rintro e w' ⟨rfl, rfl⟩) | (go_at_call 72; refine (isWord_any _ _ (by omega)).mono ?_; rintro e w' ⟨rfl, rfl⟩) | (go_at_call 73; refine (touch_any _ _ (by omega)).mono ?_; rintro e w' ⟨rfl, rfl⟩) | (go_at_call 74; refine (isNote_any _ _ (by omega)).mono ?_; rintro e w' ⟨rfl, rfl⟩))
    go_ret
    exact ⟨ret_f (fun x => H.out x.2.2.1), (Below.refl _ _).alloc (Nat.le_refl _) _⟩
  have H_2 := Lib.hid h_2
  have e_2 := B_t h_2
  clear h_2
  by_cases h_3 : inB x.rows 1 800
  rotate_left
  · have H := Lib.hid h_3
    have e_3 := B_f h_3
    clear h_3
    go_enter Try.func20, Try.ntmps20
    go_wp2_with (first | (go_at_call 71; refine (within_any _ _ _ _).mono ?_; rintro e w' ⟨rfl, rfl⟩) | (go_at_call 72; refine (isWord_any _ _ (by omega)).mono ?_; rintro e w' ⟨rfl, rfl⟩) | (go_at_call 73; refine (touch_any _ _ (by omega)).mono ?_; rintro e w' ⟨rfl, rfl⟩) | (go_at_call 74; refine (isNote_any _ _ (by omega)).mono ?_; rintro e w' ⟨rfl, rfl⟩))
    go_ret
    exact ⟨ret_f (fun x => H.out x.2.2.2.1), (Below.refl _ _).alloc (Nat.le_refl _) _⟩
  have H_3 := Lib.hid h_3
  have e_3 := B_t h_3
  clear h_3
  by_cases h_4 : isNoteP x.note
  rotate_left
  · have H := Lib.hid h_4
    have e_4 := B_f h_4
    clear h_4
    go_enter Try.func20, Try.ntmps20
    go_wp2_with (first | (go_at_call 71; refine (within_any _ _ _ _).mono ?_; rintro e w' ⟨rfl, rfl⟩) | (go_at_call 72; refine (isWord_any _ _ (by omega)).mono ?_; rintro e w' ⟨rfl, rfl⟩) | (go_at_call 73; refine (touch_any _ _ (by omega)).mono ?_; rintro e w' ⟨rfl, rfl⟩) | (go_at_call 74; refine (isNote_any _ _ (by omega)).mono ?_; rintro e w' ⟨rfl, rfl⟩))
    go_ret
    exact ⟨ret_f (fun x => H.out x.2.2.2.2), (Below.refl _ _).alloc (Nat.le_refl _) _⟩
  have H_4 := Lib.hid h_4
  have e_4 := B_t h_4
  clear h_4
  go_enter Try.func20, Try.ntmps20
  go_wp2_with (first | (go_at_call 71; refine (within_any _ _ _ _).mono ?_; rintro e w' ⟨rfl, rfl⟩) | (go_at_call 72; refine (isWord_any _ _ (by omega)).mono ?_; rintro e w' ⟨rfl, rfl⟩) | (go_at_call 73; refine (touch_any _ _ (by omega)).mono ?_; rintro e w' ⟨rfl, rfl⟩) | (go_at_call 74; refine (isNote_any _ _ (by omega)).mono ?_; rintro e w' ⟨rfl, rfl⟩))
  go_ret
  exact ⟨ret_t ⟨H_0.out, H_1.out, H_2.out, H_3.out, H_4.out⟩, (Below.refl _ _).alloc (Nat.le_refl _) _⟩
set_option maxHeartbeats 800000 in
theorem l28Good_any (x : Rcd) (w : World) (hs : Record_small 1048576 x) :
    Calls Try.prog 70 #[.agg #[.int .i64 x.day, .string x.meth, .string x.touch, .int .i64 x.rows, .string x.note]] w fun e w' => e = .returned (.bool (B (recP x))) ∧ Below w.heap.size w w' := by
  obtain ⟨s1, s2, s3⟩ := hs
  by_cases h_0 : inB x.day 0 99999
  rotate_left
  · have H := Lib.hid h_0
    have e_0 := B_f h_0
    clear h_0
    go_enter Try.func70, Try.ntmps70
    go_wp2_with (first | (go_at_call 87; refine (l1In_any _ _ _ _).mono ?_; rintro e w' ⟨rfl, rfl⟩) | (go_at_call 88; refine (l4Name_any _ _ (by omega)).mono ?_; rintro e w' ⟨rfl, rfl⟩) | (go_at_call 107; refine (l9Good_any _ _ (by omega)).mono ?_; rintro e w' ⟨rfl, rfl⟩) | (go_at_call 108; refine (l28Note_any _ _ (by omega)).mono ?_; rintro e w' ⟨rfl, rfl⟩))
    go_ret
    exact ⟨ret_f (fun x => H.out x.1), (Below.refl _ _).alloc (Nat.le_refl _) _⟩
  have H_0 := Lib.hid h_0
  have e_0 := B_t h_0
  clear h_0
  by_cases h_1 : isWordP x.meth
  rotate_left
  · have H := Lib.hid h_1
    have e_1 := B_f h_1
    clear h_1
    go_enter Try.func70, Try.ntmps70
    go_wp2_with (first | (go_at_call 87; refine (l1In_any _ _ _ _).mono ?_; rintro e w' ⟨rfl, rfl⟩) | (go_at_call 88; refine (l4Name_any _ _ (by omega)).mono ?_; rintro e w' ⟨rfl, rfl⟩) | (go_at_call 107; refine (l9Good_any _ _ (by omega)).mono ?_; rintro e w' ⟨rfl, rfl⟩) | (go_at_call 108; refine (l28Note_any _ _ (by omega)).mono ?_; rintro e w' ⟨rfl, rfl⟩))
    go_ret
    exact ⟨ret_f (fun x => H.out x.2.1), (Below.refl _ _).alloc (Nat.le_refl _) _⟩
  have H_1 := Lib.hid h_1
  have e_1 := B_t h_1
  clear h_1
  by_cases h_2 : touchP x.touch
  rotate_left
  · have H := Lib.hid h_2
    have e_2 := B_f h_2
    clear h_2
    go_enter Try.func70, Try.ntmps70
    go_wp2_with (first | (go_at_call 87; refine (l1In_any _ _ _ _).mono ?_; rintro e w' ⟨rfl, rfl⟩) | (go_at_call 88; refine (l4Name_any _ _ (by omega)).mono ?_; rintro e w' ⟨rfl, rfl⟩) | (go_at_call 107; refine (l9Good_any _ _ (by omega)).mono ?_; rintro e w' ⟨rfl, rfl⟩) | (go_at_call 108; refine (l28Note_any _ _ (by omega)).mono ?_; rintro e w' ⟨rfl, rfl⟩))
    go_ret
    exact ⟨ret_f (fun x => H.out x.2.2.1), (Below.refl _ _).alloc (Nat.le_refl _) _⟩
  have H_2 := Lib.hid h_2
  have e_2 := B_t h_2
  clear h_2
  by_cases h_3 : inB x.rows 1 800
  rotate_left
  · have H := Lib.hid h_3
    have e_3 := B_f h_3
    clear h_3
    go_enter Try.func70, Try.ntmps70
    go_wp2_with (first | (go_at_call 87; refine (l1In_any _ _ _ _).mono ?_; rintro e w' ⟨rfl, rfl⟩) | (go_at_call 88; refine (l4Name_any _ _ (by omega)).mono ?_; rintro e w' ⟨rfl, rfl⟩) | (go_at_call 107; refine (l9Good_any _ _ (by omega)).mono ?_; rintro e w' ⟨rfl, rfl⟩) | (go_at_call 108; refine (l28Note_any _ _ (by omega)).mono ?_; rintro e w' ⟨rfl, rfl⟩))
    go_ret
    exact ⟨ret_f (fun x => H.out x.2.2.2.1), (Below.refl _ _).alloc (Nat.le_refl _) _⟩
  have H_3 := Lib.hid h_3
  have e_3 := B_t h_3
  clear h_3
  by_cases h_4 : isNoteP x.note
  rotate_left
  · have H := Lib.hid h_4
    have e_4 := B_f h_4
    clear h_4
    go_enter Try.func70, Try.ntmps70
    go_wp2_with (first | (go_at_call 87; refine (l1In_any _ _ _ _).mono ?_; rintro e w' ⟨rfl, rfl⟩) | (go_at_call 88; refine (l4Name_any _ _ (by omega)).mono ?_; rintro e w' ⟨rfl, rfl⟩) | (go_at_call 107; refine (l9Good_any _ _ (by omega)).mono ?_; rintro e w' ⟨rfl, rfl⟩) | (go_at_call 108; refine (l28Note_any _ _ (by omega)).mono ?_; rintro e w' ⟨rfl, rfl⟩))
    go_ret
    exact ⟨ret_f (fun x => H.out x.2.2.2.2), (Below.refl _ _).alloc (Nat.le_refl _) _⟩
  have H_4 := Lib.hid h_4
  have e_4 := B_t h_4
  clear h_4
  go_enter Try.func70, Try.ntmps70
  go_wp2_with (first | (go_at_call 87; refine (l1In_any _ _ _ _).mono ?_; rintro e w' ⟨rfl, rfl⟩) | (go_at_call 88; refine (l4Name_any _ _ (by omega)).mono ?_; rintro e w' ⟨rfl, rfl⟩) | (go_at_call 107; refine (l9Good_any _ _ (by omega)).mono ?_; rintro e w' ⟨rfl, rfl⟩) | (go_at_call 108; refine (l28Note_any _ _ (by omega)).mono ?_; rintro e w' ⟨rfl, rfl⟩))
  go_ret
  exact ⟨ret_t ⟨H_0.out, H_1.out, H_2.out, H_3.out, H_4.out⟩, (Below.refl _ _).alloc (Nat.le_refl _) _⟩
theorem sRecord_any (x : Rcd) (w : World) (hs : Record_small 1048576 x) :
    Calls Try.prog 18 #[.agg #[.int .i64 x.day, .string x.meth, .string x.touch, .int .i64 x.rows, .string x.note]] w fun e w' => e = .returned (.bool (B (recP x))) ∧ Below w.heap.size w w' := by
  have Hs := Lib.hid hs
  clear hs
  go_enter Try.func18, Try.ntmps18
  go_wp2_with (go_at_call 70; refine (l28Good_any x _ Hs.out).mono ?_; rintro e w' ⟨rfl, hb1⟩)
  go_ret
  exact ⟨rfl, ((Below.refl w.heap.size w).alloc (Nat.le_refl _) _).trans (hb1.mono (by simp))⟩
set_option maxHeartbeats 4000000 in
theorem recordLaw (w : World) (x : Rcd) (hsx : Record_small 9223372036854775807 x) :
    Calls Try.prog 4 #[.agg #[.int .i64 x.day, .string x.meth, .string x.touch, .int .i64 x.rows, .string x.note]] w fun e w' => e = .returned (.bool true) ∧ Below w.heap.size w w' := by
  have Hsx := Lib.hid hsx
  clear hsx
  go_enter Try.func4, Try.ntmps4
  go_wp2_with fail
  have s0_0_0 : (w.alloc (.cells #[.int .i64 x.day, .string x.meth, .string x.touch, .int .i64 x.rows, .string x.note] 26)).cell? ⟨w.heap.size, 0, none⟩ = some (.int .i64 x.day) := by simp [go_sem]
  have s0_0_1 : (w.alloc (.cells #[.int .i64 x.day, .string x.meth, .string x.touch, .int .i64 x.rows, .string x.note] 26)).cell? ⟨w.heap.size, 1, none⟩ = some (.string x.meth) := by simp [go_sem]
  have s0_0_2 : (w.alloc (.cells #[.int .i64 x.day, .string x.meth, .string x.touch, .int .i64 x.rows, .string x.note] 26)).cell? ⟨w.heap.size, 2, none⟩ = some (.string x.touch) := by simp [go_sem]
  have s0_0_3 : (w.alloc (.cells #[.int .i64 x.day, .string x.meth, .string x.touch, .int .i64 x.rows, .string x.note] 26)).cell? ⟨w.heap.size, 3, none⟩ = some (.int .i64 x.rows) := by simp [go_sem]
  have s0_0_4 : (w.alloc (.cells #[.int .i64 x.day, .string x.meth, .string x.touch, .int .i64 x.rows, .string x.note] 26)).cell? ⟨w.heap.size, 4, none⟩ = some (.string x.note) := by simp [go_sem]
  have t0 : w.heap.size + 1 ≤ (w.alloc (.cells #[.int .i64 x.day, .string x.meth, .string x.touch, .int .i64 x.rows, .string x.note] 26)).heap.size := by simp
  have Bw0 : Hid (Below w.heap.size w (w.alloc (.cells #[.int .i64 x.day, .string x.meth, .string x.touch, .int .i64 x.rows, .string x.note] 26))) := Lib.hid (by repeat (first | exact Below.refl _ _ | (refine Below.alloc ?_ (by simp <;> omega) _)))
  generalize (w.alloc (.cells #[.int .i64 x.day, .string x.meth, .string x.touch, .int .i64 x.rows, .string x.note] 26)) = w0 at *
  refine (szRecord_any x (1048576 : Int) _ (by omega) (by omega) Hsx.out).mono ?_
  rintro e w1 ⟨r1, rfl, hz, hb⟩
  have C1 := Lib.hid hb
  clear hb
  have t1 := C1.out.size
  have Bw1 := Lib.hid (Bw0.out.trans (C1.out.mono Bw0.out.size))
  have Z1 := Lib.hid hz
  clear hz
  have s1_0_0 := (C1.out.cell (p := ⟨w.heap.size, 0, none⟩) (show w.heap.size < w0.heap.size from by omega)).trans s0_0_0
  clear s0_0_0
  have s1_0_1 := (C1.out.cell (p := ⟨w.heap.size, 1, none⟩) (show w.heap.size < w0.heap.size from by omega)).trans s0_0_1
  clear s0_0_1
  have s1_0_2 := (C1.out.cell (p := ⟨w.heap.size, 2, none⟩) (show w.heap.size < w0.heap.size from by omega)).trans s0_0_2
  clear s0_0_2
  have s1_0_3 := (C1.out.cell (p := ⟨w.heap.size, 3, none⟩) (show w.heap.size < w0.heap.size from by omega)).trans s0_0_3
  clear s0_0_3
  have s1_0_4 := (C1.out.cell (p := ⟨w.heap.size, 4, none⟩) (show w.heap.size < w0.heap.size from by omega)).trans s0_0_4
  clear s0_0_4
  by_cases n1 : r1 < 0
  · go_wp2_with fail
    go_ret
    exact ⟨rfl, Bw1.out⟩
  have z1 := Z1.out.resolve_left (by omega)
  obtain ⟨y1a, y1b', hz'⟩ := z1
  have y1b : r1 ≤ 1048576 := by omega
  have Hmx : Hid (Record_small 1048576 x) := Lib.hid (by simp only [Record_small] at hz' ⊢; omega)
  clear hz'
  by_cases h : recP x
  · have e1 := B_t h
    clear h
    go_wp2_with fail
    refine (toRecord_any x _).mono ?_
    rintro e w2 ⟨rfl, hb⟩
    have C2 := Lib.hid hb
    clear hb
    have t2 := C2.out.size
    have Bw2 := Lib.hid (Bw1.out.trans (C2.out.mono Bw1.out.size))
    have s2_0_0 := (C2.out.cell (p := ⟨w.heap.size, 0, none⟩) (show w.heap.size < w1.heap.size from by omega)).trans s1_0_0
    clear s1_0_0
    have s2_0_1 := (C2.out.cell (p := ⟨w.heap.size, 1, none⟩) (show w.heap.size < w1.heap.size from by omega)).trans s1_0_1
    clear s1_0_1
    have s2_0_2 := (C2.out.cell (p := ⟨w.heap.size, 2, none⟩) (show w.heap.size < w1.heap.size from by omega)).trans s1_0_2
    clear s1_0_2
    have s2_0_3 := (C2.out.cell (p := ⟨w.heap.size, 3, none⟩) (show w.heap.size < w1.heap.size from by omega)).trans s1_0_3
    clear s1_0_3
    have s2_0_4 := (C2.out.cell (p := ⟨w.heap.size, 4, none⟩) (show w.heap.size < w1.heap.size from by omega)).trans s1_0_4
    clear s1_0_4
    go_wp2_with fail
    refine (sRecord_any x _ Hmx.out).mono ?_
    rintro e w3 ⟨rfl, hb⟩
    have C3 := Lib.hid hb
    clear hb
    have t3 := C3.out.size
    have Bw3 := Lib.hid (Bw2.out.trans (C3.out.mono Bw2.out.size))
    have s3_0_0 := (C3.out.cell (p := ⟨w.heap.size, 0, none⟩) (show w.heap.size < w2.heap.size from by omega)).trans s2_0_0
    clear s2_0_0
    have s3_0_1 := (C3.out.cell (p := ⟨w.heap.size, 1, none⟩) (show w.heap.size < w2.heap.size from by omega)).trans s2_0_1
    clear s2_0_1
    have s3_0_2 := (C3.out.cell (p := ⟨w.heap.size, 2, none⟩) (show w.heap.size < w2.heap.size from by omega)).trans s2_0_2
    clear s2_0_2
    have s3_0_3 := (C3.out.cell (p := ⟨w.heap.size, 3, none⟩) (show w.heap.size < w2.heap.size from by omega)).trans s2_0_3
    clear s2_0_3
    have s3_0_4 := (C3.out.cell (p := ⟨w.heap.size, 4, none⟩) (show w.heap.size < w2.heap.size from by omega)).trans s2_0_4
    clear s2_0_4
    go_wp2_with fail
    refine (toRecord_any x _).mono ?_
    rintro e w4 ⟨rfl, hb⟩
    have C4 := Lib.hid hb
    clear hb
    have t4 := C4.out.size
    have Bw4 := Lib.hid (Bw3.out.trans (C4.out.mono Bw3.out.size))
    have s4_0_0 := (C4.out.cell (p := ⟨w.heap.size, 0, none⟩) (show w.heap.size < w3.heap.size from by omega)).trans s3_0_0
    clear s3_0_0
    have s4_0_1 := (C4.out.cell (p := ⟨w.heap.size, 1, none⟩) (show w.heap.size < w3.heap.size from by omega)).trans s3_0_1
    clear s3_0_1
    have s4_0_2 := (C4.out.cell (p := ⟨w.heap.size, 2, none⟩) (show w.heap.size < w3.heap.size from by omega)).trans s3_0_2
    clear s3_0_2
    have s4_0_3 := (C4.out.cell (p := ⟨w.heap.size, 3, none⟩) (show w.heap.size < w3.heap.size from by omega)).trans s3_0_3
    clear s3_0_3
    have s4_0_4 := (C4.out.cell (p := ⟨w.heap.size, 4, none⟩) (show w.heap.size < w3.heap.size from by omega)).trans s3_0_4
    clear s3_0_4
    go_wp2_with fail
    refine (iRecord_any x _ Hmx.out).mono ?_
    rintro e w5 ⟨rfl, hb⟩
    have C5 := Lib.hid hb
    clear hb
    have t5 := C5.out.size
    have Bw5 := Lib.hid (Bw4.out.trans (C5.out.mono Bw4.out.size))
    have s5_0_0 := (C5.out.cell (p := ⟨w.heap.size, 0, none⟩) (show w.heap.size < w4.heap.size from by omega)).trans s4_0_0
    clear s4_0_0
    have s5_0_1 := (C5.out.cell (p := ⟨w.heap.size, 1, none⟩) (show w.heap.size < w4.heap.size from by omega)).trans s4_0_1
    clear s4_0_1
    have s5_0_2 := (C5.out.cell (p := ⟨w.heap.size, 2, none⟩) (show w.heap.size < w4.heap.size from by omega)).trans s4_0_2
    clear s4_0_2
    have s5_0_3 := (C5.out.cell (p := ⟨w.heap.size, 3, none⟩) (show w.heap.size < w4.heap.size from by omega)).trans s4_0_3
    clear s4_0_3
    have s5_0_4 := (C5.out.cell (p := ⟨w.heap.size, 4, none⟩) (show w.heap.size < w4.heap.size from by omega)).trans s4_0_4
    clear s4_0_4
    go_wp2_with fail
    go_ret
    exact ⟨rfl, Bw5.out⟩
  · have e1 := B_f h
    clear h
    go_wp2_with fail
    refine (toRecord_any x _).mono ?_
    rintro e w2 ⟨rfl, hb⟩
    have C2 := Lib.hid hb
    clear hb
    have t2 := C2.out.size
    have Bw2 := Lib.hid (Bw1.out.trans (C2.out.mono Bw1.out.size))
    have s2_0_0 := (C2.out.cell (p := ⟨w.heap.size, 0, none⟩) (show w.heap.size < w1.heap.size from by omega)).trans s1_0_0
    clear s1_0_0
    have s2_0_1 := (C2.out.cell (p := ⟨w.heap.size, 1, none⟩) (show w.heap.size < w1.heap.size from by omega)).trans s1_0_1
    clear s1_0_1
    have s2_0_2 := (C2.out.cell (p := ⟨w.heap.size, 2, none⟩) (show w.heap.size < w1.heap.size from by omega)).trans s1_0_2
    clear s1_0_2
    have s2_0_3 := (C2.out.cell (p := ⟨w.heap.size, 3, none⟩) (show w.heap.size < w1.heap.size from by omega)).trans s1_0_3
    clear s1_0_3
    have s2_0_4 := (C2.out.cell (p := ⟨w.heap.size, 4, none⟩) (show w.heap.size < w1.heap.size from by omega)).trans s1_0_4
    clear s1_0_4
    go_wp2_with fail
    refine (sRecord_any x _ Hmx.out).mono ?_
    rintro e w3 ⟨rfl, hb⟩
    have C3 := Lib.hid hb
    clear hb
    have t3 := C3.out.size
    have Bw3 := Lib.hid (Bw2.out.trans (C3.out.mono Bw2.out.size))
    have s3_0_0 := (C3.out.cell (p := ⟨w.heap.size, 0, none⟩) (show w.heap.size < w2.heap.size from by omega)).trans s2_0_0
    clear s2_0_0
    have s3_0_1 := (C3.out.cell (p := ⟨w.heap.size, 1, none⟩) (show w.heap.size < w2.heap.size from by omega)).trans s2_0_1
    clear s2_0_1
    have s3_0_2 := (C3.out.cell (p := ⟨w.heap.size, 2, none⟩) (show w.heap.size < w2.heap.size from by omega)).trans s2_0_2
    clear s2_0_2
    have s3_0_3 := (C3.out.cell (p := ⟨w.heap.size, 3, none⟩) (show w.heap.size < w2.heap.size from by omega)).trans s2_0_3
    clear s2_0_3
    have s3_0_4 := (C3.out.cell (p := ⟨w.heap.size, 4, none⟩) (show w.heap.size < w2.heap.size from by omega)).trans s2_0_4
    clear s2_0_4
    go_wp2_with fail
    refine (toRecord_any x _).mono ?_
    rintro e w4 ⟨rfl, hb⟩
    have C4 := Lib.hid hb
    clear hb
    have t4 := C4.out.size
    have Bw4 := Lib.hid (Bw3.out.trans (C4.out.mono Bw3.out.size))
    have s4_0_0 := (C4.out.cell (p := ⟨w.heap.size, 0, none⟩) (show w.heap.size < w3.heap.size from by omega)).trans s3_0_0
    clear s3_0_0
    have s4_0_1 := (C4.out.cell (p := ⟨w.heap.size, 1, none⟩) (show w.heap.size < w3.heap.size from by omega)).trans s3_0_1
    clear s3_0_1
    have s4_0_2 := (C4.out.cell (p := ⟨w.heap.size, 2, none⟩) (show w.heap.size < w3.heap.size from by omega)).trans s3_0_2
    clear s3_0_2
    have s4_0_3 := (C4.out.cell (p := ⟨w.heap.size, 3, none⟩) (show w.heap.size < w3.heap.size from by omega)).trans s3_0_3
    clear s3_0_3
    have s4_0_4 := (C4.out.cell (p := ⟨w.heap.size, 4, none⟩) (show w.heap.size < w3.heap.size from by omega)).trans s3_0_4
    clear s3_0_4
    go_wp2_with fail
    refine (iRecord_any x _ Hmx.out).mono ?_
    rintro e w5 ⟨rfl, hb⟩
    have C5 := Lib.hid hb
    clear hb
    have t5 := C5.out.size
    have Bw5 := Lib.hid (Bw4.out.trans (C5.out.mono Bw4.out.size))
    have s5_0_0 := (C5.out.cell (p := ⟨w.heap.size, 0, none⟩) (show w.heap.size < w4.heap.size from by omega)).trans s4_0_0
    clear s4_0_0
    have s5_0_1 := (C5.out.cell (p := ⟨w.heap.size, 1, none⟩) (show w.heap.size < w4.heap.size from by omega)).trans s4_0_1
    clear s4_0_1
    have s5_0_2 := (C5.out.cell (p := ⟨w.heap.size, 2, none⟩) (show w.heap.size < w4.heap.size from by omega)).trans s4_0_2
    clear s4_0_2
    have s5_0_3 := (C5.out.cell (p := ⟨w.heap.size, 3, none⟩) (show w.heap.size < w4.heap.size from by omega)).trans s4_0_3
    clear s4_0_3
    have s5_0_4 := (C5.out.cell (p := ⟨w.heap.size, 4, none⟩) (show w.heap.size < w4.heap.size from by omega)).trans s4_0_4
    clear s4_0_4
    go_wp2_with fail
    go_ret
    exact ⟨rfl, Bw5.out⟩

namespace fnExactGoodRecord
open Go.ChangeShapes Go.WideShapes Go.ChangeAt Go.RowKit Go.Deep
open Go.ChangeMaps (open_string shut_string)
theorem own : ownKnob Try.prog.godebug = none := by kernel_rfl
theorem laid : laidOutB Try.prog = true := by kernel_rfl
theorem reads : Try.f4.params.toList.all (fun t => Try.prog.readableRec t && decide (t < Try.prog.types.size)) = true := by kernel_rfl
set_option maxRecDepth 100000 in
theorem lifted (os : Os) (started : os.Started) (H : Type) (enc : TypeId × Value → H) :
    ReturnsInHanded {} Try.checked os 4 .any (Rows.fnExactGoodRecordSpec.pre6 enc Try.prog Try.f4 Rows.fnExactGoodRecordRow.domain false) (Rows.fnExactGoodRecordSpec.post enc Try.prog Try.f4 false true false false) := by
  refine returnsInHanded_of_change (C := Try.checked) own started (by kernel_rfl) Try.func4
    (ChangeSpec.witness6 (enc := enc) (C := Try.checked) false ⟨#[], #[.agg #[.int .i64 0, .string ⟨#[]⟩, .string ⟨#[]⟩, .int .i64 0, .string ⟨#[]⟩]], []⟩ 8 (by kernel_rfl) (by kernel_rfl) (by kernel_rfl) (by kernel_rfl)) ?_
  intro W base args ds gs before hval0 hW hcnd _
  have hval : ∀ (j : Nat) t v, Try.f4.params[j]? = some t → args[j]? = some v → Value.okWide Try.prog W .any base t v := hval0
  have hW' := hW
  obtain ⟨p, q, hA0, hV, rfl, hfz, hnd⟩ := hW
  have hA : DataW.TrodAll enc Try.prog W 0 (fun _ => true) true Try.f4.params.toList args.toList ds p := hA0
  rw [Try.params4] at hA hval
  obtain ⟨rfl, rfl⟩ := trodVars_none hV
  have hlt : ∀ x ∈ p, x.block < W.heap.size := fun x hx => by simpa using hW'.lt x (List.mem_append.2 (.inl hx))
  clear hA0 hval0
  obtain ⟨v0, vs0, d0, ds0, p0, q0, hargs, rfl, rfl, h0, r0⟩ := trodAll_cons hA
  obtain ⟨rfl, rfl, rfl⟩ := trodAll_nil r0
  obtain rfl : args = #[v0] := by cases args; simp_all
  clear hargs
  obtain ⟨a0, rfl, z0⟩ := open_struct Try.underlying26 Rcd.enc _ Record_el (hval 0 26 v0 rfl rfl) h0
  refine (recordLaw W a0 z0).mono fun e W' ⟨he, hg⟩ => ?_
  subst he
  exact ⟨_, rfl, law_post laid reads rfl Try.underlying4 rfl rfl hW' hg⟩
theorem over : Rows.fnExactGoodRecordRow.holds Try.pinned (OpenSpec.ofChange Rows.fnExactGoodRecordSpec) :=
  OpenClaim.holds_of_wide 4 Try.f4 rfl rfl rfl rfl rfl rfl rfl ⟨rfl, rfl, rfl, rfl, rfl⟩ rfl rfl rfl rfl rfl (by kernel_rfl) Try.func4 (by kernel_rfl)
    (of_decide_eq_true (by kernel_rfl)) (by unfold Func.isWrapper; first | (rw [if_pos (by decide +kernel)]; kernel_rfl) | (rw [if_neg (by decide +kernel)]; exact ⟨rfl, rfl⟩))
    (fun os started H enc _ => lifted os started H enc)
theorem proved : Rows.FnExactGoodRecordSaid := over
end fnExactGoodRecord
end Go.Proofs.Ytkmakmbdfeojcaa
