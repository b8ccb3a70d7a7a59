/-
  WrongBells of the program returns what the reference's returns, for all arguments: no condition.
-/
import Derived.Test.YtkmakmbdfeojcaaPlace
import Derived.Test.YtkmakmbdfeojcaaGrow
import Derived.Test.YtkmakmbdfeojcaaTyInt
import Derived.Test.YtkmakmbdfeojcaaRow
namespace Go.Proofs.Ytkmakmbdfeojcaa
open Go.RowKit
set_option linter.unusedVariables false
set_option linter.unusedSimpArgs false
set_option maxRecDepth 100000

/-- The bells that are in other places. -/
def wrongL (a b : ByteArray) (k : Nat) : List Int := ((List.range k).filter fun i : Nat => placeS a (i + 1) != placeS b (i + 1)).map fun i : Nat => (i : Int) + 1
theorem wrongL_y (a b : ByteArray) (k : Nat) (h : (placeS a (k + 1) != placeS b (k + 1)) = true) : wrongL a b (k + 1) = wrongL a b k ++ [(k : Int) + 1] := by
  simp only [wrongL, List.range_succ, List.filter_append, List.map_append]
  simp [h]
theorem wrongL_n (a b : ByteArray) (k : Nat) (h : (placeS a (k + 1) != placeS b (k + 1)) = false) : wrongL a b (k + 1) = wrongL a b k := by
  simp only [wrongL, List.range_succ, List.filter_append, List.map_append]
  simp [h]
theorem wrongL_len (a b : ByteArray) (k : Nat) : (wrongL a b k).length ≤ k := by
  unfold wrongL; rw [List.length_map]; have := List.length_filter_le (fun i : Nat => placeS a (i + 1) != placeS b (i + 1)) (List.range k); simpa using this


set_option maxHeartbeats 800000 in
theorem sWrong_t (a b : ByteArray) (w : World) (h : two a b) :
    Calls Try.prog 26 #[.string a, .string b] w fun e w' => ∃ A c, e = .returned (.tuple #[.slice A (wrongL a b a.size).length c, .bool true]) ∧ OwnL w' w.heap.size w'.heap.size A 1 encInt (wrongL a b a.size) ∧ Below w.heap.size w w' := by
  have H := Lib.hid h
  have e1 := B_t h
  have h8 := h.1.2.1
  clear h
  go_enter Try.func26, Try.ntmps26
  go_wp2_with (go_at_call 63; refine (l1Two_any _ _ _).mono ?_; rintro e w' ⟨rfl, n1, rfl⟩)
  go_loopw [6, 7] (fun v i wr => ∃ k : Nat, k ≤ a.size ∧ i = .int .i64 (k + 1) ∧ Grow wr w.heap.size 3 1 encInt v (wrongL a b k) ∧ Below w.heap.size w wr) (fun _ i _ => a.size + 1 - (intOf i).toNat)
  case atStart => exact ⟨0, by omega, by rfl, Grow.nil, below_drewN (Below.refl _ _) _⟩
  case round =>
    obtain ⟨k, hk, rfl, hg, hbl⟩ := hrel
    have Hg := Lib.hid hg
    have Hbl := Lib.hid hbl
    have hlen := wrongL_len a b k
    have hgs := hbl.size
    clear hg hbl
    by_cases hlt : k < a.size
    · by_cases c : (placeS a (k + 1) != placeS b (k + 1)) = true
      · have C := Lib.hid c
        have hone : (∀ u ∈ [Value.int .i64 ((k : Int) + 1)], u.oneCell' = true) := by simp [Value.oneCell']
        have Hone := Lib.hid hone
        clear hone
        go_wp2_with (first | (go_at_call 80; refine (l5Place_any _ _ _ (by first | exact H.out.1 | exact H.out.2.1) (by omega) (by omega)).mono ?_; rintro e w' ⟨rfl, rfl⟩) | (at_builtin; refine wpList_push rfl _ _ 39 rfl w.heap.size 3 _ 1 8 encInt rfl Int_info rfl (by omega) _ (wrongL a b k) [(k : Int) + 1] 1 rfl rfl Hg.out rfl encInt_len Hone.out (by simp; omega) (by omega) (by omega) ?_; intro v' w2 hg2 hb2 _))
        go_roundw
        case rel => exact ⟨k + 1, by omega, by go_num, by rw [wrongL_y a b k C.out]; exact hg2, Hbl.out.trans (hb2.mono (Nat.le_refl _))⟩
        case measure => simp [intOf]; omega
      · rw [Bool.not_eq_true] at c
        have C := Lib.hid c
        go_wp2_with (go_at_call 80; refine (l5Place_any _ _ _ (by first | exact H.out.1 | exact H.out.2.1) (by omega) (by omega)).mono ?_; rintro e w' ⟨rfl, rfl⟩)
        go_roundw
        case rel => exact ⟨k + 1, by omega, by go_num, by rw [wrongL_n a b k C.out]; exact Hg.out, Hbl.out⟩
        case measure => simp [intOf]; omega
    · go_wp2
      go_ret2
      obtain rfl : k = a.size := by omega
      obtain ⟨A, c, hv, ho⟩ := Hg.out.own encInt_len
      exact ⟨A, c, by rw [hv]; rfl, ho, Hbl.out⟩
theorem sWrong_f (a b : ByteArray) (w : World) (h : ¬ two a b) :
    Calls Try.prog 26 #[.string a, .string b] w fun e w' => e = .returned (.tuple #[.slice none 0 0, .bool false]) ∧ Below w.heap.size w w' := by
  have e1 := B_f h
  clear h
  go_enter Try.func26, Try.ntmps26
  go_wp2_with (go_at_call 63; refine (l1Two_any _ _ _).mono ?_; rintro e w' ⟨rfl, n1, rfl⟩)
  go_ret2
  exact ⟨rfl, below_drewN (Below.refl _ _) _⟩
set_option maxHeartbeats 800000 in
theorem iWrong_t (a b : ByteArray) (w : World) (h : two a b) :
    Calls Try.prog 27 #[.string a, .string b] w fun e w' => ∃ A c, e = .returned (.tuple #[.slice A (wrongL a b a.size).length c, .bool true]) ∧ OwnL w' w.heap.size w'.heap.size A 1 encInt (wrongL a b a.size) ∧ Below w.heap.size w w' := by
  have H := Lib.hid h
  have e1 := B_t h.1
  have e2 : B (isRowOf a.size b) = true := B_t ⟨by have := h.2.2; omega, h.2.1⟩
  have h8 := h.1.2.1
  clear h
  go_enter Try.func27, Try.ntmps27
  go_wp2_with (first | (go_at_call 66; refine (goodRow_any _ _).mono ?_; rintro e w' ⟨rfl, rfl⟩) | (go_at_call 67; refine (isRowOf_any _ _ _).mono ?_; rintro e w' ⟨rfl, rfl⟩))
  go_loopw [6, 7] (fun v i wr => ∃ k : Nat, k ≤ a.size ∧ i = .int .i64 (k + 1) ∧ Grow wr w.heap.size 3 1 encInt v (wrongL a b k) ∧ Below w.heap.size w wr) (fun _ i _ => a.size + 1 - (intOf i).toNat)
  case atStart => exact ⟨0, by omega, by rfl, Grow.empty (Nat.le_refl _), (Below.refl _ _).alloc (Nat.le_refl _) _⟩
  case round =>
    obtain ⟨k, hk, rfl, hg, hbl⟩ := hrel
    have Hg := Lib.hid hg
    have Hbl := Lib.hid hbl
    have hlen := wrongL_len a b k
    have hgs := hbl.size
    clear hg hbl
    by_cases hlt : k < a.size
    · by_cases c : (placeS a (k + 1) != placeS b (k + 1)) = true
      · have C := Lib.hid c
        have hone : (∀ u ∈ [Value.int .i64 ((k : Int) + 1)], u.oneCell' = true) := by simp [Value.oneCell']
        have Hone := Lib.hid hone
        clear hone
        go_wp2_with (first | (go_at_call 81; refine (placeOf_any _ _ _ (by first | exact H.out.1 | exact H.out.2.1) (by omega) (by omega)).mono ?_; rintro e w' ⟨rfl, rfl⟩) | (at_builtin; refine wpList_push rfl _ _ 39 rfl w.heap.size 3 _ 1 8 encInt rfl Int_info rfl (by omega) _ (wrongL a b k) [(k : Int) + 1] 1 rfl rfl Hg.out rfl encInt_len Hone.out (by simp; omega) (by omega) (by omega) ?_; intro v' w2 hg2 hb2 _))
        go_roundw
        case rel => exact ⟨k + 1, by omega, by go_num, by rw [wrongL_y a b k C.out]; exact hg2, Hbl.out.trans (hb2.mono (Nat.le_refl _))⟩
        case measure => simp [intOf]; omega
      · rw [Bool.not_eq_true] at c
        have C := Lib.hid c
        go_wp2_with (go_at_call 81; refine (placeOf_any _ _ _ (by first | exact H.out.1 | exact H.out.2.1) (by omega) (by omega)).mono ?_; rintro e w' ⟨rfl, rfl⟩)
        go_roundw
        case rel => exact ⟨k + 1, by omega, by go_num, by rw [wrongL_n a b k C.out]; exact Hg.out, Hbl.out⟩
        case measure => simp [intOf]; omega
    · go_wp2
      go_ret2
      obtain rfl : k = a.size := by omega
      obtain ⟨A, c, hv, ho⟩ := Hg.out.own encInt_len
      exact ⟨A, c, by rw [hv]; rfl, ho, Hbl.out⟩
theorem iWrong_f (a b : ByteArray) (w : World) (h : ¬ two a b) :
    Calls Try.prog 27 #[.string a, .string b] w fun e w' => e = .returned (.tuple #[.slice none 0 0, .bool false]) ∧ Below w.heap.size w w' := by
  by_cases h1 : isRow a
  · have e1 := B_t h1
    have e2 : B (isRowOf a.size b) = false := B_f (fun x => h ⟨h1, x.2, by have := x.1; omega⟩)
    have h8 := h1.2.1
    clear h h1
    go_enter Try.func27, Try.ntmps27
    go_wp2_with (first | (go_at_call 66; refine (goodRow_any _ _).mono ?_; rintro e w' ⟨rfl, rfl⟩) | (go_at_call 67; refine (isRowOf_any _ _ _).mono ?_; rintro e w' ⟨rfl, rfl⟩))
    go_ret2
    exact ⟨rfl, Below.refl _ _⟩
  · have e1 := B_f h1
    clear h h1
    go_enter Try.func27, Try.ntmps27
    go_wp2_with (first | (go_at_call 66; refine (goodRow_any _ _).mono ?_; rintro e w' ⟨rfl, rfl⟩) | (go_at_call 67; refine (isRowOf_any _ _ _).mono ?_; rintro e w' ⟨rfl, rfl⟩))
    go_ret2
    exact ⟨rfl, Below.refl _ _⟩

set_option maxHeartbeats 4000000 in
theorem wrongLaw (w : World) (a : ByteArray) (hsza : a.size ≤ 9223372036854775807) (b : ByteArray) (hszb : b.size ≤ 9223372036854775807) :
    Calls Try.prog 6 #[.string a, .string b] w fun e w' => e = .returned (.bool true) ∧ Below w.heap.size w w' := by
  by_cases ga : 1048576 < a.size
  · go_enter Try.func6, Try.ntmps6
    go_wp2
    go_ret
    exact ⟨rfl, Below.refl _ _⟩
  by_cases gb : 1048576 < b.size
  · go_enter Try.func6, Try.ntmps6
    go_wp2
    go_ret
    exact ⟨rfl, Below.refl _ _⟩
  have Bw0 := Lib.hid (Below.refl w.heap.size w)
  by_cases h : two a b
  · have H := Lib.hid h
    have hlen := wrongL_len a b a.size
    clear h
    go_enter Try.func6, Try.ntmps6
    go_wp2_with fail
    refine (sWrong_t a b _ H.out).mono ?_
    rintro e w1 ⟨A_w0, c_w0, rfl, ho0, hb⟩
    have C1 := Lib.hid hb
    clear hb
    have t1 := C1.out.size
    have Bw1 := Lib.hid (Bw0.out.trans (C1.out.mono Bw0.out.size))
    have O_w0_1 := Lib.hid ho0
    clear ho0
    go_wp2_with fail
    refine (iWrong_t a b _ H.out).mono ?_
    rintro e w2 ⟨A_g0, c_g0, rfl, ho0, hb⟩
    have C2 := Lib.hid hb
    clear hb
    have t2 := C2.out.size
    have Bw2 := Lib.hid (Bw1.out.trans (C2.out.mono Bw1.out.size))
    have O_g0_2 := Lib.hid ho0
    clear ho0
    have O_w0_2 := Lib.hid (O_w0_1.out.later C2.out)
    clear O_w0_1
    go_wp2_with fail
    refine (eqIntS_t (wrongL a b a.size) A_g0 A_w0 c_g0 c_w0 _ (O_g0_2.out.rd encInt_len) (O_w0_2.out.rd encInt_len) (by omega)).mono ?_
    rintro e w3 ⟨rfl, hb⟩
    have C3 := Lib.hid hb
    clear hb
    have t3 := C3.out.size
    have Bw3 := Lib.hid (Bw2.out.trans (C3.out.mono Bw2.out.size))
    have O_w0_3 := Lib.hid (O_w0_2.out.later C3.out)
    clear O_w0_2
    have O_g0_3 := Lib.hid (O_g0_2.out.later C3.out)
    clear O_g0_2
    go_wp2_with fail
    refine (markIntS_any (wrongL a b a.size) _ _ A_g0 c_g0 1 _ O_g0_3.out (by omega) (by omega) (by omega)).mono ?_
    rintro e w4 ⟨he, ho, hc⟩
    obtain ⟨q4, hq⟩ : ∃ q : Nat, q = 1 + (wrongL a b a.size).length * 1 := ⟨_, rfl⟩
    rw [← hq] at he
    subst he
    have Hq4 := Lib.hid hq
    have b4 : 0 < q4 ∧ q4 ≤ 90000000000 := by omega
    obtain ⟨b4a, b4b⟩ := b4
    clear hq
    have C4 := Lib.hid hc
    clear hc
    have t4 := C4.out.size
    have Bw4 := Lib.hid (Below.chg Bw3.out C4.out (by omega) Bw3.out.size)
    have O_g0_4 := Lib.hid ho
    clear ho
    have O_w0_4 := Lib.hid (O_w0_3.out.chg C4.out (by omega))
    clear O_w0_3
    go_wp2_with fail
    refine (heldIntS_any (wrongL a b a.size).length A_g0 c_g0 1 _ (O_g0_4.out.rd encInt_len) (by omega) (by omega) (by omega)).mono ?_
    rintro e w5 ⟨he, hb⟩
    rw [← Hq4.out] at he
    subst he
    have C5 := Lib.hid hb
    clear hb
    have t5 := C5.out.size
    have Bw5 := Lib.hid (Bw4.out.trans (C5.out.mono Bw4.out.size))
    have O_w0_5 := Lib.hid (O_w0_4.out.later C5.out)
    clear O_w0_4
    have O_g0_5 := Lib.hid (O_g0_4.out.later C5.out)
    clear O_g0_4
    go_wp2_with fail
    refine (iWrong_t a b _ H.out).mono ?_
    rintro e w6 ⟨A_h0, c_h0, rfl, ho0, hb⟩
    have C6 := Lib.hid hb
    clear hb
    have t6 := C6.out.size
    have Bw6 := Lib.hid (Bw5.out.trans (C6.out.mono Bw5.out.size))
    have O_h0_6 := Lib.hid ho0
    clear ho0
    have O_w0_6 := Lib.hid (O_w0_5.out.later C6.out)
    clear O_w0_5
    have O_g0_6 := Lib.hid (O_g0_5.out.later C6.out)
    clear O_g0_5
    go_wp2_with fail
    refine (eqIntS_t (wrongL a b a.size) A_h0 A_w0 c_h0 c_w0 _ (O_h0_6.out.rd encInt_len) (O_w0_6.out.rd encInt_len) (by omega)).mono ?_
    rintro e w7 ⟨rfl, hb⟩
    have C7 := Lib.hid hb
    clear hb
    have t7 := C7.out.size
    have Bw7 := Lib.hid (Bw6.out.trans (C7.out.mono Bw6.out.size))
    have O_g0_7 := Lib.hid (O_g0_6.out.later C7.out)
    clear O_g0_6
    go_wp2_with fail
    refine (heldIntS_any (wrongL a b a.size).length A_g0 c_g0 1 _ (O_g0_7.out.rd encInt_len) (by omega) (by omega) (by omega)).mono ?_
    rintro e w8 ⟨he, hb⟩
    rw [← Hq4.out] at he
    subst he
    have C8 := Lib.hid hb
    clear hb
    have t8 := C8.out.size
    have Bw8 := Lib.hid (Bw7.out.trans (C8.out.mono Bw7.out.size))
    go_wp2_with fail
    go_ret
    exact ⟨rfl, Bw8.out⟩
  · have H := Lib.hid h
    clear h
    go_enter Try.func6, Try.ntmps6
    go_wp2_with fail
    refine (sWrong_f a b _ H.out).mono ?_
    rintro e w1 ⟨rfl, hb⟩
    have C1 := Lib.hid hb
    clear hb
    have t1 := C1.out.size
    have Bw1 := Lib.hid (Bw0.out.trans (C1.out.mono Bw0.out.size))
    have O_w0_1 : Hid (OwnL w1 w.heap.size w1.heap.size none 1 encInt ([] : List Int)) := Lib.hid OwnL.nil
    go_wp2_with fail
    refine (iWrong_f a b _ H.out).mono ?_
    rintro e w2 ⟨rfl, hb⟩
    have C2 := Lib.hid hb
    clear hb
    have t2 := C2.out.size
    have Bw2 := Lib.hid (Bw1.out.trans (C2.out.mono Bw1.out.size))
    have O_g0_2 : Hid (OwnL w2 w1.heap.size w2.heap.size none 1 encInt ([] : List Int)) := Lib.hid OwnL.nil
    have O_w0_2 := Lib.hid (O_w0_1.out.later C2.out)
    clear O_w0_1
    go_wp2_with fail
    refine (eqIntS_t ([] : List Int) none none 0 0 _ (O_g0_2.out.rd encInt_len) (O_w0_2.out.rd encInt_len) (by simp)).mono ?_
    rintro e w3 ⟨rfl, hb⟩
    have C3 := Lib.hid hb
    clear hb
    have t3 := C3.out.size
    have Bw3 := Lib.hid (Bw2.out.trans (C3.out.mono Bw2.out.size))
    have O_w0_3 := Lib.hid (O_w0_2.out.later C3.out)
    clear O_w0_2
    have O_g0_3 := Lib.hid (O_g0_2.out.later C3.out)
    clear O_g0_2
    go_wp2_with fail
    refine (markIntS_any ([] : List Int) _ _ none 0 1 _ O_g0_3.out (by simp) (by omega) (by omega)).mono ?_
    rintro e w4 ⟨he, ho, hc⟩
    obtain ⟨q4, hq⟩ : ∃ q : Nat, q = 1 + ([] : List Int).length * 1 := ⟨_, rfl⟩
    rw [← hq] at he
    subst he
    have Hq4 := Lib.hid hq
    have b4 : 0 < q4 ∧ q4 ≤ 90000000000 := by simp at hq; omega
    obtain ⟨b4a, b4b⟩ := b4
    clear hq
    have C4 := Lib.hid hc
    clear hc
    have t4 := C4.out.size
    have Bw4 := Lib.hid (Below.chg Bw3.out C4.out (by omega) Bw3.out.size)
    have O_g0_4 := Lib.hid ho
    clear ho
    have O_w0_4 := Lib.hid (O_w0_3.out.chg C4.out (by omega))
    clear O_w0_3
    go_wp2_with fail
    refine (heldIntS_any ([] : List Int).length none 0 1 _ (O_g0_4.out.rd encInt_len) (by simp) (by omega) (by omega)).mono ?_
    rintro e w5 ⟨he, hb⟩
    rw [← Hq4.out] at he
    subst he
    have C5 := Lib.hid hb
    clear hb
    have t5 := C5.out.size
    have Bw5 := Lib.hid (Bw4.out.trans (C5.out.mono Bw4.out.size))
    have O_w0_5 := Lib.hid (O_w0_4.out.later C5.out)
    clear O_w0_4
    have O_g0_5 := Lib.hid (O_g0_4.out.later C5.out)
    clear O_g0_4
    go_wp2_with fail
    refine (iWrong_f a b _ H.out).mono ?_
    rintro e w6 ⟨rfl, hb⟩
    have C6 := Lib.hid hb
    clear hb
    have t6 := C6.out.size
    have Bw6 := Lib.hid (Bw5.out.trans (C6.out.mono Bw5.out.size))
    have O_h0_6 : Hid (OwnL w6 w5.heap.size w6.heap.size none 1 encInt ([] : List Int)) := Lib.hid OwnL.nil
    have O_w0_6 := Lib.hid (O_w0_5.out.later C6.out)
    clear O_w0_5
    have O_g0_6 := Lib.hid (O_g0_5.out.later C6.out)
    clear O_g0_5
    go_wp2_with fail
    refine (eqIntS_t ([] : List Int) none none 0 0 _ (O_h0_6.out.rd encInt_len) (O_w0_6.out.rd encInt_len) (by simp)).mono ?_
    rintro e w7 ⟨rfl, hb⟩
    have C7 := Lib.hid hb
    clear hb
    have t7 := C7.out.size
    have Bw7 := Lib.hid (Bw6.out.trans (C7.out.mono Bw6.out.size))
    have O_g0_7 := Lib.hid (O_g0_6.out.later C7.out)
    clear O_g0_6
    go_wp2_with fail
    refine (heldIntS_any ([] : List Int).length none 0 1 _ (O_g0_7.out.rd encInt_len) (by simp) (by omega) (by omega)).mono ?_
    rintro e w8 ⟨he, hb⟩
    rw [← Hq4.out] at he
    subst he
    have C8 := Lib.hid hb
    clear hb
    have t8 := C8.out.size
    have Bw8 := Lib.hid (Bw7.out.trans (C8.out.mono Bw7.out.size))
    go_wp2_with fail
    go_ret
    exact ⟨rfl, Bw8.out⟩

namespace fnExactWrongBells
open Go.ChangeShapes Go.WideShapes Go.ChangeAt Go.RowKit
open Go.ChangeMaps (open_string shut_string)
theorem own : ownKnob Try.prog.godebug = none := by kernel_rfl
theorem laid : laidOutB Try.prog = true := by kernel_rfl
theorem reads : Try.f6.params.toList.all (fun t => Try.prog.readableRec t && decide (t < Try.prog.types.size)) = true := by kernel_rfl
set_option maxRecDepth 100000 in
theorem lifted (os : Os) (started : os.Started) (H : Type) (enc : TypeId × Value → H) :
    ReturnsInHanded {} Try.checked os 6 .any (Rows.fnExactWrongBellsSpec.pre6 enc Try.prog Try.f6 Rows.fnExactWrongBellsRow.domain false) (Rows.fnExactWrongBellsSpec.post enc Try.prog Try.f6 false true false false) := by
  refine returnsInHanded_of_change (C := Try.checked) own started (by kernel_rfl) Try.func6
    (ChangeSpec.witness6 (enc := enc) (C := Try.checked) false ⟨#[], #[.string ByteArray.empty, .string ByteArray.empty], []⟩ 8 (by kernel_rfl) (by kernel_rfl) (by kernel_rfl) (by kernel_rfl)) ?_
  intro W base args ds gs before hval0 hW hcnd _
  have hval : ∀ (j : Nat) t v, Try.f6.params[j]? = some t → args[j]? = some v → Value.okWide Try.prog W .any base t v := hval0
  have hW' := hW
  obtain ⟨p, q, hA0, hV, rfl, hfz, hnd⟩ := hW
  have hA : DataW.TrodAll enc Try.prog W 0 (fun _ => true) true Try.f6.params.toList args.toList ds p := hA0
  rw [Try.params6] at hA hval
  obtain ⟨rfl, rfl⟩ := trodVars_none hV
  have hlt : ∀ x ∈ p, x.block < W.heap.size := fun x hx => by simpa using hW'.lt x (List.mem_append.2 (.inl hx))
  clear hA0 hval0
  obtain ⟨v0, vs0, d0, ds0, p0, q0, hargs, rfl, rfl, h0, r0⟩ := trodAll_cons hA
  obtain ⟨v1, vs1, d1, ds1, p1, q1, rfl, rfl, rfl, h1, r1⟩ := trodAll_cons r0
  obtain ⟨rfl, rfl, rfl⟩ := trodAll_nil r1
  obtain rfl : args = #[v0, v1] := by cases args; simp_all
  clear hargs
  obtain ⟨a0, rfl, rfl, rfl, w0⟩ := open_string Try.underlying9 (hval 0 9 v0 rfl rfl) h0
  obtain ⟨a1, rfl, rfl, rfl, w1⟩ := open_string Try.underlying9 (hval 1 9 v1 rfl rfl) h1
  refine (wrongLaw W a0 w0 a1 w1).mono fun e W' ⟨he, hg⟩ => ?_
  subst he
  exact ⟨_, rfl, law_post laid reads rfl Try.underlying4 rfl rfl hW' hg⟩
theorem over : Rows.fnExactWrongBellsRow.holds Try.pinned (OpenSpec.ofChange Rows.fnExactWrongBellsSpec) :=
  OpenClaim.holds_of_wide 6 Try.f6 rfl rfl rfl rfl rfl rfl rfl ⟨rfl, rfl, rfl, rfl, rfl⟩ rfl rfl rfl rfl rfl (by kernel_rfl) Try.func6 (by kernel_rfl)
    (of_decide_eq_true (by kernel_rfl)) (by unfold Func.isWrapper; first | (rw [if_pos (by decide +kernel)]; kernel_rfl) | (rw [if_neg (by decide +kernel)]; exact ⟨rfl, rfl⟩))
    (fun os started H enc _ => lifted os started H enc)
theorem proved : Rows.FnExactWrongBellsSaid := over
end fnExactWrongBells
end Go.Proofs.Ytkmakmbdfeojcaa
