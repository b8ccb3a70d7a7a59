/-
  WrongBells of the program returns what the reference's returns, for all arguments: no condition.
-/
import Derived.Test.YtdecjijldcbnjaaPlace
import Derived.Test.YtdecjijldcbnjaaGrow
import Derived.Test.YtdecjijldcbnjaaTyInt
import Derived.Test.YtdecjijldcbnjaaRow
namespace Go.Proofs.Ytdecjijldcbnjaa
open Go.RowKit
set_option linter.unusedVariables false
set_option linter.unusedSimpArgs false
set_option maxRecDepth 100000

/-- The bells that are in other places. -/
def wrongL (a b : ByteArray) (k : Nat) : List Int := ((List.range k).filter fun i : Nat => placeS a (i + 1) != placeS b (i + 1)).map fun i : Nat => (i : Int) + 1
theorem wrongL_y (a b : ByteArray) (k : Nat) (h : (placeS a (k + 1) != placeS b (k + 1)) = true) : wrongL a b (k + 1) = wrongL a b k ++ [(k : Int) + 1] := by
  simp only [wrongL, List.range_succ, List.filter_append, List.map_append]
  simp [h]
theorem wrongL_n (a b : ByteArray) (k : Nat) (h : (placeS a (k + 1) != placeS b (k + 1)) = false) : wrongL a b (k + 1) = wrongL a b k := by
  simp only [wrongL, List.range_succ, List.filter_append, List.map_append]
  simp [h]
theorem wrongL_len (a b : ByteArray) (k : Nat) : (wrongL a b k).length ≤ k := by
  unfold wrongL; rw [List.length_map]; have := List.length_filter_le (fun i : Nat => placeS a (i + 1) != placeS b (i + 1)) (List.range k); simpa using this


set_option maxHeartbeats 800000 in
theorem sWrong_t (a b : ByteArray) (w : World) (h : two a b) :
    Calls Try.prog 19 #[.string a, .string b] w fun e w' => ∃ A c, e = .returned (.tuple #[.slice A (wrongL a b a.size).length c, .bool true]) ∧ OwnL w' w.heap.size w'.heap.size A 1 encInt (wrongL a b a.size) ∧ Below w.heap.size w w' := by
  have H := Lib.hid h
  have e1 := B_t h
  have h8 := h.1.2.1
  clear h
  go_enter Try.func19, Try.ntmps19
  go_wp2_with (go_at_call 90; refine (l1Two_any _ _ _).mono ?_; rintro e w' ⟨rfl, n1, rfl⟩)
  go_loopw [6, 7] (fun v i wr => ∃ k : Nat, k ≤ a.size ∧ i = .int .i64 (k + 1) ∧ Grow wr w.heap.size 3 1 encInt v (wrongL a b k) ∧ Below w.heap.size w wr) (fun _ i _ => a.size + 1 - (intOf i).toNat)
  case atStart => exact ⟨0, by omega, by rfl, Grow.nil, below_drewN (Below.refl _ _) _⟩
  case round =>
    obtain ⟨k, hk, rfl, hg, hbl⟩ := hrel
    have Hg := Lib.hid hg
    have Hbl := Lib.hid hbl
    have hlen := wrongL_len a b k
    have hgs := hbl.size
    clear hg hbl
    by_cases hlt : k < a.size
    · by_cases c : (placeS a (k + 1) != placeS b (k + 1)) = true
      · have C := Lib.hid c
        have hone : (∀ u ∈ [Value.int .i64 ((k : Int) + 1)], u.oneCell' = true) := by simp [Value.oneCell']
        have Hone := Lib.hid hone
        clear hone
        go_wp2_with (first | (go_at_call 95; refine (l5Place_any _ _ _ (by first | exact H.out.1 | exact H.out.2.1) (by omega) (by omega)).mono ?_; rintro e w' ⟨rfl, rfl⟩) | (at_builtin; refine wpList_push rfl _ _ 28 rfl w.heap.size 3 _ 1 8 encInt rfl Int_info rfl (by omega) _ (wrongL a b k) [(k : Int) + 1] 1 rfl rfl rfl Hg.out rfl encInt_len Hone.out (by simp; omega) (by omega) (by omega) ?_; intro v' w2 hg2 hb2 _))
        go_roundw
        case rel => exact ⟨k + 1, by omega, by go_num, by rw [wrongL_y a b k C.out]; exact hg2, Hbl.out.trans (hb2.mono (Nat.le_refl _))⟩
        case measure => simp [intOf]; omega
      · rw [Bool.not_eq_true] at c
        have C := Lib.hid c
        go_wp2_with (go_at_call 95; refine (l5Place_any _ _ _ (by first | exact H.out.1 | exact H.out.2.1) (by omega) (by omega)).mono ?_; rintro e w' ⟨rfl, rfl⟩)
        go_roundw
        case rel => exact ⟨k + 1, by omega, by go_num, by rw [wrongL_n a b k C.out]; exact Hg.out, Hbl.out⟩
        case measure => simp [intOf]; omega
    · go_wp2
      go_ret2
      obtain rfl : k = a.size := by omega
      obtain ⟨A, c, hv, ho⟩ := Hg.out.own encInt_len
      exact ⟨A, c, by rw [hv]; rfl, ho, Hbl.out⟩
theorem sWrong_f (a b : ByteArray) (w : World) (h : ¬ two a b) :
    Calls Try.prog 19 #[.string a, .string b] w fun e w' => e = .returned (.tuple #[.slice none 0 0, .bool false]) ∧ Below w.heap.size w w' := by
  have e1 := B_f h
  clear h
  go_enter Try.func19, Try.ntmps19
  go_wp2_with (go_at_call 90; refine (l1Two_any _ _ _).mono ?_; rintro e w' ⟨rfl, n1, rfl⟩)
  go_ret2
  exact ⟨rfl, below_drewN (Below.refl _ _) _⟩
set_option maxHeartbeats 800000 in
theorem iWrong_t (a b : ByteArray) (w : World) (h : two a b) :
    Calls Try.prog 18 #[.string a, .string b] w fun e w' => ∃ A c, e = .returned (.tuple #[.slice A (wrongL a b a.size).length c, .bool true]) ∧ OwnL w' w.heap.size w'.heap.size A 1 encInt (wrongL a b a.size) ∧ Below w.heap.size w w' := by
  have H := Lib.hid h
  have e1 := B_t h.1
  have e2 : B (isRowOf a.size b) = true := B_t ⟨by have := h.2.2; omega, h.2.1⟩
  have h8 := h.1.2.1
  clear h
  go_enter Try.func18, Try.ntmps18
  go_wp2_with (first | (go_at_call 87; refine (goodRow_any _ _).mono ?_; rintro e w' ⟨rfl, rfl⟩) | (go_at_call 88; refine (isRowOf_any _ _ _).mono ?_; rintro e w' ⟨rfl, rfl⟩))
  go_loopw [6, 7] (fun v i wr => ∃ k : Nat, k ≤ a.size ∧ i = .int .i64 (k + 1) ∧ Grow wr w.heap.size 3 1 encInt v (wrongL a b k) ∧ Below w.heap.size w wr) (fun _ i _ => a.size + 1 - (intOf i).toNat)
  case atStart => exact ⟨0, by omega, by rfl, Grow.empty (Nat.le_refl _), (Below.refl _ _).alloc (Nat.le_refl _) _⟩
  case round =>
    obtain ⟨k, hk, rfl, hg, hbl⟩ := hrel
    have Hg := Lib.hid hg
    have Hbl := Lib.hid hbl
    have hlen := wrongL_len a b k
    have hgs := hbl.size
    clear hg hbl
    by_cases hlt : k < a.size
    · by_cases c : (placeS a (k + 1) != placeS b (k + 1)) = true
      · have C := Lib.hid c
        have hone : (∀ u ∈ [Value.int .i64 ((k : Int) + 1)], u.oneCell' = true) := by simp [Value.oneCell']
        have Hone := Lib.hid hone
        clear hone
        go_wp2_with (first | (go_at_call 99; refine (placeOf_any _ _ _ (by first | exact H.out.1 | exact H.out.2.1) (by omega) (by omega)).mono ?_; rintro e w' ⟨rfl, rfl⟩) | (at_builtin; refine wpList_push rfl _ _ 28 rfl w.heap.size 3 _ 1 8 encInt rfl Int_info rfl (by omega) _ (wrongL a b k) [(k : Int) + 1] 1 rfl rfl rfl Hg.out rfl encInt_len Hone.out (by simp; omega) (by omega) (by omega) ?_; intro v' w2 hg2 hb2 _))
        go_roundw
        case rel => exact ⟨k + 1, by omega, by go_num, by rw [wrongL_y a b k C.out]; exact hg2, Hbl.out.trans (hb2.mono (Nat.le_refl _))⟩
        case measure => simp [intOf]; omega
      · rw [Bool.not_eq_true] at c
        have C := Lib.hid c
        go_wp2_with (go_at_call 99; refine (placeOf_any _ _ _ (by first | exact H.out.1 | exact H.out.2.1) (by omega) (by omega)).mono ?_; rintro e w' ⟨rfl, rfl⟩)
        go_roundw
        case rel => exact ⟨k + 1, by omega, by go_num, by rw [wrongL_n a b k C.out]; exact Hg.out, Hbl.out⟩
        case measure => simp [intOf]; omega
    · go_wp2
      go_ret2
      obtain rfl : k = a.size := by omega
      obtain ⟨A, c, hv, ho⟩ := Hg.out.own encInt_len
      exact ⟨A, c, by rw [hv]; rfl, ho, Hbl.out⟩
theorem iWrong_f (a b : ByteArray) (w : World) (h : ¬ two a b) :
    Calls Try.prog 18 #[.string a, .string b] w fun e w' => e = .returned (.tuple #[.slice none 0 0, .bool false]) ∧ Below w.heap.size w w' := by
  by_cases h1 : isRow a
  · have e1 := B_t h1
    have e2 : B (isRowOf a.size b) = false := B_f (fun x => h ⟨h1, x.2, by have := x.1; omega⟩)
    have h8 := h1.2.1
    clear h h1
    go_enter Try.func18, Try.ntmps18
    go_wp2_with (first | (go_at_call 87; refine (goodRow_any _ _).mono ?_; rintro e w' ⟨rfl, rfl⟩) | (go_at_call 88; refine (isRowOf_any _ _ _).mono ?_; rintro e w' ⟨rfl, rfl⟩))
    go_ret2
    exact ⟨rfl, Below.refl _ _⟩
  · have e1 := B_f h1
    clear h h1
    go_enter Try.func18, Try.ntmps18
    go_wp2_with (first | (go_at_call 87; refine (goodRow_any _ _).mono ?_; rintro e w' ⟨rfl, rfl⟩) | (go_at_call 88; refine (isRowOf_any _ _ _).mono ?_; rintro e w' ⟨rfl, rfl⟩))
    go_ret2
    exact ⟨rfl, Below.refl _ _⟩

end Go.Proofs.Ytdecjijldcbnjaa
