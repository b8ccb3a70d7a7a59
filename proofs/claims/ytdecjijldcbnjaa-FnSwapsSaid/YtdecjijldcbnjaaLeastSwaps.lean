/-
  LeastSwaps of the program returns what the reference's returns, for all arguments: no condition.
-/
import Derived.Test.YtdecjijldcbnjaaLeast
import Derived.Test.YtdecjijldcbnjaaRow
namespace Go.Proofs.Ytdecjijldcbnjaa
open Go.RowKit
set_option linter.unusedVariables false
set_option linter.unusedSimpArgs false
set_option maxRecDepth 100000

theorem leastL_len {a b : ByteArray} (h : two a b) : (leastL a b).length ≤ 8 ∧ tot (leastL a b) ≤ 16 := by
  have := lsw_len a b a.size
  have := h.1.2.1
  unfold leastL; omega
theorem sLeast_t (a b : ByteArray) (w : World) (h : two a b) :
    Calls Try.prog 13 #[.string a, .string b] w fun e w' => ∃ A c, e = .returned (.tuple #[.slice A (leastL a b).length c, .bool true]) ∧ OwnS w' w.heap.size w'.heap.size A (leastL a b) ∧ Below w.heap.size w w' := by
  have H := Lib.hid h
  have e1 := B_t h
  clear h
  go_enter Try.func13, Try.ntmps13
  go_wp2_with (first | (go_at_call 90; refine (l1Two_any _ _ _).mono ?_; rintro e w' ⟨rfl, n1, rfl⟩) | (go_at_call 91; refine (l25Least_any a b _ H.out).mono ?_; rintro e w2 ⟨A, c, rfl, ho, hb⟩; have Ho := Lib.hid ho; have Hb := Lib.hid hb; clear ho hb))
  go_ret2
  exact ⟨A, c, rfl, Ho.out, (below_drewN (Below.refl _ _) _).trans Hb.out⟩
theorem sLeast_f (a b : ByteArray) (w : World) (h : ¬ two a b) :
    Calls Try.prog 13 #[.string a, .string b] w fun e w' => e = .returned (.tuple #[.slice none 0 0, .bool false]) ∧ Below w.heap.size w w' := by
  have e1 := B_f h
  clear h
  go_enter Try.func13, Try.ntmps13
  go_wp2_with (go_at_call 90; refine (l1Two_any _ _ _).mono ?_; rintro e w' ⟨rfl, n1, rfl⟩)
  go_ret2
  exact ⟨rfl, below_drewN (Below.refl _ _) _⟩
theorem iLeast_t (a b : ByteArray) (w : World) (h : two a b) :
    Calls Try.prog 12 #[.string a, .string b] w fun e w' => ∃ A c, e = .returned (.tuple #[.slice A (leastL a b).length c, .bool true]) ∧ OwnS w' w.heap.size w'.heap.size A (leastL a b) ∧ Below w.heap.size w w' := by
  have H := Lib.hid h
  have e1 := B_t h.1
  have e2 : B (isRowOf a.size b) = true := B_t ⟨by have := h.2.2; omega, h.2.1⟩
  have h8 := h.1.2.1
  clear h
  go_enter Try.func12, Try.ntmps12
  go_wp2_with (first | (go_at_call 87; refine (goodRow_any _ _).mono ?_; rintro e w' ⟨rfl, rfl⟩) | (go_at_call 88; refine (isRowOf_any _ _ _).mono ?_; rintro e w' ⟨rfl, rfl⟩) | (go_at_call 89; refine (leastSwaps_any a b _ H.out).mono ?_; rintro e w2 ⟨A, c, rfl, ho, hb⟩; have Ho := Lib.hid ho; have Hb := Lib.hid hb; clear ho hb))
  go_ret2
  exact ⟨A, c, rfl, Ho.out, Hb.out⟩
theorem iLeast_f (a b : ByteArray) (w : World) (h : ¬ two a b) :
    Calls Try.prog 12 #[.string a, .string b] w fun e w' => e = .returned (.tuple #[.slice none 0 0, .bool false]) ∧ Below w.heap.size w w' := by
  by_cases h1 : isRow a
  · have e1 := B_t h1
    have e2 : B (isRowOf a.size b) = false := B_f (fun x => h ⟨h1, x.2, by have := x.1; omega⟩)
    have h8 := h1.2.1
    clear h h1
    go_enter Try.func12, Try.ntmps12
    go_wp2_with (first | (go_at_call 87; refine (goodRow_any _ _).mono ?_; rintro e w' ⟨rfl, rfl⟩) | (go_at_call 88; refine (isRowOf_any _ _ _).mono ?_; rintro e w' ⟨rfl, rfl⟩))
    go_ret2
    exact ⟨rfl, Below.refl _ _⟩
  · have e1 := B_f h1
    clear h h1
    go_enter Try.func12, Try.ntmps12
    go_wp2_with (first | (go_at_call 87; refine (goodRow_any _ _).mono ?_; rintro e w' ⟨rfl, rfl⟩) | (go_at_call 88; refine (isRowOf_any _ _ _).mono ?_; rintro e w' ⟨rfl, rfl⟩))
    go_ret2
    exact ⟨rfl, Below.refl _ _⟩

end Go.Proofs.Ytdecjijldcbnjaa
