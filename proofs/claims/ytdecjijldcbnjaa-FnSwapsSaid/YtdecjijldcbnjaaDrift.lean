/-
  DriftOf of the program returns what the reference's returns, for all arguments: no condition.
-/
import Derived.Test.YtdecjijldcbnjaaL1c
import Derived.Test.YtdecjijldcbnjaaRow
namespace Go.Proofs.Ytdecjijldcbnjaa
open Go.RowKit
set_option linter.unusedVariables false
set_option linter.unusedSimpArgs false
set_option maxRecDepth 100000

def driftS (want rung : ByteArray) : ByteArray := timesS rung (turnS want)
theorem two_bytes {a b : ByteArray} (h : two a b) : ∀ i : Nat, i < (turnS a).size → 49 ≤ bat (turnS a) i ∧ bat (turnS a) i < 49 + b.size := by
  intro i hi
  rw [size_turn] at hi
  rw [bat_turn a h.1.2.1 i hi]
  obtain ⟨j, hj, e⟩ := h.1.hit (v := 49 + i) (by omega) (by omega)
  have := h.1.place hj
  rw [e, show (49 : Int) + i - 48 = i + 1 from by omega] at this
  have := h.2.2
  omega
theorem sDrift_t (a b : ByteArray) (w : World) (h : two a b) :
    Calls Try.prog 17 #[.string a, .string b] w fun e w' => e = .returned (.tuple #[.string (driftS a b), .bool true]) ∧ Below w.heap.size w w' := by
  have H := Lib.hid h
  have e1 := B_t h
  clear h
  go_enter Try.func17, Try.ntmps17
  go_wp2_with (first | (go_at_call 90; refine (l1Two_any _ _ _).mono ?_; rintro e w' ⟨rfl, n1, rfl⟩) | (go_at_call 98; refine (l1Turn_any _ _ H.out.1).mono ?_; rintro e w' ⟨rfl, hb1⟩) | (go_at_call 97; refine (l1Times_any _ _ _ (by rw [size_turn]; have := H.out.1.2.1; omega) (by have := H.out.2.1.2.1; omega) (two_bytes H.out)).mono ?_; rintro e w' ⟨rfl, rfl⟩))
  go_ret2
  exact ⟨rfl, (below_drewN (Below.refl _ _) n1).trans hb1⟩
theorem sDrift_f (a b : ByteArray) (w : World) (h : ¬ two a b) :
    Calls Try.prog 17 #[.string a, .string b] w fun e w' => e = .returned (.tuple #[.string ⟨#[]⟩, .bool false]) ∧ Below w.heap.size w w' := by
  have H := Lib.hid h
  have e1 := B_f h
  clear h
  go_enter Try.func17, Try.ntmps17
  go_wp2_with (go_at_call 90; refine (l1Two_any _ _ _).mono ?_; rintro e w' ⟨rfl, n1, rfl⟩)
  go_ret2
  exact ⟨rfl, below_drewN (Below.refl _ _) _⟩
theorem iDrift_t (a b : ByteArray) (w : World) (h : two a b) :
    Calls Try.prog 16 #[.string a, .string b] w fun e w' => e = .returned (.tuple #[.string (driftS a b), .bool true]) ∧ Below w.heap.size w w' := by
  have H := Lib.hid h
  have e1 := B_t h.1
  have e2 : B (isRowOf a.size b) = true := B_t ⟨by have := h.2.2; omega, h.2.1⟩
  have h8 := h.1.2.1
  clear h
  go_enter Try.func16, Try.ntmps16
  go_wp2_with (first | (go_at_call 87; refine (goodRow_any _ _).mono ?_; rintro e w' ⟨rfl, rfl⟩) | (go_at_call 88; refine (isRowOf_any _ _ _).mono ?_; rintro e w' ⟨rfl, rfl⟩) | (go_at_call 93; refine (turned_any _ _ H.out.1).mono ?_; rintro e w' ⟨rfl, hb1⟩) | (go_at_call 92; refine (times_any _ _ _ (by rw [size_turn]; have := H.out.1.2.1; omega) (two_bytes H.out)).mono ?_; rintro e w' ⟨rfl, hb2⟩))
  go_ret2
  exact ⟨rfl, hb1.trans (hb2.mono hb1.size)⟩
theorem iDrift_f (a b : ByteArray) (w : World) (h : ¬ two a b) :
    Calls Try.prog 16 #[.string a, .string b] w fun e w' => e = .returned (.tuple #[.string ⟨#[]⟩, .bool false]) ∧ Below w.heap.size w w' := by
  by_cases h1 : isRow a
  · have e1 := B_t h1
    have e2 : B (isRowOf a.size b) = false := B_f (fun x => h ⟨h1, x.2, by have := x.1; omega⟩)
    have h8 := h1.2.1
    clear h h1
    go_enter Try.func16, Try.ntmps16
    go_wp2_with (first | (go_at_call 87; refine (goodRow_any _ _).mono ?_; rintro e w' ⟨rfl, rfl⟩) | (go_at_call 88; refine (isRowOf_any _ _ _).mono ?_; rintro e w' ⟨rfl, rfl⟩))
    go_ret2
    exact ⟨rfl, Below.refl _ _⟩
  · have e1 := B_f h1
    clear h h1
    go_enter Try.func16, Try.ntmps16
    go_wp2_with (first | (go_at_call 87; refine (goodRow_any _ _).mono ?_; rintro e w' ⟨rfl, rfl⟩) | (go_at_call 88; refine (isRowOf_any _ _ _).mono ?_; rintro e w' ⟨rfl, rfl⟩))
    go_ret2
    exact ⟨rfl, Below.refl _ _⟩

end Go.Proofs.Ytdecjijldcbnjaa
