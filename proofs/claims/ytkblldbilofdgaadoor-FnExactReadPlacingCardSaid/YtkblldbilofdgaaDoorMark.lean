/-
  Contract of markText: the mark of a number.
-/
import Derived.Test.YtkblldbilofdgaaDoorRows
import Derived.Test.YtkblldbilofdgaaDoorList
namespace Go.Proofs.YtkblldbilofdgaaDoor
open Go.RowKit
set_option linter.unusedVariables false
set_option linter.unusedSimpArgs false
set_option maxRecDepth 100000

/-- What a law's size function tells: too large, or what is left. -/
def SzOk (r left : Int) (n : Nat) (sm : Prop) : Prop := r < 0 ∨ (0 ≤ r ∧ r ≤ left ∧ (n : Int) ≤ left ∧ sm)
/-- The decimal digits of a number, none for 0. -/
def digN : Nat → Nat → List Int
  | 0, _ => []
  | f + 1, k => if k = 0 then [] else digN f (k / 10) ++ [48 + ((k % 10 : Nat) : Int)]
theorem digN_fuel : ∀ (f g k : Nat), k ≤ f → k ≤ g → digN f k = digN g k := by
  intro f
  induction f with
  | zero => intro g k h1 h2; obtain rfl : k = 0 := by omega
            cases g <;> simp [digN]
  | succ f ih =>
    intro g k h1 h2
    cases g with
    | zero => obtain rfl : k = 0 := by omega
              simp [digN]
    | succ g =>
      simp only [digN]
      by_cases h : k = 0
      · rw [if_pos h, if_pos h]
      · rw [if_neg h, if_neg h, ih g (k / 10) (by omega) (by omega)]
def digs (k : Nat) : List Int := digN k k
theorem digs_zero : digs 0 = [] := rfl
theorem digs_pos (k : Nat) (h : 0 < k) : digs k = digs (k / 10) ++ [48 + ((k % 10 : Nat) : Int)] := by
  unfold digs
  obtain ⟨m, rfl⟩ : ∃ m, k = m + 1 := ⟨k - 1, by omega⟩
  conv => lhs; unfold digN
  rw [if_neg (by omega), digN_fuel m ((m + 1) / 10) ((m + 1) / 10) (by omega) (Nat.le_refl _)]
theorem digs_len (k : Nat) : (digs k).length ≤ k := by
  induction k using Nat.strongRecOn with
  | ind k ih =>
    rcases Nat.eq_zero_or_pos k with rfl | h
    · simp [digs_zero]
    · rw [digs_pos k h, List.length_append]; have := ih (k / 10) (by omega); simp; omega
theorem mkS_app (l m : List Int) : mkS l ++ mkS m = mkS (l ++ m) := by
  apply ByteArray.ext
  simp [mkS, ByteArray.data_append]
/-- The mark of a number from 1 on. -/
def markT (k : Nat) : ByteArray := mkS ([109] ++ digs k)

set_option maxHeartbeats 800000 in
theorem markText_any (k : Nat) (w : World) (h0 : 0 < k) (hk : k ≤ 1000000000000) :
    Calls Tryd.prog 26 #[.int .i64 k] w fun e w' => e = .returned (.string (markT k)) ∧ Below w.heap.size w w' := by
  go_enter Tryd.func26, Tryd.ntmps26
  go_wp2
  go_loopw [0, 3] (fun i s wr => ∃ (m : Nat) (t : List Int), i = .int .i64 m ∧ s = .string (mkS t) ∧ t.length + m ≤ k ∧ Hid (digs k = digs m ++ t) ∧ Below w.heap.size w wr) (fun i _ _ => (intOf i).toNat)
  case atStart => exact ⟨k, [], rfl, by simp [mkS], by simp, by show _ = _; simp, Below.refl _ _⟩
  case round =>
    obtain ⟨m, t, rfl, rfl, hl, he, hbl⟩ := hrel
    have Hbl := Lib.hid hbl
    clear hbl
    have hsz : (mkS t).size ≤ k := by rw [size_mkS]; omega
    by_cases hlt : 0 < m
    · have hm9 : (m : Int) % 10 < 10 := by omega
      have hm0 : 0 ≤ (m : Int) % 10 := by omega
      have hs1 := size_mkS [48 + (m : Int) % 10]
      have Hs1 := Lib.hid hs1
      clear hs1
      have hs1 : (mkS [48 + (m : Int) % 10]).size ≤ 1 := by rw [Hs1.out]; simp
      go_wp2
      go_roundw
      case rel =>
        refine ⟨m / 10, (48 + (m : Int) % 10) :: t, by simp, by rw [mkS_app]; rfl, by simp; omega, ?_, Hbl.out.alloc (by have := Hbl.out.size; omega) _⟩
        show _ = _
        rw [he.out, digs_pos m hlt]
        simp
      case measure => simp [intOf]; omega
    · go_wp2
      go_ret
      obtain rfl : m = 0 := by omega
      refine ⟨ret_str ?_, Hbl.out⟩
      have e := he.out
      rw [digs_zero, List.nil_append] at e
      unfold markT
      rw [e, ← mkS_app]
      rfl
end Go.Proofs.YtkblldbilofdgaaDoor
