import Derived.Test.YtbfhfnejppfehaaDoorMGainL04
import Derived.Test.YtbfhfnejppfehaaDoorMGainL08
import Derived.Test.YtbfhfnejppfehaaDoorMGainL09
import Derived.Test.YtbfhfnejppfehaaDoorMGainL00
/-
  Contracts: all numbers of a list within bounds; a number among the first of a list (both sides).
-/
namespace Go.Proofs.YtbfhfnejppfehaaDoor
open Go.RowKit
set_option linter.unusedVariables false
set_option linter.unusedSimpArgs false
set_option maxRecDepth 100000

def allIn (l : List Int) (lo hi : Int) : Prop := ∀ s ∈ l, inB s lo hi
def hasUpTo (l : List Int) (m : Nat) (n : Int) : Prop := ∃ (j : Nat) (h : j < l.length), j < m ∧ l[j] = n

theorem l1All_any (l : List Int) (A : Option Addr) (c : Nat) (lo hi : Int) (w : World) (h : RdL w w.heap.size A 1 encInt l) (hl : l.length ≤ 4611686018427387904) :
    Calls Tryd.prog 97 #[.slice A l.length c, .int .i64 lo, .int .i64 hi] w fun e w' => e = .returned (.bool (B (allIn l lo hi))) ∧ w = w' := by
  go_enter Tryd.func97, Tryd.ntmps97
  go_wp2
  go_loop [11] (fun i => ∃ k : Nat, k ≤ l.length ∧ i = .int .i64 k ∧ ∀ (j : Nat) (hj : j < l.length), j < k → inB l[j] lo hi) (fun i => l.length - (intOf i).toNat)
  case atStart => exact ⟨0, by omega, by rfl, fun j _ h => by omega⟩
  case round =>
    obtain ⟨k, hk, rfl, hp⟩ := hrel
    have Hp := Lib.hid hp
    clear hp
    by_cases hlt : k < l.length
    · obtain ⟨g, off, hA, hg, hcell⟩ := h.at (k := k) (by omega)
      subst hA
      have r0 : w.cell? ⟨g, off + k, none⟩ = some (.int .i64 (l[k]'(by omega))) := by have := hcell 0 _ rfl; rw [Nat.mul_one] at this; exact this
      obtain ⟨x, hx⟩ : ∃ x, Hid (l[k]'(by omega) = x) := ⟨_, Lib.hid rfl⟩
      rw [hx.out] at r0
      clear hcell
      by_cases hin : inB x lo hi
      · have e2 := B_t hin
        have Hin := Lib.hid hin
        clear hin
        go_wp2_with (go_at_call 48; refine (l1In_any _ _ _ _).mono ?_; rintro e w' ⟨rfl, rfl⟩)
        go_round
        case rel =>
          refine ⟨k + 1, by omega, by go_num, fun j hj h1 => ?_⟩
          rcases Nat.lt_or_eq_of_le (Nat.le_of_lt_succ h1) with h' | rfl
          · exact Hp.out j hj h'
          · rw [hx.out]; exact Hin.out
        case measure => simp [intOf]; omega
      · have e2 := B_f hin
        have Hin := Lib.hid hin
        clear hin
        go_wp2_with (go_at_call 48; refine (l1In_any _ _ _ _).mono ?_; rintro e w' ⟨rfl, rfl⟩)
        go_ret
        exact ⟨ret_f (fun ha => Hin.out (by rw [← hx.out]; exact ha _ (List.getElem_mem _))), rfl⟩
    · obtain rfl : k = l.length := by omega
      go_wp2
      go_ret
      refine ⟨ret_t (fun s hs => ?_), rfl⟩
      obtain ⟨j, hj, rfl⟩ := List.getElem_of_mem hs
      exact Hp.out j hj hj

theorem l1Has_any (l : List Int) (m : Nat) (hm : m ≤ l.length) (A : Option Addr) (c : Nat) (n : Int) (w : World) (h : RdL w w.heap.size A 1 encInt l) (hl : l.length ≤ 4611686018427387904) :
    Calls Tryd.prog 87 #[.slice A m c, .int .i64 n] w fun e w' => e = .returned (.bool (B (hasUpTo l m n))) ∧ w = w' := by
  go_enter Tryd.func87, Tryd.ntmps87
  go_wp2
  go_loop [9] (fun i => ∃ k : Nat, k ≤ m ∧ i = .int .i64 k ∧ ∀ (j : Nat) (hj : j < l.length), j < k → l[j] ≠ n) (fun i => m - (intOf i).toNat)
  case atStart => exact ⟨0, by omega, by rfl, fun j _ h => by omega⟩
  case round =>
    obtain ⟨k, hk, rfl, hp⟩ := hrel
    have Hp := Lib.hid hp
    clear hp
    by_cases hlt : k < m
    · obtain ⟨g, off, hA, hg, hcell⟩ := h.at (k := k) (by omega)
      subst hA
      have r0 : w.cell? ⟨g, off + k, none⟩ = some (.int .i64 (l[k]'(by omega))) := by have := hcell 0 _ rfl; rw [Nat.mul_one] at this; exact this
      obtain ⟨x, hx⟩ : ∃ x, Hid (l[k]'(by omega) = x) := ⟨_, Lib.hid rfl⟩
      rw [hx.out] at r0
      clear hcell
      by_cases hin : x = n
      · rw [hin] at r0 hx
        clear hin
        go_wp2
        go_ret
        exact ⟨ret_t ⟨k, by omega, hlt, hx.out⟩, rfl⟩
      · have hin2 : ¬ n = x := fun h => hin h.symm
        go_wp2
        go_round
        case rel =>
          refine ⟨k + 1, by omega, by go_num, fun j hj h1 => ?_⟩
          rcases Nat.lt_or_eq_of_le (Nat.le_of_lt_succ h1) with h' | rfl
          · exact Hp.out j hj h'
          · rw [hx.out]; exact hin
        case measure => simp [intOf]; omega
    · obtain rfl : k = m := by omega
      go_wp2
      go_ret
      exact ⟨ret_f (fun ⟨j, h1, h2, h3⟩ => Hp.out j h1 h2 h3), rfl⟩
theorem indexInt_any (l : List Int) (m : Nat) (hm : m ≤ l.length) (A : Option Addr) (c : Nat) (n : Int) (w : World) (h : RdL w w.heap.size A 1 encInt l) (hl : l.length ≤ 4611686018427387904) :
    Calls Tryd.prog 114 #[.slice A m c, .int .i64 n] w fun e w' => (∃ r : Int, e = .returned (.int .i64 r) ∧ (0 ≤ r ↔ hasUpTo l m n)) ∧ w = w' := by
  go_enter Tryd.func114, Tryd.ntmps114
  go_wp2
  go_loop [8] (fun i => ∃ k : Nat, k ≤ m ∧ i = .int .i64 k ∧ ∀ (j : Nat) (hj : j < l.length), j < k → l[j] ≠ n) (fun i => m - (intOf i).toNat)
  case atStart => exact ⟨0, by omega, by rfl, fun j _ h => by omega⟩
  case round =>
    obtain ⟨k, hk, rfl, hp⟩ := hrel
    have Hp := Lib.hid hp
    clear hp
    by_cases hlt : k < m
    · obtain ⟨g, off, hA, hg, hcell⟩ := h.at (k := k) (by omega)
      subst hA
      have r0 : w.cell? ⟨g, off + k, none⟩ = some (.int .i64 (l[k]'(by omega))) := by have := hcell 0 _ rfl; rw [Nat.mul_one] at this; exact this
      obtain ⟨x, hx⟩ : ∃ x, Hid (l[k]'(by omega) = x) := ⟨_, Lib.hid rfl⟩
      rw [hx.out] at r0
      clear hcell
      by_cases hin : x = n
      · rw [hin] at r0 hx
        clear hin
        go_wp2
        go_ret
        exact ⟨⟨_, rfl, ⟨fun _ => ⟨k, by omega, hlt, hx.out⟩, fun _ => by omega⟩⟩, rfl⟩
      · have hin2 : ¬ n = x := fun h => hin h.symm
        go_wp2
        go_round
        case rel =>
          refine ⟨k + 1, by omega, by go_num, fun j hj h1 => ?_⟩
          rcases Nat.lt_or_eq_of_le (Nat.le_of_lt_succ h1) with h' | rfl
          · exact Hp.out j hj h'
          · rw [hx.out]; exact hin
        case measure => simp [intOf]; omega
    · obtain rfl : k = m := by omega
      go_wp2
      go_ret
      exact ⟨⟨_, rfl, ⟨fun h => absurd h (by omega), fun ⟨j, h1, h2, h3⟩ => absurd h3 (Hp.out j h1 h2)⟩⟩, rfl⟩
theorem containsInt_any (l : List Int) (m : Nat) (hm : m ≤ l.length) (A : Option Addr) (c : Nat) (n : Int) (w : World) (h : RdL w w.heap.size A 1 encInt l) (hl : l.length ≤ 4611686018427387904) :
    Calls Tryd.prog 86 #[.slice A m c, .int .i64 n] w fun e w' => e = .returned (.bool (B (hasUpTo l m n))) ∧ w = w' := by
  have H := Lib.hid h
  clear h
  go_enter Tryd.func86, Tryd.ntmps86
  go_wp2_with (go_at_call 114; refine (indexInt_any l m hm A c n _ H.out hl).mono ?_; rintro e w' ⟨⟨r, rfl, hr⟩, rfl⟩; have Hr := Lib.hid hr; clear hr)
  all_goals go_ret
  by_cases hq : hasUpTo l m n
  · exact ⟨by have := Hr.out.2 hq; rw [B_t hq]; first | (simp; done) | (simp; omega), rfl⟩
  · exact ⟨by have : ¬ 0 ≤ r := fun h => hq (Hr.out.1 h); rw [B_f hq]; first | (simp; done) | (simp; omega), rfl⟩
end Go.Proofs.YtbfhfnejppfehaaDoor

/-
  Equality of two strings, as the walk asks it.
-/
namespace Go.Proofs.YtbfhfnejppfehaaDoor
theorem toList_inj {s t : ByteArray} : s.toList = t.toList ↔ s = t := by
  constructor
  · intro h
    rw [ByteArray.toList_eq, ByteArray.toList_eq] at h
    exact ByteArray.ext (Array.ext' h)
  · intro h; rw [h]
theorem eqB_t {s t : ByteArray} (h : s = t) : (s.toList == t.toList) = true := by rw [h]; simp
theorem eqB_f {s t : ByteArray} (h : ¬ s = t) : (s.toList == t.toList) = false := by rw [beq_eq_false_iff_ne]; exact fun e => h (toList_inj.1 e)
end Go.Proofs.YtbfhfnejppfehaaDoor
