import Derived.Test.YtglnehinmdmgmaaMBlowsInL10
import Derived.Test.YtglnehinmdmgmaaMBlowsInL21
/-
  Contracts: lists of rows (both sides); two lists of rows of one length and stage.
-/
namespace Go.Proofs.Ytglnehinmdmgmaa
open Go.RowKit
set_option linter.unusedVariables false
set_option linter.unusedSimpArgs false
set_option maxRecDepth 100000

/-- The size of a list's first row. -/
def sz0 (l : List ByteArray) : Nat := match l with | [] => 0 | x :: _ => x.size
theorem sz0_eq (l : List ByteArray) (h : 0 < l.length) : sz0 l = l[0].size := by
  cases l with
  | nil => simp at h
  | cons x l => rfl
/-- A list of rows of one stage. -/
def rowsP (l : List ByteArray) : Prop := l.length ≤ 800 ∧ ∀ (i : Nat) (hi : i < l.length), isRow l[i] ∧ l[i].size = sz0 l


set_option maxHeartbeats 800000 in
theorem goodRows_any (l : List ByteArray) (A : Option Addr) (c : Nat) (w : World) (h : RdL w w.heap.size A 1 encString l) (hl : l.length ≤ 1048576) (hs : ∀ x ∈ l, String_small 1048576 x) :
    Calls Try.prog 27 #[.slice A l.length c] w fun e w' => e = .returned (.bool (B (rowsP l))) ∧ w = w' := by
  by_cases hn : 800 < l.length
  · go_enter Try.func27, Try.ntmps27
    go_wp2
    go_ret
    exact ⟨ret_f (fun x => by have := x.1; omega), rfl⟩
  go_enter Try.func27, Try.ntmps27
  go_wp2
  go_loop [10] (fun i => ∃ k : Nat, k ≤ l.length ∧ i = .int .i64 k ∧ (∀ (j : Nat) (hj : j < l.length), j < k → isRow l[j] ∧ l[j].size = sz0 l)) (fun i => l.length - (intOf i).toNat)
  case atStart => exact ⟨0, by omega, by rfl, by omega⟩
  case round =>
    obtain ⟨k, hk, rfl, hp⟩ := hrel
    have Hp := Lib.hid hp
    clear hp
    by_cases hlt : k < l.length
    · obtain ⟨g, off, hA, hg, hcell⟩ := h.at hlt
      obtain ⟨g', off', hA', hg', hcell'⟩ := h.at (k := 0) (by omega)
      subst hA
      simp only [Option.some.injEq, Addr.mk.injEq, and_true] at hA'
      obtain ⟨rfl, rfl⟩ := hA'
      have r0 : w.cell? ⟨g, off + k, none⟩ = some (.string l[k]) := by have := hcell 0 _ rfl; rw [Nat.mul_one] at this; exact this
      have q0 : w.cell? ⟨g, off, none⟩ = some (.string l[0]) := hcell' 0 _ rfl
      have es := sz0_eq l (by omega)
      clear hcell hcell' h
      obtain ⟨x, hx⟩ : ∃ x, Hid (l[k] = x) := ⟨l[k], Lib.hid rfl⟩
      obtain ⟨y, hy⟩ : ∃ y, Hid (l[0] = y) := ⟨l[0], Lib.hid rfl⟩
      rw [hx.out] at r0
      rw [hy.out] at q0 es
      have Es := Lib.hid es
      clear es
      have hxy : (x.size : Int) ≤ 1048576 ∧ (y.size : Int) ≤ 1048576 := ⟨by rw [← hx.out]; exact hs _ (List.getElem_mem _), by rw [← hy.out]; exact hs _ (List.getElem_mem _)⟩
      by_cases hc : isRowOf y.size x
      · have e1 := B_t hc
        have Hc := Lib.hid hc
        clear hc hs
        go_wp2_with (go_at_call 42; refine (isRowOf_any _ _ _).mono ?_; rintro e w' ⟨rfl, rfl⟩)
        go_round
        case rel =>
          refine ⟨k + 1, by omega, by go_num, fun j hj hj1 => ?_⟩
          rcases Nat.lt_or_eq_of_le (Nat.le_of_lt_succ hj1) with h' | rfl
          · exact Hp.out j hj h'
          · rw [hx.out, Es.out]; exact ⟨Hc.out.2, by have := Hc.out.1; omega⟩
        case measure => simp [intOf]; omega
      · have e1 := B_f hc
        have Hc := Lib.hid hc
        clear hc hs
        go_wp2_with (go_at_call 42; refine (isRowOf_any _ _ _).mono ?_; rintro e w' ⟨rfl, rfl⟩)
        go_ret
        refine ⟨ret_f (fun h => Hc.out ?_), rfl⟩
        have := h.2 k hlt
        rw [hx.out, Es.out] at this
        exact ⟨by omega, this.1⟩
    · obtain rfl : k = l.length := by omega
      go_wp2
      go_ret
      exact ⟨ret_t ⟨by omega, fun i hi => Hp.out i hi hi⟩, rfl⟩
set_option maxHeartbeats 1600000 in
theorem l6Rows_any (l : List ByteArray) (A : Option Addr) (c : Nat) (w : World) (h : RdL w w.heap.size A 1 encString l) (hl : l.length ≤ 1048576) (hs : ∀ x ∈ l, String_small 1048576 x) :
    Calls Try.prog 19 #[.slice A l.length c] w fun e w' => e = .returned (.bool (B (rowsP l))) ∧ ∃ n, w' = w.drewN n := by
  go_enter Try.func19, Try.ntmps19
  go_wp2
  go_loopw [7] (fun i wr => ∃ k : Nat, k ≤ l.length ∧ i = .int .i64 k ∧ (∀ (j : Nat) (hj : j < l.length), j < k → isRow l[j] ∧ l[j].size = sz0 l) ∧ ∃ n, wr = w.drewN n) (fun i _ => l.length - (intOf i).toNat)
  case atStart => exact ⟨0, by omega, by rfl, by omega, 0, rfl⟩
  case round =>
    obtain ⟨k, hk, rfl, hp, n, rfl⟩ := hrel
    have Hp := Lib.hid hp
    clear hp
    by_cases hlt : k < l.length
    · obtain ⟨g, off, hA, hg, hcell⟩ := h.at hlt
      obtain ⟨g', off', hA', hg', hcell'⟩ := h.at (k := 0) (by omega)
      subst hA
      simp only [Option.some.injEq, Addr.mk.injEq, and_true] at hA'
      obtain ⟨rfl, rfl⟩ := hA'
      have r0 : w.cell? ⟨g, off + k, none⟩ = some (.string l[k]) := by have := hcell 0 _ rfl; rw [Nat.mul_one] at this; exact this
      have q0 : w.cell? ⟨g, off, none⟩ = some (.string l[0]) := hcell' 0 _ rfl
      have es := sz0_eq l (by omega)
      clear hcell hcell' h
      obtain ⟨x, hx⟩ : ∃ x, Hid (l[k] = x) := ⟨l[k], Lib.hid rfl⟩
      obtain ⟨y, hy⟩ : ∃ y, Hid (l[0] = y) := ⟨l[0], Lib.hid rfl⟩
      rw [hx.out] at r0
      rw [hy.out] at q0 es
      have Es := Lib.hid es
      clear es
      have hxy : (x.size : Int) ≤ 1048576 ∧ (y.size : Int) ≤ 1048576 := ⟨by rw [← hx.out]; exact hs _ (List.getElem_mem _), by rw [← hy.out]; exact hs _ (List.getElem_mem _)⟩
      obtain ⟨hx1, hy1⟩ := hxy
      by_cases hc : isRow x
      · have e1 := B_t hc
        have Hc := Lib.hid hc
        clear hc hs
        by_cases hz : x.size = y.size
        · have hzb : ((x.size : Int) != y.size) = false := by simp [hz]
          have Hz := Lib.hid hz
          clear hz
          go_wp2_with (go_at_call 38; refine (l1Row_any _ _).mono ?_; rintro e w' ⟨rfl, m, rfl⟩)
          go_roundw
          case rel =>
            refine ⟨k + 1, by omega, by go_num, fun j hj hj1 => ?_, _, rfl⟩
            rcases Nat.lt_or_eq_of_le (Nat.le_of_lt_succ hj1) with h' | rfl
            · exact Hp.out j hj h'
            · rw [hx.out, Es.out]; exact ⟨Hc.out, Hz.out⟩
          case measure => simp [intOf]; omega
        · have hzb : ((x.size : Int) != y.size) = true := by rw [bne_iff_ne]; omega
          have Hz := Lib.hid hz
          clear hz
          go_wp2_with (go_at_call 38; refine (l1Row_any _ _).mono ?_; rintro e w' ⟨rfl, m, rfl⟩)
          go_ret
          refine ⟨ret_f (fun h => Hz.out ?_), _, rfl⟩
          have := h.2 k hlt
          rw [hx.out, Es.out] at this
          exact this.2
      · have e1 := B_f hc
        have Hc := Lib.hid hc
        clear hc hs
        go_wp2_with (go_at_call 38; refine (l1Row_any _ _).mono ?_; rintro e w' ⟨rfl, m, rfl⟩)
        go_ret
        refine ⟨ret_f (fun h => Hc.out ?_), _, rfl⟩
        have := h.2 k hlt
        rw [hx.out] at this
        exact this.1
    · obtain rfl : k = l.length := by omega
      by_cases hn : l.length ≤ 800
      · go_wp2
        go_ret
        exact ⟨by rw [B_t (show rowsP l from ⟨hn, fun i hi => Hp.out i hi hi⟩)]; simp; omega, _, rfl⟩
      · go_wp2
        go_ret
        exact ⟨by rw [B_f (show ¬ rowsP l from fun x => hn x.1)]; simp; omega, _, rfl⟩
end Go.Proofs.Ytglnehinmdmgmaa

/-
  Contracts: the place of a bell in a row (both sides).
-/
namespace Go.Proofs.Ytglnehinmdmgmaa
open Go.RowKit
set_option linter.unusedVariables false
set_option linter.unusedSimpArgs false
set_option maxRecDepth 100000


set_option maxHeartbeats 800000 in
theorem placeOf_any (a : ByteArray) (b : Int) (w : World) (h : isRow a) (h0 : 0 ≤ b) (h9 : b ≤ 1000) :
    Calls Try.prog 30 #[.string a, .int .i64 b] w fun e w' => e = .returned (.int .i64 (placeS a b)) ∧ w = w' := by
  have h8 := h.2.1
  have H := Lib.hid h
  clear h
  go_enter Try.func30, Try.ntmps30
  go_wp2
  go_loop [8] (fun i => ∃ k : Nat, k ≤ a.size ∧ i = .int .i64 k ∧ ∀ j : Nat, j < k → bat a j ≠ 48 + b) (fun i => a.size - (intOf i).toNat)
  case atStart => exact ⟨0, by omega, by rfl, by omega⟩
  case round =>
    obtain ⟨k, hk, rfl, hn⟩ := hrel
    have Hn := Lib.hid hn
    clear hn
    by_cases hlt : k < a.size
    · have hb := H.out.2.2.1 k hlt
      have hy := bat_hi a k
      by_cases c : bat a k = 48 + b
      · have cb : (bat a k - 48 == b) = true := by simp <;> omega
        have C := Lib.hid c
        clear c
        go_wp2
        go_ret
        exact ⟨ret_int (by unfold placeS; rw [placeAt_hit a _ a.size k hlt C.out (fun j hj e => H.out.inj hj hlt (by have := C.out; omega))]), rfl⟩
      · have cb : (bat a k - 48 == b) = false := by simp <;> omega
        have C := Lib.hid c
        clear c
        go_wp2
        go_round
        case rel =>
          refine ⟨k + 1, by omega, by go_num, fun j hj => ?_⟩
          rcases Nat.lt_or_eq_of_le (Nat.le_of_lt_succ hj) with h' | rfl
          · exact Hn.out j h'
          · exact C.out
        case measure => simp [intOf]; omega
    · go_wp2
      go_ret
      obtain rfl : k = a.size := by omega
      exact ⟨ret_int (by unfold placeS; rw [placeAt_none a _ a.size Hn.out]), rfl⟩

set_option maxHeartbeats 800000 in
theorem l5Place_any (a : ByteArray) (b : Int) (w : World) (h : isRow a) (h0 : 0 ≤ b) (h9 : b ≤ 1000) :
    Calls Try.prog 24 #[.string a, .int .i64 b] w fun e w' => e = .returned (.int .i64 (placeS a b)) ∧ w = w' := by
  have h8 := h.2.1
  have H := Lib.hid h
  clear h
  go_enter Try.func24, Try.ntmps24
  go_wp2
  go_loop [5] (fun i => ∃ k : Nat, k ≤ a.size ∧ i = .int .i64 (k + 1) ∧ ∀ j : Nat, j < k → bat a j ≠ 48 + b) (fun i => a.size + 1 - (intOf i).toNat)
  case atStart => exact ⟨0, by omega, by rfl, by omega⟩
  case round =>
    obtain ⟨k, hk, rfl, hn⟩ := hrel
    have Hn := Lib.hid hn
    clear hn
    by_cases hlt : k < a.size
    · have hb := H.out.2.2.1 k hlt
      have hy := bat_hi a k
      by_cases c : bat a k = 48 + b
      · have cb : (bat a k - 48 == b) = true := by simp <;> omega
        have C := Lib.hid c
        clear c
        go_wp2_with (go_at_call 41; refine (l1At_k a k _ _ (by omega) hlt (by omega) (by omega)).mono ?_; rintro e w' ⟨rfl, rfl⟩)
        go_ret
        exact ⟨ret_int (by unfold placeS; rw [placeAt_hit a _ a.size k hlt C.out (fun j hj e => H.out.inj hj hlt (by have := C.out; omega))]), rfl⟩
      · have cb : (bat a k - 48 == b) = false := by simp <;> omega
        have C := Lib.hid c
        clear c
        go_wp2_with (go_at_call 41; refine (l1At_k a k _ _ (by omega) hlt (by omega) (by omega)).mono ?_; rintro e w' ⟨rfl, rfl⟩)
        go_round
        case rel =>
          refine ⟨k + 1, by omega, by go_num, fun j hj => ?_⟩
          rcases Nat.lt_or_eq_of_le (Nat.le_of_lt_succ hj) with h' | rfl
          · exact Hn.out j h'
          · exact C.out
        case measure => simp [intOf]; omega
    · go_wp2
      go_ret
      obtain rfl : k = a.size := by omega
      exact ⟨ret_int (by unfold placeS; rw [placeAt_none a _ a.size Hn.out]), rfl⟩
end Go.Proofs.Ytglnehinmdmgmaa
