import Derived.Test.YtbfhfnejppfehaaMSlipsL29
import Derived.Test.YtbfhfnejppfehaaMSlipsL08
import Derived.Test.YtbfhfnejppfehaaMSlipsL23
import Derived.Test.YtbfhfnejppfehaaMSlipsL06
/-
  SlipSpans of the program returns what the reference's returns, for all arguments: no condition.
-/
namespace Go.Proofs.Ytbfhfnejppfehaa
open Go.RowKit
set_option linter.unusedVariables false
set_option linter.unusedSimpArgs false
set_option maxRecDepth 100000

theorem spansL_len {a b : List ByteArray} (h : twoRows a b) : (spansL a b).length ≤ 800 ∧ tot (spansL a b) ≤ 1600 := by
  have := spansOf_len (dfP a b) a.length
  have := h.1.1
  unfold spansL; omega
end Go.Proofs.Ytbfhfnejppfehaa

/-
  Contracts: exchanges of bells that turn one row into the other (both sides).
-/
namespace Go.Proofs.Ytbfhfnejppfehaa
open Go.RowKit
set_option linter.unusedVariables false
set_option linter.unusedSimpArgs false
set_option maxRecDepth 100000

def pairOf (x y : Int) : List Int := if x < y then [x, y] else [y, x]
/-- Behind the first k places: the row and the exchanges. -/
def lsw (a : ByteArray) : Nat → ByteArray → ByteArray × List (List Int)
  | 0, b => (b, [])
  | k + 1, b => if bat a k = bat (lsw a k b).1 k then lsw a k b else
    (swapS (lsw a k b).1 (bat a k - 48) (bat (lsw a k b).1 k - 48), (lsw a k b).2 ++ [pairOf (bat a k - 48) (bat (lsw a k b).1 k - 48)])
theorem lsw_y {a b : ByteArray} {k : Nat} (h : bat a k = bat (lsw a k b).1 k) : lsw a (k + 1) b = lsw a k b := by
  conv => lhs; unfold lsw
  rw [if_pos h]
theorem lsw_n {a b : ByteArray} {k : Nat} (h : ¬ bat a k = bat (lsw a k b).1 k) : lsw a (k + 1) b = (swapS (lsw a k b).1 (bat a k - 48) (bat (lsw a k b).1 k - 48), (lsw a k b).2 ++ [pairOf (bat a k - 48) (bat (lsw a k b).1 k - 48)]) := by
  conv => lhs; unfold lsw
  rw [if_neg h]
theorem lsw_row {a b : ByteArray} (ha : isRow a) (hb : isRow b) (h : a.size = b.size) : ∀ k, k ≤ a.size → isRow (lsw a k b).1 ∧ (lsw a k b).1.size = a.size
  | 0, _ => ⟨hb, h.symm⟩
  | k + 1, hk => by
    obtain ⟨h1, h2⟩ := lsw_row ha hb h k (by omega)
    have h3 := ha.2.2.1 k (by omega)
    have h4 := h1.2.2.1 k (by omega)
    by_cases e : bat a k = bat (lsw a k b).1 k
    · rw [lsw_y e]; exact ⟨h1, h2⟩
    · rw [lsw_n e]
      exact ⟨h1.swap (by unfold bellP; omega) (by unfold bellP; omega), by rw [size_swap]; exact h2⟩
theorem lsw_len (a b : ByteArray) : ∀ k, (lsw a k b).2.length ≤ k ∧ tot (lsw a k b).2 ≤ 2 * k
  | 0 => by simp [lsw, tot]
  | k + 1 => by
    obtain ⟨h1, h2⟩ := lsw_len a b k
    by_cases e : bat a k = bat (lsw a k b).1 k
    · rw [lsw_y e]; omega
    · rw [lsw_n e]
      simp only [List.length_append, List.length_singleton, tot_append]
      have : tot [pairOf (bat a k - 48) (bat (lsw a k b).1 k - 48)] = 2 := by unfold pairOf; split <;> simp [tot]
      omega
def leastL (a b : ByteArray) : List (List Int) := (lsw a a.size b).2

theorem l1Least_any (x y : Int) (w : World) : Calls Try.prog 102 #[.int .i64 x, .int .i64 y] w fun e w' => e = .returned (.int .i64 (if x < y then x else y)) ∧ w = w' := by
  by_cases h : x < y
  all_goals
    rw [show (if x < y then x else y) = (if x < y then x else y) from rfl]
    go_enter Try.func102, Try.ntmps102
    go_wp2
    go_ret
    exact ⟨rfl, rfl⟩
theorem l1Most_any (x y : Int) (w : World) (hne : x ≠ y) : Calls Try.prog 103 #[.int .i64 x, .int .i64 y] w fun e w' => e = .returned (.int .i64 (if x < y then y else x)) ∧ w = w' := by
  by_cases h : x < y
  · have h2 : decide (y < x) = false := by simp; omega
    clear hne
    go_enter Try.func103, Try.ntmps103
    go_wp2
    go_ret
    exact ⟨rfl, rfl⟩
  · have h2 : decide (y < x) = true := by simp; omega
    clear hne
    go_enter Try.func103, Try.ntmps103
    go_wp2
    go_ret
    exact ⟨rfl, rfl⟩

set_option maxHeartbeats 3200000 in
theorem l25Least_any (a b : ByteArray) (w : World) (h : two a b) :
    Calls Try.prog 58 #[.string a, .string b] w fun e w' => ∃ A c, e = .returned (.slice A (leastL a b).length c) ∧ OwnS w' w.heap.size w'.heap.size A (leastL a b) ∧ Below w.heap.size w w' := by
  have H := Lib.hid h
  have h8 := h.1.2.1
  have hlsw := lsw_row h.1 h.2.1 h.2.2
  have Hlsw := Lib.hid hlsw
  clear h hlsw
  go_enter Try.func58, Try.ntmps58
  go_wp2
  go_loopw [1, 5, 6] (fun s v i wr => ∃ (k : Nat) (c : ByteArray) (D : List Sl), k ≤ a.size ∧ i = .int .i64 k ∧ s = .string c ∧ Hid (c = (lsw a k b).1) ∧ Hid (D.map Sl.x = (lsw a k b).2) ∧ GrowN wr w.heap.size 87 1 Sl.enc Sl.A Sl.x 1 encInt v D ∧ Below w.heap.size w wr) (fun _ _ i _ => a.size - (intOf i).toNat)
  case atStart => exact ⟨0, b, [], by omega, by rfl, rfl, Lib.hid rfl, Lib.hid rfl, GrowN.nil, Below.refl _ _⟩
  case round =>
    obtain ⟨k, c, D, hk, rfl, rfl, hc, hD, hg, hbl⟩ := hrel
    have Hg := Lib.hid hg
    have Hbl := Lib.hid hbl
    have hgs := hbl.size
    have hDl : D.length ≤ k := by have := (lsw_len a b k).1; rw [← hD.out] at this; simpa using this
    have hrw : Hid (isRow c ∧ c.size = a.size) := Lib.hid (by rw [hc.out]; exact Hlsw.out k hk)
    clear hg hbl
    by_cases hlt : k < a.size
    · obtain ⟨x1, x2⟩ := H.out.1.2.2.1 k hlt
      obtain ⟨y1, y2⟩ := hrw.out.1.2.2.1 k (by have := hrw.out.2; omega)
      have hcs := hrw.out.2
      have hlt2 : k < c.size := by omega
      have x3 := bat_hi a k
      have y3 := bat_hi c k
      have h8c : c.size ≤ 8 := by omega
      have Hcs := Lib.hid hcs
      clear hcs
      by_cases e : bat a k = bat c k
      · have eb : (bat a k != bat c k) = false := by simpa using e
        have E := Lib.hid e
        clear e
        go_wp2
        go_quiet (fail)
        go_wp2
        go_roundw
        case rel =>
          have e : bat a k = bat (lsw a k b).1 k := by rw [← hc.out]; exact E.out
          exact ⟨k + 1, c, D, by omega, by go_num, rfl, by rw [lsw_y e]; exact hc, by rw [lsw_y e]; exact hD, Hg.out.drewN _, below_drewN Hbl.out _⟩
        case measure => simp [intOf]; omega
      · have eb : (bat a k != bat c k) = true := by simpa using e
        have E := Lib.hid e
        clear e
        go_wp2
        go_quiet (fail)
        have Hg3 : Hid (GrowN (wr.drewN nq) w.heap.size 87 1 Sl.enc Sl.A Sl.x 1 encInt u5 D) := Lib.hid (Hg.out.drewN _)
        have Hb3 : Hid (Below w.heap.size w (wr.drewN nq)) := Lib.hid (below_drewN Hbl.out _)
        have t3 : w.heap.size ≤ (wr.drewN nq).heap.size := hgs
        generalize wr.drewN nq = w3 at *
        go_wp2
        go_quiet (fail)
        have Hg4 : Hid (GrowN (w3.drewN nq) w.heap.size 87 1 Sl.enc Sl.A Sl.x 1 encInt u5 D) := Lib.hid (Hg3.out.drewN _)
        have Hb4 : Hid (Below w.heap.size w (w3.drewN nq)) := Lib.hid (below_drewN Hb3.out _)
        have t4 : w.heap.size ≤ (w3.drewN nq).heap.size := t3
        generalize w3.drewN nq = w4 at *
        have e' : ¬ bat a k = bat (lsw a k b).1 k := by rw [← hc.out]; exact E.out
        have hnx := lsw_n e'
        rw [← hc.out] at hnx
        have Hnx := Lib.hid hnx
        clear e' hnx
        by_cases hxy : bat a k < bat c k
        · have hone : (∀ u ∈ [Value.slice (some ⟨0, 0, none⟩) 2 2], u.oneCell' = true) := by simp [Value.oneCell']
          go_wp2_with (first | (go_at_call 101; refine (l25Swap_any _ _ _ _ hrw.out.1 (by omega) (by omega)).mono ?_; rintro e w5 ⟨rfl, hb5⟩; have t5 := hb5.size) | (go_at_call 102; refine (l1Least_any _ _ _).mono ?_; rintro e w' ⟨rfl, rfl⟩) | (go_at_call 103; refine (l1Most_any _ _ _ (by first | omega | (have := E.out; omega))).mono ?_; rintro e w' ⟨rfl, rfl⟩) | (at_builtin; refine wpList_pushN rfl _ _ 35 rfl w.heap.size 87 _ 1 24 Sl.enc Sl.A Sl.x 1 encInt rfl IntS_info rfl (by omega) _ D ⟨[bat a k - 48, bat c k - 48], some ⟨_, 0, none⟩, 2⟩ 1 rfl rfl rfl (Hg4.out.later hb5) rfl Sl_enc_len (by simp [Sl.enc, Value.oneCell']) rfl rfl encInt_len (by omega) (by omega) (by omega) ?_; intro v' w2 hg2 hb2))
          go_roundw
          case rel =>
            refine ⟨k + 1, _, _, by omega, by go_num, rfl, by rw [Hnx.out]; exact Lib.hid rfl, ?_, hg2, (Hb4.out.trans (hb5.mono t4)).trans hb2⟩
            rw [Hnx.out, List.map_append, hD.out]
            have : [bat a k - 48, bat c k - 48] = pairOf (bat a k - 48) (bat c k - 48) := (by unfold pairOf; rw [if_pos (by omega)])
            rw [← this]; rfl
          case measure => simp [intOf]; omega
        · have hone : (∀ u ∈ [Value.slice (some ⟨0, 0, none⟩) 2 2], u.oneCell' = true) := by simp [Value.oneCell']
          go_wp2_with (first | (go_at_call 101; refine (l25Swap_any _ _ _ _ hrw.out.1 (by omega) (by omega)).mono ?_; rintro e w5 ⟨rfl, hb5⟩; have t5 := hb5.size) | (go_at_call 102; refine (l1Least_any _ _ _).mono ?_; rintro e w' ⟨rfl, rfl⟩) | (go_at_call 103; refine (l1Most_any _ _ _ (by first | omega | (have := E.out; omega))).mono ?_; rintro e w' ⟨rfl, rfl⟩) | (at_builtin; refine wpList_pushN rfl _ _ 35 rfl w.heap.size 87 _ 1 24 Sl.enc Sl.A Sl.x 1 encInt rfl IntS_info rfl (by omega) _ D ⟨[bat c k - 48, bat a k - 48], some ⟨_, 0, none⟩, 2⟩ 1 rfl rfl rfl (Hg4.out.later hb5) rfl Sl_enc_len (by simp [Sl.enc, Value.oneCell']) rfl rfl encInt_len (by omega) (by omega) (by omega) ?_; intro v' w2 hg2 hb2))
          go_roundw
          case rel =>
            refine ⟨k + 1, _, _, by omega, by go_num, rfl, by rw [Hnx.out]; exact Lib.hid rfl, ?_, hg2, (Hb4.out.trans (hb5.mono t4)).trans hb2⟩
            rw [Hnx.out, List.map_append, hD.out]
            have : [bat c k - 48, bat a k - 48] = pairOf (bat a k - 48) (bat c k - 48) := (by unfold pairOf; rw [if_neg (by omega)])
            rw [← this]; rfl
          case measure => simp [intOf]; omega
    · obtain rfl : k = a.size := by omega
      go_wp2
      go_ret
      obtain ⟨A, c2, hv, ho⟩ := Hg.out.own Sl_enc_len
      have hD2 := hD.out
      refine ⟨A, c2, by rw [hv]; unfold leastL; rw [← hD2]; simp, ⟨D, hD2, ho⟩, Hbl.out⟩

set_option maxHeartbeats 3200000 in
theorem leastSwaps_any (a b : ByteArray) (w : World) (h : two a b) :
    Calls Try.prog 53 #[.string a, .string b] w fun e w' => ∃ A c, e = .returned (.slice A (leastL a b).length c) ∧ OwnS w' w.heap.size w'.heap.size A (leastL a b) ∧ Below w.heap.size w w' := by
  have H := Lib.hid h
  have h8 := h.1.2.1
  have hlsw := lsw_row h.1 h.2.1 h.2.2
  have Hlsw := Lib.hid hlsw
  clear h hlsw
  go_enter Try.func53, Try.ntmps53
  go_wp2
  go_loopw [1, 5, 12] (fun s v i wr => ∃ (k : Nat) (c : ByteArray) (D : List Sl), k ≤ a.size ∧ i = .int .i64 k ∧ s = .string c ∧ Hid (c = (lsw a k b).1) ∧ Hid (D.map Sl.x = (lsw a k b).2) ∧ GrowN wr w.heap.size 87 1 Sl.enc Sl.A Sl.x 1 encInt v D ∧ Below w.heap.size w wr) (fun _ _ i _ => a.size - (intOf i).toNat)
  case atStart => exact ⟨0, b, [], by omega, by rfl, rfl, Lib.hid rfl, Lib.hid rfl, GrowN.empty (Nat.le_refl _), (Below.refl _ _).alloc (Nat.le_refl _) _⟩
  case round =>
    obtain ⟨k, c, D, hk, rfl, rfl, hc, hD, hg, hbl⟩ := hrel
    have Hg := Lib.hid hg
    have Hbl := Lib.hid hbl
    have hgs := hbl.size
    have hDl : D.length ≤ k := by have := (lsw_len a b k).1; rw [← hD.out] at this; simpa using this
    have hrw : Hid (isRow c ∧ c.size = a.size) := Lib.hid (by rw [hc.out]; exact Hlsw.out k hk)
    clear hg hbl
    by_cases hlt : k < a.size
    · obtain ⟨x1, x2⟩ := H.out.1.2.2.1 k hlt
      obtain ⟨y1, y2⟩ := hrw.out.1.2.2.1 k (by have := hrw.out.2; omega)
      have hcs := hrw.out.2
      have hlt2 : k < c.size := by omega
      have x3 := bat_hi a k
      have y3 := bat_hi c k
      have h8c : c.size ≤ 8 := by omega
      have h8d : bat a k < 49 + c.size := by omega
      have Hcs := Lib.hid hcs
      clear hcs
      by_cases e : bat a k = bat c k
      · have eb : (bat a k != bat c k) = false := by simpa using e
        have E := Lib.hid e
        clear e
        go_wp2
        go_quiet (fail)
        go_wp2
        go_roundw
        case rel =>
          have e : bat a k = bat (lsw a k b).1 k := by rw [← hc.out]; exact E.out
          exact ⟨k + 1, c, D, by omega, by go_num, rfl, by rw [lsw_y e]; exact hc, by rw [lsw_y e]; exact hD, Hg.out.drewN _, below_drewN Hbl.out _⟩
        case measure => simp [intOf]; omega
      · have eb : (bat a k != bat c k) = true := by simpa using e
        have E := Lib.hid e
        clear e
        go_wp2
        go_quiet (fail)
        have Hg3 : Hid (GrowN (wr.drewN nq) w.heap.size 87 1 Sl.enc Sl.A Sl.x 1 encInt u5 D) := Lib.hid (Hg.out.drewN _)
        have Hb3 : Hid (Below w.heap.size w (wr.drewN nq)) := Lib.hid (below_drewN Hbl.out _)
        have t3 : w.heap.size ≤ (wr.drewN nq).heap.size := hgs
        generalize wr.drewN nq = w3 at *
        go_wp2
        go_quiet (fail)
        have Hg4 : Hid (GrowN (w3.drewN nq) w.heap.size 87 1 Sl.enc Sl.A Sl.x 1 encInt u5 D) := Lib.hid (Hg3.out.drewN _)
        have Hb4 : Hid (Below w.heap.size w (w3.drewN nq)) := Lib.hid (below_drewN Hb3.out _)
        have t4 : w.heap.size ≤ (w3.drewN nq).heap.size := t3
        generalize w3.drewN nq = w4 at *
        have e' : ¬ bat a k = bat (lsw a k b).1 k := by rw [← hc.out]; exact E.out
        have hnx := lsw_n e'
        rw [← hc.out] at hnx
        have Hnx := Lib.hid hnx
        clear e' hnx
        rcases (show bat a k < bat c k ∨ bat c k < bat a k by have := E.out; omega) with hxy | hxy
        · have Hxy : Hid (bat a k - 48 ≠ bat c k - 48) := Lib.hid (by omega)
          have hone : (∀ u ∈ [Value.slice (some ⟨0, 0, none⟩) 2 2], u.oneCell' = true) := by simp [Value.oneCell']
          go_wp2_with (first | (at_builtin; refine wpList_pushN rfl _ _ 35 rfl w.heap.size 87 _ 1 24 Sl.enc Sl.A Sl.x 1 encInt rfl IntS_info rfl (by omega) _ D ⟨[bat a k - 48, bat c k - 48], some ⟨_, 0, none⟩, 2⟩ 1 rfl rfl rfl Hg4.out rfl Sl_enc_len (by simp [Sl.enc, Value.oneCell']) rfl rfl encInt_len (by omega) (by omega) (by omega) ?_; intro v' w2 hg2 hb2; have t2 := hb2.size) | (go_at_call 99; refine (exchanged_any _ _ _ _ hrw.out.1 (by unfold bellP; omega) (by unfold bellP; omega) (by first | omega | (have := Hxy.out; omega))).mono ?_; rintro e w5 ⟨rfl, hb5⟩))
          go_roundw
          case rel =>
            refine ⟨k + 1, _, _, by omega, by go_num, rfl, by rw [Hnx.out]; exact Lib.hid rfl, ?_, hg2.later hb5, (Hb4.out.trans hb2).trans (hb5.mono (by omega))⟩
            rw [Hnx.out, List.map_append, hD.out]
            have : [bat a k - 48, bat c k - 48] = pairOf (bat a k - 48) (bat c k - 48) := (by unfold pairOf; rw [if_pos (by omega)])
            rw [← this]; rfl
          case measure => simp [intOf]; omega
        · have Hxy : Hid (bat a k - 48 ≠ bat c k - 48) := Lib.hid (by omega)
          have hone : (∀ u ∈ [Value.slice (some ⟨0, 0, none⟩) 2 2], u.oneCell' = true) := by simp [Value.oneCell']
          go_wp2_with (first | (at_builtin; refine wpList_pushN rfl _ _ 35 rfl w.heap.size 87 _ 1 24 Sl.enc Sl.A Sl.x 1 encInt rfl IntS_info rfl (by omega) _ D ⟨[bat c k - 48, bat a k - 48], some ⟨_, 0, none⟩, 2⟩ 1 rfl rfl rfl Hg4.out rfl Sl_enc_len (by simp [Sl.enc, Value.oneCell']) rfl rfl encInt_len (by omega) (by omega) (by omega) ?_; intro v' w2 hg2 hb2; have t2 := hb2.size) | (go_at_call 99; refine (exchanged_any _ _ _ _ hrw.out.1 (by unfold bellP; omega) (by unfold bellP; omega) (by first | omega | (have := Hxy.out; omega))).mono ?_; rintro e w5 ⟨rfl, hb5⟩))
          go_roundw
          case rel =>
            refine ⟨k + 1, _, _, by omega, by go_num, rfl, by rw [Hnx.out]; exact Lib.hid rfl, ?_, hg2.later hb5, (Hb4.out.trans hb2).trans (hb5.mono (by omega))⟩
            rw [Hnx.out, List.map_append, hD.out]
            have : [bat c k - 48, bat a k - 48] = pairOf (bat a k - 48) (bat c k - 48) := (by unfold pairOf; rw [if_neg (by omega)])
            rw [← this]; rfl
          case measure => simp [intOf]; omega
    · obtain rfl : k = a.size := by omega
      go_wp2
      go_ret
      obtain ⟨A, c2, hv, ho⟩ := Hg.out.own Sl_enc_len
      have hD2 := hD.out
      refine ⟨A, c2, by rw [hv]; unfold leastL; rw [← hD2]; simp, ⟨D, hD2, ho⟩, Hbl.out⟩
end Go.Proofs.Ytbfhfnejppfehaa
