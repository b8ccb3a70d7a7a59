import Derived.Test.YtbfhfnejppfehaaDoorMRingTouchL10
import Derived.Test.YtbfhfnejppfehaaDoorMRingTouchL02
import Derived.Test.YtbfhfnejppfehaaDoorMRingTouchL00
import Derived.Test.YtbfhfnejppfehaaDoorMRingTouchL03
import Derived.Test.YtbfhfnejppfehaaDoorMRingTouchL06
/-
  Contracts: the place of a bell in a row (both sides).
-/
namespace Go.Proofs.YtbfhfnejppfehaaDoor
open Go.RowKit
set_option linter.unusedVariables false
set_option linter.unusedSimpArgs false
set_option maxRecDepth 100000


set_option maxHeartbeats 800000 in
theorem placeOf_any (a : ByteArray) (b : Int) (w : World) (h : isRow a) (h0 : 0 ≤ b) (h9 : b ≤ 1000) :
    Calls Tryd.prog 109 #[.string a, .int .i64 b] w fun e w' => e = .returned (.int .i64 (placeS a b)) ∧ w = w' := by
  have h8 := h.2.1
  have H := Lib.hid h
  clear h
  go_enter Tryd.func109, Tryd.ntmps109
  go_wp2
  go_loop [8] (fun i => ∃ k : Nat, k ≤ a.size ∧ i = .int .i64 k ∧ ∀ j : Nat, j < k → bat a j ≠ 48 + b) (fun i => a.size - (intOf i).toNat)
  case atStart => exact ⟨0, by omega, by rfl, by omega⟩
  case round =>
    obtain ⟨k, hk, rfl, hn⟩ := hrel
    have Hn := Lib.hid hn
    clear hn
    by_cases hlt : k < a.size
    · have hb := H.out.2.2.1 k hlt
      have hy := bat_hi a k
      by_cases c : bat a k = 48 + b
      · have cb : (bat a k - 48 == b) = true := by simp <;> omega
        have C := Lib.hid c
        clear c
        go_wp2
        go_ret
        exact ⟨ret_int (by unfold placeS; rw [placeAt_hit a _ a.size k hlt C.out (fun j hj e => H.out.inj hj hlt (by have := C.out; omega))]), rfl⟩
      · have cb : (bat a k - 48 == b) = false := by simp <;> omega
        have C := Lib.hid c
        clear c
        go_wp2
        go_round
        case rel =>
          refine ⟨k + 1, by omega, by go_num, fun j hj => ?_⟩
          rcases Nat.lt_or_eq_of_le (Nat.le_of_lt_succ hj) with h' | rfl
          · exact Hn.out j h'
          · exact C.out
        case measure => simp [intOf]; omega
    · go_wp2
      go_ret
      obtain rfl : k = a.size := by omega
      exact ⟨ret_int (by unfold placeS; rw [placeAt_none a _ a.size Hn.out]), rfl⟩

set_option maxHeartbeats 800000 in
theorem l5Place_any (a : ByteArray) (b : Int) (w : World) (h : isRow a) (h0 : 0 ≤ b) (h9 : b ≤ 1000) :
    Calls Tryd.prog 101 #[.string a, .int .i64 b] w fun e w' => e = .returned (.int .i64 (placeS a b)) ∧ w = w' := by
  have h8 := h.2.1
  have H := Lib.hid h
  clear h
  go_enter Tryd.func101, Tryd.ntmps101
  go_wp2
  go_loop [5] (fun i => ∃ k : Nat, k ≤ a.size ∧ i = .int .i64 (k + 1) ∧ ∀ j : Nat, j < k → bat a j ≠ 48 + b) (fun i => a.size + 1 - (intOf i).toNat)
  case atStart => exact ⟨0, by omega, by rfl, by omega⟩
  case round =>
    obtain ⟨k, hk, rfl, hn⟩ := hrel
    have Hn := Lib.hid hn
    clear hn
    by_cases hlt : k < a.size
    · have hb := H.out.2.2.1 k hlt
      have hy := bat_hi a k
      by_cases c : bat a k = 48 + b
      · have cb : (bat a k - 48 == b) = true := by simp <;> omega
        have C := Lib.hid c
        clear c
        go_wp2_with (go_at_call 126; refine (l1At_k a k _ _ (by omega) hlt (by omega) (by omega)).mono ?_; rintro e w' ⟨rfl, rfl⟩)
        go_ret
        exact ⟨ret_int (by unfold placeS; rw [placeAt_hit a _ a.size k hlt C.out (fun j hj e => H.out.inj hj hlt (by have := C.out; omega))]), rfl⟩
      · have cb : (bat a k - 48 == b) = false := by simp <;> omega
        have C := Lib.hid c
        clear c
        go_wp2_with (go_at_call 126; refine (l1At_k a k _ _ (by omega) hlt (by omega) (by omega)).mono ?_; rintro e w' ⟨rfl, rfl⟩)
        go_round
        case rel =>
          refine ⟨k + 1, by omega, by go_num, fun j hj => ?_⟩
          rcases Nat.lt_or_eq_of_le (Nat.le_of_lt_succ hj) with h' | rfl
          · exact Hn.out j h'
          · exact C.out
        case measure => simp [intOf]; omega
    · go_wp2
      go_ret
      obtain rfl : k = a.size := by omega
      exact ⟨ret_int (by unfold placeS; rw [placeAt_none a _ a.size Hn.out]), rfl⟩
end Go.Proofs.YtbfhfnejppfehaaDoor

/-
  Contracts: all numbers of a list within bounds; a number among the first of a list (both sides).
-/
namespace Go.Proofs.YtbfhfnejppfehaaDoor
open Go.RowKit
set_option linter.unusedVariables false
set_option linter.unusedSimpArgs false
set_option maxRecDepth 100000

def allIn (l : List Int) (lo hi : Int) : Prop := ∀ s ∈ l, inB s lo hi
def hasUpTo (l : List Int) (m : Nat) (n : Int) : Prop := ∃ (j : Nat) (h : j < l.length), j < m ∧ l[j] = n

theorem l1All_any (l : List Int) (A : Option Addr) (c : Nat) (lo hi : Int) (w : World) (h : RdL w w.heap.size A 1 encInt l) (hl : l.length ≤ 4611686018427387904) :
    Calls Tryd.prog 97 #[.slice A l.length c, .int .i64 lo, .int .i64 hi] w fun e w' => e = .returned (.bool (B (allIn l lo hi))) ∧ w = w' := by
  go_enter Tryd.func97, Tryd.ntmps97
  go_wp2
  go_loop [11] (fun i => ∃ k : Nat, k ≤ l.length ∧ i = .int .i64 k ∧ ∀ (j : Nat) (hj : j < l.length), j < k → inB l[j] lo hi) (fun i => l.length - (intOf i).toNat)
  case atStart => exact ⟨0, by omega, by rfl, fun j _ h => by omega⟩
  case round =>
    obtain ⟨k, hk, rfl, hp⟩ := hrel
    have Hp := Lib.hid hp
    clear hp
    by_cases hlt : k < l.length
    · obtain ⟨g, off, hA, hg, hcell⟩ := h.at (k := k) (by omega)
      subst hA
      have r0 : w.cell? ⟨g, off + k, none⟩ = some (.int .i64 (l[k]'(by omega))) := by have := hcell 0 _ rfl; rw [Nat.mul_one] at this; exact this
      obtain ⟨x, hx⟩ : ∃ x, Hid (l[k]'(by omega) = x) := ⟨_, Lib.hid rfl⟩
      rw [hx.out] at r0
      clear hcell
      by_cases hin : inB x lo hi
      · have e2 := B_t hin
        have Hin := Lib.hid hin
        clear hin
        go_wp2_with (go_at_call 48; refine (l1In_any _ _ _ _).mono ?_; rintro e w' ⟨rfl, rfl⟩)
        go_round
        case rel =>
          refine ⟨k + 1, by omega, by go_num, fun j hj h1 => ?_⟩
          rcases Nat.lt_or_eq_of_le (Nat.le_of_lt_succ h1) with h' | rfl
          · exact Hp.out j hj h'
          · rw [hx.out]; exact Hin.out
        case measure => simp [intOf]; omega
      · have e2 := B_f hin
        have Hin := Lib.hid hin
        clear hin
        go_wp2_with (go_at_call 48; refine (l1In_any _ _ _ _).mono ?_; rintro e w' ⟨rfl, rfl⟩)
        go_ret
        exact ⟨ret_f (fun ha => Hin.out (by rw [← hx.out]; exact ha _ (List.getElem_mem _))), rfl⟩
    · obtain rfl : k = l.length := by omega
      go_wp2
      go_ret
      refine ⟨ret_t (fun s hs => ?_), rfl⟩
      obtain ⟨j, hj, rfl⟩ := List.getElem_of_mem hs
      exact Hp.out j hj hj

theorem l1Has_any (l : List Int) (m : Nat) (hm : m ≤ l.length) (A : Option Addr) (c : Nat) (n : Int) (w : World) (h : RdL w w.heap.size A 1 encInt l) (hl : l.length ≤ 4611686018427387904) :
    Calls Tryd.prog 87 #[.slice A m c, .int .i64 n] w fun e w' => e = .returned (.bool (B (hasUpTo l m n))) ∧ w = w' := by
  go_enter Tryd.func87, Tryd.ntmps87
  go_wp2
  go_loop [9] (fun i => ∃ k : Nat, k ≤ m ∧ i = .int .i64 k ∧ ∀ (j : Nat) (hj : j < l.length), j < k → l[j] ≠ n) (fun i => m - (intOf i).toNat)
  case atStart => exact ⟨0, by omega, by rfl, fun j _ h => by omega⟩
  case round =>
    obtain ⟨k, hk, rfl, hp⟩ := hrel
    have Hp := Lib.hid hp
    clear hp
    by_cases hlt : k < m
    · obtain ⟨g, off, hA, hg, hcell⟩ := h.at (k := k) (by omega)
      subst hA
      have r0 : w.cell? ⟨g, off + k, none⟩ = some (.int .i64 (l[k]'(by omega))) := by have := hcell 0 _ rfl; rw [Nat.mul_one] at this; exact this
      obtain ⟨x, hx⟩ : ∃ x, Hid (l[k]'(by omega) = x) := ⟨_, Lib.hid rfl⟩
      rw [hx.out] at r0
      clear hcell
      by_cases hin : x = n
      · rw [hin] at r0 hx
        clear hin
        go_wp2
        go_ret
        exact ⟨ret_t ⟨k, by omega, hlt, hx.out⟩, rfl⟩
      · have hin2 : ¬ n = x := fun h => hin h.symm
        go_wp2
        go_round
        case rel =>
          refine ⟨k + 1, by omega, by go_num, fun j hj h1 => ?_⟩
          rcases Nat.lt_or_eq_of_le (Nat.le_of_lt_succ h1) with h' | rfl
          · exact Hp.out j hj h'
          · rw [hx.out]; exact hin
        case measure => simp [intOf]; omega
    · obtain rfl : k = m := by omega
      go_wp2
      go_ret
      exact ⟨ret_f (fun ⟨j, h1, h2, h3⟩ => Hp.out j h1 h2 h3), rfl⟩
theorem indexInt_any (l : List Int) (m : Nat) (hm : m ≤ l.length) (A : Option Addr) (c : Nat) (n : Int) (w : World) (h : RdL w w.heap.size A 1 encInt l) (hl : l.length ≤ 4611686018427387904) :
    Calls Tryd.prog 114 #[.slice A m c, .int .i64 n] w fun e w' => (∃ r : Int, e = .returned (.int .i64 r) ∧ (0 ≤ r ↔ hasUpTo l m n)) ∧ w = w' := by
  go_enter Tryd.func114, Tryd.ntmps114
  go_wp2
  go_loop [8] (fun i => ∃ k : Nat, k ≤ m ∧ i = .int .i64 k ∧ ∀ (j : Nat) (hj : j < l.length), j < k → l[j] ≠ n) (fun i => m - (intOf i).toNat)
  case atStart => exact ⟨0, by omega, by rfl, fun j _ h => by omega⟩
  case round =>
    obtain ⟨k, hk, rfl, hp⟩ := hrel
    have Hp := Lib.hid hp
    clear hp
    by_cases hlt : k < m
    · obtain ⟨g, off, hA, hg, hcell⟩ := h.at (k := k) (by omega)
      subst hA
      have r0 : w.cell? ⟨g, off + k, none⟩ = some (.int .i64 (l[k]'(by omega))) := by have := hcell 0 _ rfl; rw [Nat.mul_one] at this; exact this
      obtain ⟨x, hx⟩ : ∃ x, Hid (l[k]'(by omega) = x) := ⟨_, Lib.hid rfl⟩
      rw [hx.out] at r0
      clear hcell
      by_cases hin : x = n
      · rw [hin] at r0 hx
        clear hin
        go_wp2
        go_ret
        exact ⟨⟨_, rfl, ⟨fun _ => ⟨k, by omega, hlt, hx.out⟩, fun _ => by omega⟩⟩, rfl⟩
      · have hin2 : ¬ n = x := fun h => hin h.symm
        go_wp2
        go_round
        case rel =>
          refine ⟨k + 1, by omega, by go_num, fun j hj h1 => ?_⟩
          rcases Nat.lt_or_eq_of_le (Nat.le_of_lt_succ h1) with h' | rfl
          · exact Hp.out j hj h'
          · rw [hx.out]; exact hin
        case measure => simp [intOf]; omega
    · obtain rfl : k = m := by omega
      go_wp2
      go_ret
      exact ⟨⟨_, rfl, ⟨fun h => absurd h (by omega), fun ⟨j, h1, h2, h3⟩ => absurd h3 (Hp.out j h1 h2)⟩⟩, rfl⟩
theorem containsInt_any (l : List Int) (m : Nat) (hm : m ≤ l.length) (A : Option Addr) (c : Nat) (n : Int) (w : World) (h : RdL w w.heap.size A 1 encInt l) (hl : l.length ≤ 4611686018427387904) :
    Calls Tryd.prog 86 #[.slice A m c, .int .i64 n] w fun e w' => e = .returned (.bool (B (hasUpTo l m n))) ∧ w = w' := by
  have H := Lib.hid h
  clear h
  go_enter Tryd.func86, Tryd.ntmps86
  go_wp2_with (go_at_call 114; refine (indexInt_any l m hm A c n _ H.out hl).mono ?_; rintro e w' ⟨⟨r, rfl, hr⟩, rfl⟩; have Hr := Lib.hid hr; clear hr)
  all_goals go_ret
  by_cases hq : hasUpTo l m n
  · exact ⟨by have := Hr.out.2 hq; rw [B_t hq]; first | (simp; done) | (simp; omega), rfl⟩
  · exact ⟨by have : ¬ 0 ≤ r := fun h => hq (Hr.out.1 h); rw [B_f hq]; first | (simp; done) | (simp; omega), rfl⟩
end Go.Proofs.YtbfhfnejppfehaaDoor

/-
  The row that a change makes of rounds, where it brings a place, a row behind a change: contracts of both sides.
-/
namespace Go.Proofs.YtbfhfnejppfehaaDoor
open Go.RowKit
set_option linter.unusedVariables false
set_option linter.unusedSimpArgs false
set_option maxRecDepth 100000

def natI (l : List Nat) : List Int := l.map fun i : Nat => (i : Int)
theorem natI_len (l : List Nat) : (natI l).length = l.length := List.length_map _
theorem rounds_bat {n i : Nat} (hi : i < n) (hn : n ≤ 8) : bat (roundsS n) i = 49 + i := by
  unfold roundsS
  have h8 : eightS.size = 8 := rfl
  rw [bat_ext _ _ _ _ (by rw [h8]; simp; omega), Nat.zero_add]
  rcases (show i = 0 ∨ i = 1 ∨ i = 2 ∨ i = 3 ∨ i = 4 ∨ i = 5 ∨ i = 6 ∨ i = 7 by omega) with rfl | rfl | rfl | rfl | rfl | rfl | rfl | rfl <;> rfl
/-- What is laid of the pairs so far. -/
def SwSt (c : ByteArray) (n p : Nat) (L : List Nat) : Prop := L ++ swFrom c n p = swL c n ∧ ∀ r ∈ L, r + 1 < p ∧ 1 ≤ r
theorem SwSt.start (c : ByteArray) (n : Nat) : SwSt c n 1 [] := ⟨rfl, fun r h => by simp at h⟩
theorem SwSt.stay {c : ByteArray} {n p : Nat} {L : List Nat} (h : SwSt c n p L) (hp : p < n) (hs : stays c p) : SwSt c n (p + 1) L := ⟨by rw [← swFrom_stay hp hs]; exact h.1, fun r hr => by have := h.2 r hr; omega⟩
theorem SwSt.swap {c : ByteArray} {n p : Nat} {L : List Nat} (h : SwSt c n p L) (h1 : 1 ≤ p) (hp : p < n) (hs : ¬ stays c p) : SwSt c n (p + 2) (L ++ [p]) := ⟨by rw [List.append_assoc]; have := h.1; rw [swFrom_swap hp hs] at this; exact this, fun r hr => by
  rcases List.mem_append.1 hr with h2 | h2
  · have := h.2 r h2; omega
  · have := List.mem_singleton.1 h2; omega⟩
theorem SwSt.done {c : ByteArray} {n p : Nat} {L : List Nat} (h : SwSt c n p L) (hp : n ≤ p) : L = swL c n := by have := h.1; rw [swFrom_end hp, List.append_nil] at this; exact this
theorem l2Stays_any (c : ByteArray) (p : Nat) (w : World) (hc : c.size ≤ 1048576) (hp : p ≤ 1000) :
    Calls Tryd.prog 158 #[.string c, .int .i64 (p : Int)] w fun e w' => e = .returned (.bool (B (stays c p))) ∧ w = w' := by
  go_enter Tryd.func158, Tryd.ntmps158
  go_wp2
  go_loop [5] (fun i => ∃ k : Nat, k ≤ c.size ∧ i = .int .i64 k ∧ ∀ j : Nat, j < k → bat c j - 48 ≠ (p : Int)) (fun i => c.size - (intOf i).toNat)
  case atStart => exact ⟨0, by omega, by rfl, fun j h => by omega⟩
  case round =>
    obtain ⟨k, hk, rfl, hq⟩ := hrel
    have Hq := Lib.hid hq
    clear hq
    by_cases hlt : k < c.size
    · have b1 := bat_lo c k
      have b2 := bat_hi c k
      by_cases e : bat c k - 48 = (p : Int)
      · have e2 : (bat c k - 48 == (p : Int)) = true := beq_iff_eq.2 e
        have E := Lib.hid e
        clear e
        go_wp2
        go_ret
        exact ⟨ret_t ⟨k, hlt, E.out⟩, rfl⟩
      · have e2 : (bat c k - 48 == (p : Int)) = false := beq_eq_false_iff_ne.2 e
        have E := Lib.hid e
        clear e
        go_wp2
        go_round
        case rel =>
          refine ⟨k + 1, by omega, by go_num, fun j hj => ?_⟩
          rcases Nat.lt_or_eq_of_le (Nat.le_of_lt_succ hj) with h' | rfl
          · exact Hq.out j h'
          · exact E.out
        case measure => simp [intOf]; omega
    · obtain rfl : k = c.size := by omega
      go_wp2
      go_ret
      exact ⟨ret_f (fun ⟨i, hi, e⟩ => Hq.out i hi e), rfl⟩
theorem pt_cells {L : List Nat} {n p : Nat} {w : World} {g : Nat} (hL : ∀ r ∈ L, r + 1 < p ∧ 1 ≤ r) (h1 : 1 ≤ p) (hp : p < n) (hc : Cells w g n (fun i => .int .u8 ((48 + pt L (i + 1) : Nat) : Int))) :
    Cells ((w.setCell ⟨g, p - 1, none⟩ (.int .u8 (49 + (p : Int)))).setCell ⟨g, p, none⟩ (.int .u8 (48 + (p : Int)))) g n (fun i => .int .u8 ((48 + pt (L ++ [p]) (i + 1) : Nat) : Int)) := by
  refine ((hc.set (i := p - 1) (by omega) _).set (i := p) hp _).congr fun i hi => ?_
  rw [pt_snoc (fun r hr => (hL r hr).1) (i + 1) (by omega)]
  by_cases e1 : i = p
  · subst e1; rw [upd_same, if_neg (by omega), if_pos rfl]; congr 1
  · rw [upd_other _ _ _ _ e1]
    by_cases e2 : i = p - 1
    · subst e2; rw [upd_same, if_pos (by omega)]; congr 1; omega
    · rw [upd_other _ _ _ _ e2, if_neg (by omega), if_neg (by omega)]
set_option maxHeartbeats 1600000 in
theorem l2Row_any (n : Nat) (c : ByteArray) (w : World) (h3 : 3 ≤ n) (h8 : n ≤ 8) (hc : c.size ≤ 1048576) :
    Calls Tryd.prog 145 #[.int .i64 (n : Int), .string c] w fun e w' => e = .returned (.string (chgS n c)) ∧ Below w.heap.size w w' := by
  have hrs : Hid ((roundsS n).size = n) := Lib.hid (by rw [roundsS_size (by omega) (by omega)]; omega)
  have hrb : Hid (∀ i : Nat, i < n → bat (roundsS n) i = 49 + i) := Lib.hid (fun i hi => rounds_bat hi h8)
  go_enter Tryd.func145, Tryd.ntmps145
  go_wp2_with (first | (go_at_call 73; refine (l1Rounds_any (n : Int) _ (by omega) (by omega)).mono ?_; rintro e w' ⟨rfl, rfl⟩) | (refine wpList_bytes rfl _ 9 40 5 rfl rfl rfl rfl (roundsS n) rfl ?_; intro cc w2 hc2 hb2))
  have hsz := hrs.out
  have HC : Hid (Cells w2 w.heap.size n (fun i => .int .u8 ((48 + pt [] (i + 1) : Nat) : Int))) := Lib.hid (by rw [hsz] at hc2; exact hc2.congr fun i hi => by rw [hrb.out i hi, pt_nil]; congr 1; omega)
  have HB := Lib.hid hb2
  rw [hsz]
  clear hc2 hb2 hsz
  go_loopw [6] (fun i wr => ∃ (p : Nat) (L : List Nat), 1 ≤ p ∧ p ≤ n + 1 ∧ i = .int .i64 p ∧ Hid (SwSt c n p L) ∧ Hid (Cells wr w.heap.size n (fun i => .int .u8 ((48 + pt L (i + 1) : Nat) : Int))) ∧ Hid (Below w.heap.size w wr)) (fun i _ => n + 1 - (intOf i).toNat)
  case atStart => exact ⟨1, [], by omega, by omega, by rfl, Lib.hid (SwSt.start c n), HC, HB⟩
  case round =>
    obtain ⟨p, L, hp1, hpn, rfl, hst, hcl, hbl⟩ := hrel
    by_cases hlt : p < n
    · by_cases hs : stays c p
      · have e1 := B_t hs
        have HS := Lib.hid hs
        clear hs
        go_wp2_with (go_at_call 158; refine (l2Stays_any c p _ hc (by omega)).mono ?_; rintro e w' ⟨rfl, rfl⟩)
        go_roundw
        case rel => exact ⟨p + 1, L, by omega, by omega, by go_num, Lib.hid (hst.out.stay hlt HS.out), hcl, hbl⟩
        case measure => simp [intOf]; omega
      · have e1 := B_f hs
        have HS := Lib.hid hs
        clear hs
        have c0 := hcl.out.cell (i := p - 1) (by omega)
        have f0 := hcl.out.free (i := p - 1) (by omega)
        have c1 := hcl.out.cell (i := p) hlt
        have f1 := hcl.out.free (i := p) hlt
        have epn : ((p : Int) - 1).toNat = p - 1 := by omega
        go_wp2_with (go_at_call 158; refine (l2Stays_any c p _ hc (by omega)).mono ?_; rintro e w' ⟨rfl, rfl⟩)
        go_roundw
        case rel => exact ⟨p + 2, L ++ [p], by omega, by omega, by go_num, Lib.hid (hst.out.swap hp1 hlt HS.out), Lib.hid (pt_cells hst.out.2 hp1 hlt hcl.out), Lib.hid ((hbl.out.setCell (p := ⟨w.heap.size, p - 1, none⟩) (Nat.le_refl _) _).setCell (p := ⟨w.heap.size, p, none⟩) (Nat.le_refl _) _)⟩
        case measure => simp [intOf]; omega
    · have hL := hst.out.done (by omega)
      have HL := Lib.hid hL
      clear hL
      have hcv := hcl.out
      have hs := hcv.str (P := Tryd.prog) (ptL L n) (ptL_len L n) (fun i hi => by simp [ptL]) 40 5 9 cc rfl rfl rfl
      clear hcv
      go_wp2
      go_ret
      exact ⟨ret_str (by unfold chgS ptS; rw [HL.out]), hbl.out⟩
theorem l2Apply_any (a c : ByteArray) (w : World) (ha : isRow a) (hc : c.size ≤ 1048576) :
    Calls Tryd.prog 123 #[.string a, .string c] w fun e w' => e = .returned (.string (timesS a (chgS a.size c))) ∧ Below w.heap.size w w' := by
  have h3 := ha.1
  have h8 := ha.2.1
  have hsz : Hid ((chgS a.size c).size = a.size) := Lib.hid (ptS_size _ _)
  have hbd : Hid (∀ i : Nat, i < (chgS a.size c).size → 49 ≤ bat (chgS a.size c) i ∧ bat (chgS a.size c) i < 49 + a.size) := Lib.hid (by
    have hr := ptS_row (swL_bd c a.size) (swL_sep c a.size) h3 h8
    intro i hi
    have := hr.2.2.1 i hi
    rw [ptS_size] at this; exact this)
  have hle : (chgS a.size c).size ≤ 1000000 := by have := hsz.out; omega
  clear ha
  go_enter Tryd.func123, Tryd.ntmps123
  go_wp2_with (first | (go_at_call 145; refine (l2Row_any a.size c _ h3 h8 hc).mono ?_; rintro e w1 ⟨rfl, hb1⟩) | (go_at_call 144; refine (l1Times_any a (chgS a.size c) _ hle (by omega) hbd.out).mono ?_; rintro e w2 ⟨rfl, rfl⟩))
  go_ret
  exact ⟨rfl, hb1⟩
theorem l24Moved_any (n : Nat) (c : ByteArray) (p : Nat) (w : World) (h3 : 3 ≤ n) (h8 : n ≤ 8) (hc : c.size ≤ 1048576) (hp1 : 1 ≤ p) (hpn : p ≤ n) :
    Calls Tryd.prog 125 #[.int .i64 (n : Int), .string c, .int .i64 (p : Int)] w fun e w' => e = .returned (.int .i64 (mvP n c p : Nat)) ∧ Below w.heap.size w w' := by
  have hpl : Hid (placeS (chgS n c) p = (mvP n c p : Nat)) := Lib.hid (ptS_place (swL_bd c n) (swL_sep c n) h3 h8 hp1 hpn)
  have hrow : Hid (isRow (chgS n c)) := Lib.hid (ptS_row (swL_bd c n) (swL_sep c n) h3 h8)
  go_enter Tryd.func125, Tryd.ntmps125
  go_wp2_with (first | (go_at_call 145; refine (l2Row_any n c _ h3 h8 hc).mono ?_; rintro e w1 ⟨rfl, hb1⟩) | (go_at_call 101; refine (l5Place_any (chgS n c) (p : Int) _ hrow.out (by omega) (by omega)).mono ?_; rintro e w2 ⟨rfl, rfl⟩))
  go_ret
  exact ⟨ret_int hpl.out, hb1⟩
/-- A change as text: '-' or places. -/
def chgTxt (c : ByteArray) : Prop := c = dash ∨ digsP c
theorem changeP.txt {n : Int} {c : ByteArray} (h : changeP n c) : chgTxt c := by
  rcases h.2 with h2 | h2
  · exact .inl h2.1
  · exact .inr ((change_iff h.1).1 h2.2).1
theorem stays_dash (p : Nat) : ¬ stays dash p := fun ⟨i, hi, e⟩ => by
  have : i = 0 := by rw [dash_size] at hi; omega
  subst this
  have e2 : bat dash 0 = 45 := rfl
  rw [show ((0 : Nat) : Int) = 0 from rfl, e2] at e
  omega
theorem stays_dg {c : ByteArray} {p : Nat} : hasUpTo (dgL c) (dgL c).length p ↔ stays c p := by
  constructor
  · rintro ⟨j, h1, _, h3⟩
    rw [dgL_at] at h3
    exact ⟨j, by rw [dgL_len] at h1; exact h1, h3⟩
  · rintro ⟨i, hi, e⟩
    exact ⟨i, by rw [dgL_len]; exact hi, by rw [dgL_len]; exact hi, by rw [dgL_at]; exact e⟩
theorem placesOf_any (c : ByteArray) (w : World) (hc : c.size ≤ 1048576) (ht : chgTxt c) :
    Calls Tryd.prog 159 #[.string c] w fun e w' => ∃ (A : Option Addr) (c2 : Nat) (L : List Int), e = .returned (.slice A L.length c2) ∧ L.length ≤ 1048576 ∧ OwnL w' w.heap.size w'.heap.size A 1 encInt L ∧ (∀ p : Nat, hasUpTo L L.length p ↔ stays c p) ∧ Below w.heap.size w w' := by
  by_cases hd : c = dash
  · subst hd
    have e1 : (dash.toList == [45]) = true := by decide +kernel
    have hst : Hid (∀ p : Nat, hasUpTo [] ([] : List Int).length p ↔ stays dash p) := Lib.hid (fun p => ⟨fun ⟨j, h, _⟩ => by simp at h, fun h => absurd h (stays_dash p)⟩)
    go_enter Tryd.func159, Tryd.ntmps159
    go_wp2
    go_ret
    exact ⟨_, _, [], rfl, by simp, .inl rfl, hst.out, (Below.refl _ _).alloc (Nat.le_refl _) _⟩
  · have e1 := toList_dash hd
    have hg := ht.resolve_left hd
    have Hp := Lib.hid (places_t c w hc hg)
    have hlen : Hid ((dgL c).length ≤ 1048576) := Lib.hid (by rw [dgL_len]; exact hc)
    have hst : Hid (∀ p : Nat, hasUpTo (dgL c) (dgL c).length p ↔ stays c p) := Lib.hid (fun p => stays_dg)
    generalize dgL c = D at *
    clear hd ht hg
    go_enter Tryd.func159, Tryd.ntmps159
    go_wp2_with (go_at_call 128; refine Hp.out.mono ?_; rintro e w1 ⟨A, c2, rfl, ho, hb1⟩)
    go_ret
    exact ⟨A, c2, D, rfl, hlen.out, ho, hst.out, hb1⟩
set_option maxHeartbeats 1600000 in
theorem swapsOf_any (n : Nat) (c : ByteArray) (w : World) (h3 : 3 ≤ n) (h8 : n ≤ 8) (hc : c.size ≤ 1048576) (ht : chgTxt c) :
    Calls Tryd.prog 148 #[.int .i64 (n : Int), .string c] w fun e w' => ∃ (A : Option Addr) (c2 : Nat), e = .returned (.slice A (natI (swL c n)).length c2) ∧ OwnL w' w.heap.size w'.heap.size A 1 encInt (natI (swL c n)) ∧ Below w.heap.size w w' := by
  have HP := Lib.hid (placesOf_any c w hc ht)
  clear ht
  go_enter Tryd.func148, Tryd.ntmps148
  go_wp2_with (go_at_call 159; refine HP.out.mono ?_; rintro e w1 ⟨A1, c1, D, rfl, hD, ho1, hst1, hb1⟩; have HO1 := Lib.hid (ho1.rd encInt_len); have Hst := Lib.hid hst1; have HB1 := Lib.hid hb1; have hs1 := hb1.size; clear ho1 hst1 hb1)
  go_loopw [6, 7] (fun v i wr => ∃ (p : Nat) (L : List Nat), 1 ≤ p ∧ p ≤ n + 1 ∧ i = .int .i64 p ∧ Hid (SwSt c n p L) ∧ Hid (Grow wr w1.heap.size 3 1 encInt v (natI L)) ∧ Hid (Below w1.heap.size w1 wr)) (fun _ i _ => n + 1 - (intOf i).toNat)
  case atStart => exact ⟨1, [], by omega, by omega, by rfl, Lib.hid (SwSt.start c n), Lib.hid (Grow.empty (Nat.le_refl _)), Lib.hid ((Below.refl _ _).alloc (Nat.le_refl _) _)⟩
  case round =>
    obtain ⟨p, L, hp1, hpn, rfl, hst, hg, hbl⟩ := hrel
    have hgs := hbl.out.size
    by_cases hlt : p < n
    · have hcon : Hid (∀ b, B (stays c p) = b → Calls Tryd.prog 86 #[.slice A1 D.length c1, .int .i64 (p : Int)] wr fun e w' => e = .returned (.bool b) ∧ wr = w') := Lib.hid (fun b hb => by
        have := containsInt_any D D.length (Nat.le_refl _) A1 c1 (p : Int) wr ((HO1.out.below hbl.out (Nat.le_refl _)).more hgs) (by omega)
        rw [B_iff (Hst.out p), hb] at this; exact this)
      by_cases hs : stays c p
      · have HS := Lib.hid hs
        have Hc2 := Lib.hid (hcon.out _ (B_t hs))
        clear hs hcon
        go_wp2_with (go_at_call 86; refine Hc2.out.mono ?_; rintro e w2 ⟨rfl, rfl⟩)
        go_roundw
        case rel => exact ⟨p + 1, L, by omega, by omega, by go_num, Lib.hid (hst.out.stay hlt HS.out), hg, hbl⟩
        case measure => simp [intOf]; omega
      · have HS := Lib.hid hs
        have Hc2 := Lib.hid (hcon.out _ (B_f hs))
        clear hs hcon
        have hLl : Hid (L.length ≤ n) := Lib.hid (by
          have h1 := hst.out.1
          have h2 : L.length ≤ (swL c n).length := by rw [← h1]; simp
          have h3 : (swL c n).Nodup := (swL_sep c n).imp (fun h => by omega)
          have h4 := nodupN_le (swL c n) n h3 (fun x hx => (swL_bd c n x hx).2)
          omega)
        have hlen : (natI L).length ≤ 8 := by have := hLl.out; rw [natI_len]; omega
        have hone : ∀ u ∈ [Value.int .i64 (p : Int)], u.oneCell' = true := by simp [Value.oneCell']
        have Hone := Lib.hid hone
        clear hone
        go_wp2_with (first | (go_at_call 86; refine Hc2.out.mono ?_; rintro e w2 ⟨rfl, rfl⟩) | (at_builtin; refine wpList_push rfl (.tmp 20) (.tmp 22) 42 rfl w1.heap.size 3 _ 1 8 encInt rfl Int_info rfl (by omega) u6 (natI L) [(p : Int)] 1 rfl rfl (by first | rfl | simp) hg.out rfl encInt_len Hone.out (by simp only [List.length_singleton]; omega) (by omega) (by first | omega | (simp; omega)) ?_; intro v' w9 hg9 hb9 _))
        go_roundw
        case rel => exact ⟨p + 2, L ++ [p], by omega, by omega, by go_num, Lib.hid (hst.out.swap hp1 hlt HS.out), Lib.hid (by simpa [natI] using hg9), Lib.hid (hbl.out.trans hb9)⟩
        case measure => simp [intOf]; omega
    · have HL := Lib.hid (hst.out.done (by omega))
      obtain ⟨A9, c9, hv, ho⟩ := hg.out.own encInt_len
      go_wp2
      go_ret
      exact ⟨A9, c9, by rw [hv, HL.out]; rfl, by rw [← HL.out]; exact ho.mono hs1 (Nat.le_refl _), HB1.out.trans (hbl.out.mono hs1)⟩
end Go.Proofs.YtbfhfnejppfehaaDoor
