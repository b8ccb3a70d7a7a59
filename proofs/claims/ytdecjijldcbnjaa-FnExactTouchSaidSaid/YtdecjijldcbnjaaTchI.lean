/-
  Contracts: rows behind changes, lead heads with a call (both sides).
-/
import Derived.Test.YtdecjijldcbnjaaTch
import Derived.Test.YtdecjijldcbnjaaWords
namespace Go.Proofs.Ytdecjijldcbnjaa
open Go.RowKit
set_option linter.unusedVariables false
set_option linter.unusedSimpArgs false
set_option maxRecDepth 100000

/-- '[]T{x, ..}': a new block. -/
theorem Grow.lit {α : Type} {w : World} {b : Nat} {e : TypeId} {size : Nat} {enc : α → List Value} (ys : List α) {news : List Value} (hn : news = flat enc ys) (hb : b ≤ w.heap.size) (hl : ys.length ≤ maxLen) (henc : ∀ x, (enc x).length = size) :
    Grow (w.alloc (.cells news.toArray e)) b e size enc (.slice (some ⟨w.heap.size, 0, none⟩) ys.length ys.length) ys := by
  subst hn
  have h1 := flat_len henc ys
  exact ⟨h1, .inr ⟨w.heap.size, ys.length, (flat enc ys).toArray, rfl, hb, heap_alloc_new w _, Nat.le_refl _, hl, by simpa using h1, by rw [List.take_of_length_le (by simpa using Nat.le_of_eq h1)]⟩⟩
def chgOk (x : List ByteArray) : Prop := ∀ c ∈ x, c.size ≤ 1048576 ∧ chgTxt c
theorem chgOk_of {n : Int} {x : List ByteArray} (h : ∀ (i : Nat) (hi : i < x.length), changeP n x[i]) : chgOk x := fun c hc => by
  obtain ⟨i, hi, rfl⟩ := List.getElem_of_mem hc
  exact ⟨by have := (h i hi).size; omega, (h i hi).txt⟩

set_option maxHeartbeats 1600000 in
theorem rowsUnder_any (n : Nat) (r : ByteArray) (x : List ByteArray) (A : Option Addr) (c : Nat) (w : World) (h : RdL w w.heap.size A 1 encString x) (h3 : 3 ≤ n) (h8 : n ≤ 8) (hr : rowN n r) (hl : x.length ≤ 1048576) (hx : chgOk x) :
    Calls Try.prog 298 #[.string r, .slice A x.length c] w fun e w' => ∃ A2 c2, e = .returned (.slice A2 (walkL (chF n) r x (x.length + 1)).length c2) ∧ OwnL w' w.heap.size w'.heap.size A2 1 encString (walkL (chF n) r x (x.length + 1)) ∧ Below w.heap.size w w' := by
  have Hh := Lib.hid h
  have Hr := Lib.hid (after_rowN (f := chF n) (l := x) (fun r hr c _ => chF_row h3 h8 hr c) hr)
  have Hx := Lib.hid hx
  have g0 : Hid (Grow (w.alloc (.cells #[.string r] 9)) w.heap.size 9 1 encString (.slice (some ⟨w.heap.size, 0, none⟩) 1 1) (walkL (chF n) r x 1)) := Lib.hid (by rw [walkL_one]; exact Grow.lit [r] rfl (Nat.le_refl _) (by simp [maxLen]) encString_len)
  clear h hr hx
  go_enter Try.func298, Try.ntmps298
  go_wp2
  go_loopw [0, 5, 12] (fun v s j wr => ∃ k : Nat, k ≤ x.length ∧ j = .int .i64 k ∧ v = .string (after (chF n) r x k) ∧ Grow wr w.heap.size 9 1 encString s (walkL (chF n) r x (k + 1)) ∧ Below w.heap.size w wr) (fun _ _ j _ => x.length - (intOf j).toNat)
  case atStart => exact ⟨0, by omega, by rfl, by rw [after_zero], g0.out, (Below.refl _ _).alloc (Nat.le_refl _) _⟩
  case round =>
    obtain ⟨k, hk, rfl, rfl, hg, hbl⟩ := hrel
    have Hg := Lib.hid hg
    have Hb0 := Lib.hid hbl
    have hg0 := hbl.size
    have hlen : (walkL (chF n) r x (k + 1)).length ≤ 1048577 := by rw [walkL_len]; omega
    clear hg hbl g0
    by_cases hlt : k < x.length
    · obtain ⟨gr, offr, hAr, hgr, hcr⟩ := Hh.out.at hlt
      subst hAr
      have s0 : wr.cell? ⟨gr, offr + k, none⟩ = some (.string x[k]) := (Hb0.out.cell (p := ⟨gr, offr + k, none⟩) hgr).trans (by have := hcr 0 _ rfl; rw [Nat.mul_one] at this; exact this)
      have hsu := Lib.hid (after_succ (chF n) r x k hlt)
      have hws := Lib.hid (walkL_succ (chF n) r x (k + 1))
      have hck := Hx.out _ (List.getElem_mem hlt)
      have hrk := Hr.out k
      obtain ⟨c0, hc0⟩ : ∃ c0, Hid (x[k] = c0) := ⟨_, Lib.hid rfl⟩
      rw [hc0.out] at s0 hsu hck
      have Hck := Lib.hid hck
      obtain ⟨T, hT⟩ : ∃ T, Hid (after (chF n) r x k = T) := ⟨_, Lib.hid rfl⟩
      rw [hT.out] at hrk hsu ⊢
      have hap : Hid (∀ (W : World), Calls Try.prog 252 #[.string T, .string c0] W fun e w' => e = .returned (.string (chF n T c0)) ∧ Below W.heap.size W w') := Lib.hid (fun W => by have := apply_any T c0 W hrk.1 hck.1 hck.2; rw [hrk.2] at this; exact this)
      rw [hsu.out] at hws
      obtain ⟨U, hU⟩ : ∃ U, Hid (chF n T c0 = U) := ⟨_, Lib.hid rfl⟩
      rw [hU.out] at hap hws hsu
      have hone : (∀ u ∈ [Value.string U], u.oneCell' = true) := by simp [Value.oneCell']
      have Hone := Lib.hid hone
      clear hone hcr hck hrk
      go_wp2_with (first | (go_at_call 252; refine (hap.out _).mono ?_; rintro e w3 ⟨rfl, hb3⟩; have hg3 := hb3.size; have hgw : w.heap.size ≤ w3.heap.size := by omega) | (at_builtin; go_loud (refine wpList_push rfl (.tmp 19) (.tmp 21) 50 rfl w.heap.size 9 _ 1 16 encString rfl String_info rfl (by omega) u5 (walkL (chF n) r x (k + 1)) [U] 1 rfl rfl (by simp) (Hg.out.later hb3) rfl encString_len Hone.out (by first | omega | (simp; omega)) (by omega) (by first | omega | (simp; omega)) ?_; intro v' w2 hg2 hb2 _)))
      go_roundw
      case rel => exact ⟨k + 1, by omega, by go_num, by rw [hsu.out], by rw [hws.out]; exact hg2, (Hb0.out.trans (hb3.mono hg0)).trans hb2⟩
      case measure => simp [intOf]; omega
    · obtain rfl : k = x.length := by omega
      go_wp2
      go_ret
      obtain ⟨A2, c2, hv, ho⟩ := Hg.out.own encString_len
      exact ⟨A2, c2, by rw [hv]; rfl, ho, Hb0.out⟩
set_option maxHeartbeats 1600000 in
theorem l4Lead_any (n : Nat) (r : ByteArray) (x : List ByteArray) (A : Option Addr) (c : Nat) (w : World) (h : RdL w w.heap.size A 1 encString x) (h3 : 3 ≤ n) (h8 : n ≤ 8) (hr : rowN n r) (hl : x.length ≤ 1048576) (hx : ∀ c ∈ x, c.size ≤ 1048576) :
    Calls Try.prog 276 #[.slice A x.length c, .string r] w fun e w' => ∃ A2 c2, e = .returned (.tuple #[.slice A2 (walkL (chF n) r x x.length).length c2, .string (after (chF n) r x x.length)]) ∧ OwnL w' w.heap.size w'.heap.size A2 1 encString (walkL (chF n) r x x.length) ∧ Below w.heap.size w w' := by
  have Hh := Lib.hid h
  have Hr := Lib.hid (after_rowN (f := chF n) (l := x) (fun r hr c _ => chF_row h3 h8 hr c) hr)
  have Hx := Lib.hid hx
  clear h hr hx
  go_enter Try.func276, Try.ntmps276
  go_wp2
  go_loopw [6, 7, 13] (fun s v j wr => ∃ k : Nat, k ≤ x.length ∧ j = .int .i64 k ∧ v = .string (after (chF n) r x k) ∧ Grow wr w.heap.size 9 1 encString s (walkL (chF n) r x k) ∧ Below w.heap.size w wr) (fun _ _ j _ => x.length - (intOf j).toNat)
  case atStart => exact ⟨0, by omega, by rfl, by rw [after_zero], Grow.nil, Below.refl _ _⟩
  case round =>
    obtain ⟨k, hk, rfl, rfl, hg, hbl⟩ := hrel
    have Hg := Lib.hid hg
    have Hb0 := Lib.hid hbl
    have hg0 := hbl.size
    have hlen : (walkL (chF n) r x k).length ≤ 1048577 := by rw [walkL_len]; omega
    clear hg hbl
    by_cases hlt : k < x.length
    · obtain ⟨gr, offr, hAr, hgr, hcr⟩ := Hh.out.at hlt
      subst hAr
      have s0 : wr.cell? ⟨gr, offr + k, none⟩ = some (.string x[k]) := (Hb0.out.cell (p := ⟨gr, offr + k, none⟩) hgr).trans (by have := hcr 0 _ rfl; rw [Nat.mul_one] at this; exact this)
      have hsu := Lib.hid (after_succ (chF n) r x k hlt)
      have hws := Lib.hid (walkL_succ (chF n) r x k)
      have hck := Hx.out _ (List.getElem_mem hlt)
      have hrk := Hr.out k
      obtain ⟨c0, hc0⟩ : ∃ c0, Hid (x[k] = c0) := ⟨_, Lib.hid rfl⟩
      rw [hc0.out] at s0 hsu hck
      obtain ⟨T, hT⟩ : ∃ T, Hid (after (chF n) r x k = T) := ⟨_, Lib.hid rfl⟩
      rw [hT.out] at hrk hsu hws ⊢
      have hap : Hid (∀ (W : World), Calls Try.prog 245 #[.string T, .string c0] W fun e w' => e = .returned (.string (chF n T c0)) ∧ Below W.heap.size W w') := Lib.hid (fun W => by have := l2Apply_any T c0 W hrk.1 hck; rw [hrk.2] at this; exact this)
      obtain ⟨U, hU⟩ : ∃ U, Hid (chF n T c0 = U) := ⟨_, Lib.hid rfl⟩
      rw [hU.out] at hap hsu
      have hone : (∀ u ∈ [Value.string T], u.oneCell' = true) := by simp [Value.oneCell']
      have Hone := Lib.hid hone
      clear hone hcr hck hrk
      go_wp2_with (first | (go_at_call 245; refine (hap.out _).mono ?_; rintro e w3 ⟨rfl, hb3⟩; have hg3 := hb3.size) | (at_builtin; go_loud (refine wpList_push rfl (.tmp 17) (.tmp 19) 50 rfl w.heap.size 9 _ 1 16 encString rfl String_info rfl (by omega) u6 (walkL (chF n) r x k) [T] 1 rfl rfl (by simp) Hg.out rfl encString_len Hone.out (by first | omega | (simp; omega)) (by omega) (by first | omega | (simp; omega)) ?_; intro v' w2 hg2 hb2 _)))
      go_roundw
      case rel => exact ⟨k + 1, by omega, by go_num, by rw [hsu.out], by rw [hws.out]; exact hg2.later hb3, (Hb0.out.trans hb2).trans (hb3.mono (by have := hb2.size; omega))⟩
      case measure => simp [intOf]; omega
    · obtain rfl : k = x.length := by omega
      obtain ⟨T, hT⟩ : ∃ T, Hid (after (chF n) r x x.length = T) := ⟨_, Lib.hid rfl⟩
      rw [hT.out]
      go_wp2
      go_ret2
      obtain ⟨A2, c2, hv, ho⟩ := Hg.out.own encString_len
      exact ⟨A2, c2, by rw [hv, hT.out]; rfl, ho, Hb0.out⟩
end Go.Proofs.Ytdecjijldcbnjaa
