import Derived.Test.YtbfhfnejppfehaaGreatMRowsSaidL15
import Derived.Test.YtbfhfnejppfehaaGreatMRowsSaidL05
/-
  Touches in plain words: rows behind changes one after the other, the heads of a touch.
-/
namespace Go.Proofs.YtbfhfnejppfehaaGreat
open Go.RowKit
set_option linter.unusedVariables false
set_option linter.unusedSimpArgs false

section
variable {α : Type} (f : ByteArray → α → ByteArray)
/-- What stands behind k steps. -/
def after (r : ByteArray) (l : List α) (k : Nat) : ByteArray := (l.take k).foldl f r
theorem after_zero (r : ByteArray) (l : List α) : after f r l 0 = r := by simp [after]
theorem after_succ (r : ByteArray) (l : List α) (k : Nat) (h : k < l.length) : after f r l (k + 1) = f (after f r l k) l[k] := by
  unfold after; rw [List.take_succ_eq_append_getElem h, List.foldl_append]; rfl
theorem after_congr {r : ByteArray} {l l' : List α} {k : Nat} (h : l.take k = l'.take k) : after f r l k = after f r l' k := by unfold after; rw [h]
/-- The first n of them. -/
def walkL (r : ByteArray) (l : List α) (n : Nat) : List ByteArray := (List.range n).map (after f r l)
theorem walkL_len (r : ByteArray) (l : List α) (n : Nat) : (walkL f r l n).length = n := by simp [walkL]
theorem walkL_zero (r : ByteArray) (l : List α) : walkL f r l 0 = [] := rfl
theorem walkL_one (r : ByteArray) (l : List α) : walkL f r l 1 = [r] := by simp [walkL, after_zero]
theorem walkL_succ (r : ByteArray) (l : List α) (n : Nat) : walkL f r l (n + 1) = walkL f r l n ++ [after f r l n] := by simp [walkL, List.range_succ]
theorem walkL_at (r : ByteArray) (l : List α) (n k : Nat) (h : k < (walkL f r l n).length) : (walkL f r l n)[k] = after f r l k := by simp [walkL]
theorem walkL_take (r : ByteArray) (l : List α) (n k : Nat) (h : k ≤ n) : (walkL f r l n).take k = walkL f r l k := by
  unfold walkL; rw [← List.map_take, List.take_range, Nat.min_eq_left h]
end
/-- A row behind a change of stage n. -/
noncomputable def chF (n : Nat) (r c : ByteArray) : ByteArray := timesS r (chgS n c)
theorem row_times {a b : ByteArray} (ha : isRow a) (hb : isRow b) (h : a.size = b.size) : isRow (timesS a b) := by
  have h1 := hb.1
  have h2 := hb.2.1
  have key : ∀ i : Nat, i < b.size → ∃ k : Nat, k < a.size ∧ bat b i - 49 = (k : Int) ∧ bat (timesS a b) i = bat a k := fun i hi => by
    have := hb.2.2.1 i hi
    refine ⟨(bat b i - 49).toNat, by omega, by omega, ?_⟩
    rw [bat_times a b i hi]
    congr 1
    omega
  refine ⟨by rw [size_times]; exact h1, by rw [size_times]; exact h2, fun i hi => ?_, fun i j hij hj => ?_⟩
  · rw [size_times] at hi ⊢
    obtain ⟨k, hk, _, e⟩ := key i hi
    rw [e]
    have := ha.2.2.1 k hk
    omega
  · rw [size_times] at hj
    obtain ⟨k, hk, ek, e⟩ := key i (by omega)
    obtain ⟨m, hm, em, e2⟩ := key j hj
    rw [e, e2]
    intro hc
    have hkm := ha.inj hk hm hc
    subst hkm
    exact hb.2.2.2 i j hij hj (by omega)
theorem row_chg {n : Nat} (h3 : 3 ≤ n) (h8 : n ≤ 8) (c : ByteArray) : isRow (chgS n c) ∧ (chgS n c).size = n :=
  ⟨ptS_row (swL_bd c n) (swL_sep c n) h3 h8, ptS_size _ _⟩
theorem row_rounds {n : Nat} (h3 : 3 ≤ n) (h8 : n ≤ 8) : isRow (roundsS n) ∧ (roundsS n).size = n := by
  have hs : (roundsS (n : Int)).size = n := by rw [roundsS_size (by omega) (by omega)]; omega
  refine ⟨⟨by omega, by omega, fun i hi => ?_, fun i j hij hj => ?_⟩, hs⟩
  · rw [hs] at hi ⊢; rw [rounds_bat hi h8]; omega
  · rw [hs] at hj; rw [rounds_bat (by omega) h8, rounds_bat hj h8]; omega
def rowN (n : Nat) (r : ByteArray) : Prop := isRow r ∧ r.size = n
theorem chF_row {n : Nat} (h3 : 3 ≤ n) (h8 : n ≤ 8) {r : ByteArray} (hr : rowN n r) (c : ByteArray) : rowN n (chF n r c) := by
  obtain ⟨h1, h2⟩ := row_chg h3 h8 c
  exact ⟨row_times hr.1 h1 (by rw [hr.2, h2]), by unfold chF; rw [size_times, h2]⟩
theorem after_rowN {α : Type} {n : Nat} {f : ByteArray → α → ByteArray} {l : List α} (hf : ∀ r, rowN n r → ∀ x ∈ l, rowN n (f r x)) {r : ByteArray} (hr : rowN n r) : ∀ k, rowN n (after f r l k) := by
  intro k
  induction k with
  | zero => rw [after_zero]; exact hr
  | succ k ih =>
    by_cases h : k < l.length
    · rw [after_succ f r l k h]; exact hf _ ih _ (List.getElem_mem h)
    · have e : after f r l (k + 1) = after f r l k := by
        unfold after; rw [List.take_of_length_le (show l.length ≤ k + 1 by omega), List.take_of_length_le (show l.length ≤ k by omega)]
      rw [e]; exact ih
/-- The lead head of a lead with a call. -/
noncomputable def hdS (n : Nat) (x : List ByteArray) (b s call : ByteArray) : ByteArray := after (chF n) (roundsS n) (calledX x b s call) x.length
/-- The change that a call makes of the last one. -/
def lastC (x : List ByteArray) (b s call : ByteArray) : ByteArray := if call.toList = [98] then b else if call.toList = [115] then s else x.getD (x.length - 1) ByteArray.empty
theorem calledX_last {x : List ByteArray} {b s call : ByteArray} (h : 0 < x.length) : (calledX x b s call)[x.length - 1]'(by rw [calledX_len]; omega) = lastC x b s call := by
  have hg : ∀ (i : Nat) (hi : i < (calledX x b s call).length), (calledX x b s call)[i] = (calledX x b s call).getD i ByteArray.empty := fun i hi => by rw [List.getD_eq_getElem?_getD, List.getElem?_eq_getElem hi]; rfl
  rw [hg]
  unfold calledX lastC
  split
  · rw [List.getD_eq_getElem?_getD, List.getElem?_set_self (by omega)]; rfl
  · split
    · rw [List.getD_eq_getElem?_getD, List.getElem?_set_self (by omega)]; rfl
    · rfl
theorem calledX_take {x : List ByteArray} {b s call : ByteArray} : (calledX x b s call).take (x.length - 1) = x.take (x.length - 1) := by
  unfold calledX
  split
  · rw [List.take_set_of_le (Nat.le_refl _)]
  · split
    · rw [List.take_set_of_le (Nat.le_refl _)]
    · rfl
/-- The head, by the changes up to the last one and the last one. -/
theorem hdS_last {n : Nat} {x : List ByteArray} {b s call : ByteArray} (h : 0 < x.length) : hdS n x b s call = chF n (after (chF n) (roundsS n) x (x.length - 1)) (lastC x b s call) := by
  unfold hdS
  obtain ⟨k, hk⟩ : ∃ k, x.length = k + 1 := ⟨x.length - 1, by omega⟩
  have e := after_succ (chF n) (roundsS n) (calledX x b s call) (x.length - 1) (by rw [calledX_len]; omega)
  rw [show x.length - 1 + 1 = x.length by omega] at e
  rw [e, calledX_last h]
  congr 1
  exact after_congr _ calledX_take
theorem hdS_row {n : Nat} (h3 : 3 ≤ n) (h8 : n ≤ 8) (x : List ByteArray) (b s call : ByteArray) : rowN n (hdS n x b s call) :=
  after_rowN (fun r hr c _ => chF_row h3 h8 hr c) (row_rounds h3 h8) _
/-- The call that a byte stands for. -/
def callOf (v : Int) : ByteArray := mkS [v]
noncomputable def hdF (n : Nat) (x : List ByteArray) (b s : ByteArray) (r : ByteArray) (v : Int) : ByteArray := timesS r (hdS n x b s (callOf v))
/-- The bytes of a string. -/
def batL (t : ByteArray) : List Int := (List.range t.size).map fun i : Nat => bat t i
theorem batL_len (t : ByteArray) : (batL t).length = t.size := by simp [batL]
theorem batL_at (t : ByteArray) (k : Nat) (h : k < (batL t).length) : (batL t)[k] = bat t k := by simp [batL]
theorem hdF_row {n : Nat} (h3 : 3 ≤ n) (h8 : n ≤ 8) (x : List ByteArray) (b s : ByteArray) {r : ByteArray} (hr : rowN n r) (v : Int) : rowN n (hdF n x b s r v) := by
  obtain ⟨h1, h2⟩ := hdS_row h3 h8 x b s (callOf v)
  exact ⟨row_times hr.1 h1 (by rw [hr.2, h2]), by unfold hdF; rw [size_times, h2]⟩
/-- The head behind k leads of a touch. -/
noncomputable def headS (n : Nat) (x : List ByteArray) (b s t : ByteArray) (k : Nat) : ByteArray := after (hdF n x b s) (roundsS n) (batL t) k
noncomputable def headsL (n : Nat) (x : List ByteArray) (b s t : ByteArray) (k : Nat) : List ByteArray := walkL (hdF n x b s) (roundsS n) (batL t) k
theorem headS_succ (n : Nat) (x : List ByteArray) (b s t : ByteArray) (k : Nat) (h : k < t.size) : headS n x b s t (k + 1) = timesS (headS n x b s t k) (hdS n x b s (callOf (bat t k))) := by
  unfold headS
  rw [after_succ _ _ _ k (by rw [batL_len]; exact h), batL_at]; rfl
theorem headS_row {n : Nat} (h3 : 3 ≤ n) (h8 : n ≤ 8) (x : List ByteArray) (b s t : ByteArray) (k : Nat) : rowN n (headS n x b s t k) :=
  after_rowN (fun r hr v _ => hdF_row h3 h8 x b s hr v) (row_rounds h3 h8) _
/-- The touch comes round. -/
def roundP (n : Nat) (x : List ByteArray) (b s t : ByteArray) : Prop := headS n x b s t t.size = roundsS n
theorem callOf_ext {t : ByteArray} {k : Nat} (h : k < t.size) : t.extract k (k + 1) = callOf (bat t k) := by
  refine (str_ext (by unfold callOf; rw [size_mkS, size_ext]; simp; omega) fun i hi => ?_)
  rw [size_ext] at hi
  obtain rfl : i = 0 := by omega
  rw [bat_ext t k (k + 1) 0 (by omega)]
  unfold callOf
  rw [bat_mkS [bat t k] 0 (by simp) (by simpa using bat_lo _ _) (by simpa using bat_hi _ _)]
  rfl
end Go.Proofs.YtbfhfnejppfehaaGreat

/-
  Contracts: rows behind changes, lead heads with a call (both sides).
-/
namespace Go.Proofs.YtbfhfnejppfehaaGreat
open Go.RowKit
set_option linter.unusedVariables false
set_option linter.unusedSimpArgs false
set_option maxRecDepth 100000

/-- '[]T{x, ..}': a new block. -/
theorem Grow.lit {α : Type} {w : World} {b : Nat} {e : TypeId} {size : Nat} {enc : α → List Value} (ys : List α) {news : List Value} (hn : news = flat enc ys) (hb : b ≤ w.heap.size) (hl : ys.length ≤ maxLen) (henc : ∀ x, (enc x).length = size) :
    Grow (w.alloc (.cells news.toArray e)) b e size enc (.slice (some ⟨w.heap.size, 0, none⟩) ys.length ys.length) ys := by
  subst hn
  have h1 := flat_len henc ys
  exact ⟨h1, .inr ⟨w.heap.size, ys.length, (flat enc ys).toArray, rfl, hb, heap_alloc_new w _, Nat.le_refl _, hl, by simpa using h1, by rw [List.take_of_length_le (by simpa using Nat.le_of_eq h1)]⟩⟩
def chgOk (x : List ByteArray) : Prop := ∀ c ∈ x, c.size ≤ 1048576 ∧ chgTxt c
theorem chgOk_of {n : Int} {x : List ByteArray} (h : ∀ (i : Nat) (hi : i < x.length), changeP n x[i]) : chgOk x := fun c hc => by
  obtain ⟨i, hi, rfl⟩ := List.getElem_of_mem hc
  exact ⟨by have := (h i hi).size; omega, (h i hi).txt⟩

theorem Grow.capT {α : Type} {w : World} {base : Nat} {e : TypeId} {size : Nat} {enc : α → List Value} {l : List α} {A : Option Addr} {n c : Nat} (h : Grow w base e size enc (.slice A n c) l) : n ≤ c := by
  rcases h.2 with ⟨h1, h2⟩ | ⟨g, cap, cur, h1, h2, h3, h4, h5, _⟩
  · injection h1 with _ e1 e2; omega
  · injection h1 with _ e1 e2; omega
set_option maxHeartbeats 1600000 in
theorem rowsUnderC_any (n : Nat) (r : ByteArray) (x : List ByteArray) (A : Option Addr) (c : Nat) (w : World) (h : RdL w w.heap.size A 1 encString x) (h3 : 3 ≤ n) (h8 : n ≤ 8) (hr : rowN n r) (hl : x.length ≤ 1048576) (hx : chgOk x) :
    Calls Tryz.prog 199 #[.string r, .slice A x.length c] w fun e w' => ∃ A2 c2, e = .returned (.slice A2 (walkL (chF n) r x (x.length + 1)).length c2) ∧ (walkL (chF n) r x (x.length + 1)).length ≤ c2 ∧ OwnL w' w.heap.size w'.heap.size A2 1 encString (walkL (chF n) r x (x.length + 1)) ∧ Below w.heap.size w w' := by
  have Hh := Lib.hid h
  have Hr := Lib.hid (after_rowN (f := chF n) (l := x) (fun r hr c _ => chF_row h3 h8 hr c) hr)
  have Hx := Lib.hid hx
  have g0 : Hid (Grow (w.alloc (.cells #[.string r] 9)) w.heap.size 9 1 encString (.slice (some ⟨w.heap.size, 0, none⟩) 1 1) (walkL (chF n) r x 1)) := Lib.hid (by rw [walkL_one]; exact Grow.lit [r] rfl (Nat.le_refl _) (by simp [maxLen]) encString_len)
  clear h hr hx
  go_enter Tryz.func199, Tryz.ntmps199
  go_wp2
  go_loopw [0, 5, 12] (fun v s j wr => ∃ k : Nat, k ≤ x.length ∧ j = .int .i64 k ∧ v = .string (after (chF n) r x k) ∧ Grow wr w.heap.size 9 1 encString s (walkL (chF n) r x (k + 1)) ∧ Below w.heap.size w wr) (fun _ _ j _ => x.length - (intOf j).toNat)
  case atStart => exact ⟨0, by omega, by rfl, by rw [after_zero], g0.out, (Below.refl _ _).alloc (Nat.le_refl _) _⟩
  case round =>
    obtain ⟨k, hk, rfl, rfl, hg, hbl⟩ := hrel
    have Hg := Lib.hid hg
    have Hb0 := Lib.hid hbl
    have hg0 := hbl.size
    have hlen : (walkL (chF n) r x (k + 1)).length ≤ 1048577 := by rw [walkL_len]; omega
    clear hg hbl g0
    by_cases hlt : k < x.length
    · obtain ⟨gr, offr, hAr, hgr, hcr⟩ := Hh.out.at hlt
      subst hAr
      have s0 : wr.cell? ⟨gr, offr + k, none⟩ = some (.string x[k]) := (Hb0.out.cell (p := ⟨gr, offr + k, none⟩) hgr).trans (by have := hcr 0 _ rfl; rw [Nat.mul_one] at this; exact this)
      have hsu := Lib.hid (after_succ (chF n) r x k hlt)
      have hws := Lib.hid (walkL_succ (chF n) r x (k + 1))
      have hck := Hx.out _ (List.getElem_mem hlt)
      have hrk := Hr.out k
      obtain ⟨c0, hc0⟩ : ∃ c0, Hid (x[k] = c0) := ⟨_, Lib.hid rfl⟩
      rw [hc0.out] at s0 hsu hck
      have Hck := Lib.hid hck
      obtain ⟨T, hT⟩ : ∃ T, Hid (after (chF n) r x k = T) := ⟨_, Lib.hid rfl⟩
      rw [hT.out] at hrk hsu ⊢
      have hap : Hid (∀ (W : World), Calls Tryz.prog 217 #[.string T, .string c0] W fun e w' => e = .returned (.string (chF n T c0)) ∧ Below W.heap.size W w') := Lib.hid (fun W => by have := apply_any T c0 W hrk.1 hck.1 hck.2; rw [hrk.2] at this; exact this)
      rw [hsu.out] at hws
      obtain ⟨U, hU⟩ : ∃ U, Hid (chF n T c0 = U) := ⟨_, Lib.hid rfl⟩
      rw [hU.out] at hap hws hsu
      have hone : (∀ u ∈ [Value.string U], u.oneCell' = true) := by simp [Value.oneCell']
      have Hone := Lib.hid hone
      clear hone hcr hck hrk
      go_wp2_with (first | (go_at_call 217; refine (hap.out _).mono ?_; rintro e w3 ⟨rfl, hb3⟩; have hg3 := hb3.size; have hgw : w.heap.size ≤ w3.heap.size := by omega) | (at_builtin; go_loud (refine wpList_push rfl (.tmp 19) (.tmp 21) 25 rfl w.heap.size 9 _ 1 16 encString rfl String_info rfl (by omega) u5 (walkL (chF n) r x (k + 1)) [U] 1 rfl rfl (by simp) (Hg.out.later hb3) rfl encString_len Hone.out (by first | omega | (simp; omega)) (by omega) (by first | omega | (simp; omega)) ?_; intro v' w2 hg2 hb2 _)))
      go_roundw
      case rel => exact ⟨k + 1, by omega, by go_num, by rw [hsu.out], by rw [hws.out]; exact hg2, (Hb0.out.trans (hb3.mono hg0)).trans hb2⟩
      case measure => simp [intOf]; omega
    · obtain rfl : k = x.length := by omega
      go_wp2
      go_ret
      obtain ⟨A2, c2, hv, ho⟩ := Hg.out.own encString_len
      exact ⟨A2, c2, by rw [hv]; rfl, Grow.capT (by have := Hg.out; rw [hv] at this; exact this), ho, Hb0.out⟩
theorem rowsUnder_any (n : Nat) (r : ByteArray) (x : List ByteArray) (A : Option Addr) (c : Nat) (w : World) (h : RdL w w.heap.size A 1 encString x) (h3 : 3 ≤ n) (h8 : n ≤ 8) (hr : rowN n r) (hl : x.length ≤ 1048576) (hx : chgOk x) :
    Calls Tryz.prog 199 #[.string r, .slice A x.length c] w fun e w' => ∃ A2 c2, e = .returned (.slice A2 (walkL (chF n) r x (x.length + 1)).length c2) ∧ OwnL w' w.heap.size w'.heap.size A2 1 encString (walkL (chF n) r x (x.length + 1)) ∧ Below w.heap.size w w' :=
  (rowsUnderC_any n r x A c w h h3 h8 hr hl hx).mono fun e w' ⟨A2, c2, he, _, ho, hb⟩ => ⟨A2, c2, he, ho, hb⟩
set_option maxHeartbeats 1600000 in
theorem l4Lead_any (n : Nat) (r : ByteArray) (x : List ByteArray) (A : Option Addr) (c : Nat) (w : World) (h : RdL w w.heap.size A 1 encString x) (h3 : 3 ≤ n) (h8 : n ≤ 8) (hr : rowN n r) (hl : x.length ≤ 1048576) (hx : ∀ c ∈ x, c.size ≤ 1048576) :
    Calls Tryz.prog 119 #[.slice A x.length c, .string r] w fun e w' => ∃ A2 c2, e = .returned (.tuple #[.slice A2 (walkL (chF n) r x x.length).length c2, .string (after (chF n) r x x.length)]) ∧ OwnL w' w.heap.size w'.heap.size A2 1 encString (walkL (chF n) r x x.length) ∧ Below w.heap.size w w' := by
  have Hh := Lib.hid h
  have Hr := Lib.hid (after_rowN (f := chF n) (l := x) (fun r hr c _ => chF_row h3 h8 hr c) hr)
  have Hx := Lib.hid hx
  clear h hr hx
  go_enter Tryz.func119, Tryz.ntmps119
  go_wp2
  go_loopw [6, 7, 13] (fun s v j wr => ∃ k : Nat, k ≤ x.length ∧ j = .int .i64 k ∧ v = .string (after (chF n) r x k) ∧ Grow wr w.heap.size 9 1 encString s (walkL (chF n) r x k) ∧ Below w.heap.size w wr) (fun _ _ j _ => x.length - (intOf j).toNat)
  case atStart => exact ⟨0, by omega, by rfl, by rw [after_zero], Grow.nil, Below.refl _ _⟩
  case round =>
    obtain ⟨k, hk, rfl, rfl, hg, hbl⟩ := hrel
    have Hg := Lib.hid hg
    have Hb0 := Lib.hid hbl
    have hg0 := hbl.size
    have hlen : (walkL (chF n) r x k).length ≤ 1048577 := by rw [walkL_len]; omega
    clear hg hbl
    by_cases hlt : k < x.length
    · obtain ⟨gr, offr, hAr, hgr, hcr⟩ := Hh.out.at hlt
      subst hAr
      have s0 : wr.cell? ⟨gr, offr + k, none⟩ = some (.string x[k]) := (Hb0.out.cell (p := ⟨gr, offr + k, none⟩) hgr).trans (by have := hcr 0 _ rfl; rw [Nat.mul_one] at this; exact this)
      have hsu := Lib.hid (after_succ (chF n) r x k hlt)
      have hws := Lib.hid (walkL_succ (chF n) r x k)
      have hck := Hx.out _ (List.getElem_mem hlt)
      have hrk := Hr.out k
      obtain ⟨c0, hc0⟩ : ∃ c0, Hid (x[k] = c0) := ⟨_, Lib.hid rfl⟩
      rw [hc0.out] at s0 hsu hck
      obtain ⟨T, hT⟩ : ∃ T, Hid (after (chF n) r x k = T) := ⟨_, Lib.hid rfl⟩
      rw [hT.out] at hrk hsu hws ⊢
      have hap : Hid (∀ (W : World), Calls Tryz.prog 160 #[.string T, .string c0] W fun e w' => e = .returned (.string (chF n T c0)) ∧ Below W.heap.size W w') := Lib.hid (fun W => by have := l2Apply_any T c0 W hrk.1 hck; rw [hrk.2] at this; exact this)
      obtain ⟨U, hU⟩ : ∃ U, Hid (chF n T c0 = U) := ⟨_, Lib.hid rfl⟩
      rw [hU.out] at hap hsu
      have hone : (∀ u ∈ [Value.string T], u.oneCell' = true) := by simp [Value.oneCell']
      have Hone := Lib.hid hone
      clear hone hcr hck hrk
      go_wp2_with (first | (go_at_call 160; refine (hap.out _).mono ?_; rintro e w3 ⟨rfl, hb3⟩; have hg3 := hb3.size) | (at_builtin; go_loud (refine wpList_push rfl (.tmp 17) (.tmp 19) 25 rfl w.heap.size 9 _ 1 16 encString rfl String_info rfl (by omega) u6 (walkL (chF n) r x k) [T] 1 rfl rfl (by simp) Hg.out rfl encString_len Hone.out (by first | omega | (simp; omega)) (by omega) (by first | omega | (simp; omega)) ?_; intro v' w2 hg2 hb2 _)))
      go_roundw
      case rel => exact ⟨k + 1, by omega, by go_num, by rw [hsu.out], by rw [hws.out]; exact hg2.later hb3, (Hb0.out.trans hb2).trans (hb3.mono (by have := hb2.size; omega))⟩
      case measure => simp [intOf]; omega
    · obtain rfl : k = x.length := by omega
      obtain ⟨T, hT⟩ : ∃ T, Hid (after (chF n) r x x.length = T) := ⟨_, Lib.hid rfl⟩
      rw [hT.out]
      go_wp2
      go_ret2
      obtain ⟨A2, c2, hv, ho⟩ := Hg.out.own encString_len
      exact ⟨A2, c2, by rw [hv, hT.out]; rfl, ho, Hb0.out⟩
end Go.Proofs.YtbfhfnejppfehaaGreat
