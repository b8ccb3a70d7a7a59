import Derived.Test.YtbfhfnejppfehaaGreatMRowsSaidL08
import Derived.Test.YtbfhfnejppfehaaGreatMRowsSaidL12
import Derived.Test.YtbfhfnejppfehaaGreatMRowsSaidL03
import Derived.Test.YtbfhfnejppfehaaGreatMRowsSaidL01
import Derived.Test.YtbfhfnejppfehaaGreatMRowsSaidL05
/-
  A list of which a first part has been turned; an own list of ringers written at one place; the band behind one change, in plain words.
-/
namespace Go.Proofs.YtbfhfnejppfehaaGreat
open Go.RowKit
set_option linter.unusedVariables false
set_option linter.unusedSimpArgs false

section
variable {α : Type} (f : α → α)
/-- The first k elements are turned. -/
def mix : List α → Nat → List α
  | [], _ => []
  | x :: l, 0 => x :: l
  | x :: l, k + 1 => f x :: mix l k
theorem mix_zero (l : List α) : mix f l 0 = l := by cases l <;> rfl
theorem mix_len : ∀ (l : List α) (k : Nat), (mix f l k).length = l.length
  | [], _ => rfl
  | x :: l, 0 => rfl
  | x :: l, k + 1 => by simp [mix, mix_len l k]
theorem mix_all : ∀ (l : List α) (k : Nat), l.length ≤ k → mix f l k = l.map f
  | [], _, _ => rfl
  | x :: l, 0, h => by simp at h
  | x :: l, k + 1, h => by simp only [mix, List.map_cons]; rw [mix_all l k (by simpa using h)]
theorem mix_at : ∀ (l : List α) (k i : Nat) (hi : i < (mix f l k).length) (h2 : i < l.length), k ≤ i → (mix f l k)[i] = l[i]
  | x :: l, 0, i, _, _, _ => rfl
  | x :: l, k + 1, 0, _, _, h => by omega
  | x :: l, k + 1, i + 1, hi, h2, h => by
    simp only [mix, List.getElem_cons_succ]
    exact mix_at l k i _ (by simpa using h2) (by omega)
theorem mix_set : ∀ (l : List α) (k : Nat) (h : k < l.length), (mix f l k).set k (f l[k]) = mix f l (k + 1)
  | x :: l, 0, h => by simp [mix, mix_zero]
  | x :: l, k + 1, h => by
    simp only [mix, List.set_cons_succ, List.getElem_cons_succ]
    rw [mix_set l k (by simpa using h)]
end
section
variable {w : World} {b c g : Nat} {l : List Rgr}
theorem OwnL.cellRgr (h : OwnL w b c (some ⟨g, 0, none⟩) 2 Rgr.enc l) (k : Nat) (hk : k < l.length) : w.cell? ⟨g, k * 2, none⟩ = some (.int .i64 l[k].place) ∧ w.frozen? ⟨g, k * 2, none⟩ = false ∧ w.cell? ⟨g, k * 2 + 1, none⟩ = some (.bool l[k].deaf) ∧ w.frozen? ⟨g, k * 2 + 1, none⟩ = false := by
  rcases h with h | ⟨g', f, hA, h1, h2, h3, h4⟩
  · subst h; simp at hk
  · simp only [Option.some.injEq, Addr.mk.injEq, and_true] at hA
    subst hA
    have e0 := h4 k hk 0 _ rfl
    have e1 := h4 k hk 1 _ rfl
    have c0 := h3.cell (i := k * 2) (by omega)
    have c1 := h3.cell (i := k * 2 + 1) (by omega)
    rw [Nat.add_zero] at e0
    rw [e0] at c0
    rw [e1] at c1
    exact ⟨c0, h3.free (by omega), c1, h3.free (by omega)⟩
theorem OwnL.someRgr {A : Option Addr} (h : OwnL w b c A 2 Rgr.enc l) (hl : 0 < l.length) : ∃ g, A = some ⟨g, 0, none⟩ ∧ b ≤ g ∧ g < c ∧ g < w.heap.size := by
  obtain ⟨g, f, hA, h1, h2, h3⟩ := h.cells hl
  exact ⟨g, hA, h1, h2, h3.lt⟩
theorem OwnL.setRgr (h : OwnL w b c (some ⟨g, 0, none⟩) 2 Rgr.enc l) (k : Nat) (hk : k < l.length) (j : Nat) (hj : j < 2) (u : Value) (y : Rgr) (hy : Rgr.enc y = (Rgr.enc l[k]).set j u) : OwnL (w.setCell ⟨g, k * 2 + j, none⟩ u) b c (some ⟨g, 0, none⟩) 2 Rgr.enc (l.set k y) := by
  rcases h with h | ⟨g', f, hA, h1, h2, h3, h4⟩
  · subst h; simp at hk
  · simp only [Option.some.injEq, Addr.mk.injEq, and_true] at hA
    subst hA
    refine .inr ⟨g, _, rfl, h1, h2, by rw [List.length_set]; exact h3.set (i := k * 2 + j) (by omega) _, fun i hi m v hv => ?_⟩
    have hm : m < 2 := (List.getElem?_eq_some_iff.1 hv).1
    by_cases e : i = k
    · subst e
      rw [List.getElem_set_self, hy] at hv
      by_cases e2 : m = j
      · subst e2
        rw [upd_same]
        rw [List.getElem?_set_self (by rw [Rgr_enc_len]; omega)] at hv
        injection hv
      · rw [List.getElem?_set_ne (by omega)] at hv
        rw [upd_other _ _ _ _ (by omega)]
        exact h4 i hk m v hv
    · rw [List.getElem_set_ne (by omega)] at hv
      rw [upd_other _ _ _ _ (by omega)]
      exact h4 i (by simpa using hi) m v hv
theorem OwnL.setPlace (h : OwnL w b c (some ⟨g, 0, none⟩) 2 Rgr.enc l) (k : Nat) (hk : k < l.length) (v : Int) : OwnL (w.setCell ⟨g, k * 2, none⟩ (.int .i64 v)) b c (some ⟨g, 0, none⟩) 2 Rgr.enc (l.set k ⟨v, l[k].deaf⟩) :=
  h.setRgr k hk 0 (by omega) _ _ rfl
theorem OwnL.setDeaf (h : OwnL w b c (some ⟨g, 0, none⟩) 2 Rgr.enc l) (k : Nat) (hk : k < l.length) (v : Bool) : OwnL (w.setCell ⟨g, k * 2 + 1, none⟩ (.bool v)) b c (some ⟨g, 0, none⟩) 2 Rgr.enc (l.set k ⟨l[k].place, v⟩) :=
  h.setRgr k hk 1 (by omega) _ _ rfl
end
/-- The change at the band's step by the book. -/
def ownChg (b : Bnd) : ByteArray := b.m.x.getD b.step.toNat ByteArray.empty
/-- The change at the band's step for whoever heard the call. -/
def heardChg (b : Bnd) : ByteArray := if b.step = (b.m.x.length : Int) - 1 then (if b.call.toList = [98] then b.bob else if b.call.toList = [115] then b.sing else ownChg b) else ownChg b
/-- A ringer behind one change. -/
noncomputable def stepR (b : Bnd) (r : Rgr) : Rgr := ⟨((mvP b.m.stage.toNat (if r.deaf then ownChg b else heardChg b) r.place.toNat : Nat) : Int), r.deaf⟩
def hearR (r : Rgr) : Rgr := ⟨r.place, false⟩
/-- The ringers behind one change. -/
noncomputable def stepRs (b : Bnd) : List Rgr := if b.step = (b.m.x.length : Int) - 1 then (b.rx.map (stepR b)).map hearR else b.rx.map (stepR b)
theorem stepRs_len (b : Bnd) : (stepRs b).length = b.rx.length := by unfold stepRs; split <;> simp
/-- The step behind one change. -/
def stepN (b : Bnd) : Int := if b.step = (b.m.x.length : Int) - 1 then 0 else b.step + 1
def stepC (b : Bnd) : ByteArray := if b.step = (b.m.x.length : Int) - 1 then ⟨#[112]⟩ else b.call
noncomputable def stepT (b : Bnd) : ByteArray := timesS b.tru (chgS b.m.stage.toNat (heardChg b))
end Go.Proofs.YtbfhfnejppfehaaGreat

/-
  Contracts of chapter 1, the reference's side: products and inverses of rows; two rows of one stage.
-/
namespace Go.Proofs.YtbfhfnejppfehaaGreat
open Go.RowKit
set_option linter.unusedVariables false
set_option linter.unusedSimpArgs false
set_option maxRecDepth 100000

theorem l1At_k (s : ByteArray) (k : Nat) (p : Int) (w : World) (hp : p = k + 1) (h2 : k < s.size) (hs : s.size ≤ 1000000) (h3 : 48 ≤ bat s k) :
    Calls Tryz.prog 54 #[.string s, .int .i64 p] w fun e w' => e = .returned (.int .i64 (bat s k - 48)) ∧ w = w' := by
  have e : p - 1 = k := by omega
  have := l1At_any s p w (by omega) (by omega) (by omega) (by rw [e]; exact h3)
  rw [e] at this; exact this

theorem take_snoc {l : List Int} {k : Nat} (h : k < l.length) : l.take (k + 1) = l.take k ++ [l[k]] := List.take_succ_eq_append_getElem h
theorem mkS_snoc (l : List Int) (s : ByteArray) (v : Int) (hs : s.size = 1) (hv : bat s 0 = v) : mkS l ++ s = mkS (l ++ [v]) := by
  refine str_ext (by rw [size_app, size_mkS, size_mkS, hs]; simp) fun i hi => ?_
  rw [size_app, size_mkS, hs] at hi
  have h1 := bat_lo s 0
  have h2 := bat_hi s 0
  by_cases h : i < l.length
  · rw [bat_append_l _ _ _ (by rw [size_mkS]; exact h)]
    unfold bat mkS
    simp [List.getElem?_append_left, h]
  · obtain rfl : i = l.length := by omega
    have := bat_append_r (mkS l) s 0
    rw [size_mkS] at this
    rw [show (l.length : Nat) = l.length + 0 from rfl, this]
    rw [bat_mkS _ _ (by simp) (by simp; omega) (by simp; omega)]
    simp; exact hv

set_option maxHeartbeats 800000 in
theorem l1Times_any (a b : ByteArray) (w : World) (hb : b.size ≤ 1000000) (ha : a.size ≤ 1000000) (h : ∀ i : Nat, i < b.size → 49 ≤ bat b i ∧ bat b i < 49 + a.size) :
    Calls Tryz.prog 158 #[.string a, .string b] w fun e w' => e = .returned (.string (timesS a b)) ∧ w = w' := by
  have H := Lib.hid h
  clear h
  go_enter Tryz.func158, Tryz.ntmps158
  go_wp2
  go_loop [5, 6] (fun s i => ∃ (k : Nat) (o : ByteArray), k ≤ b.size ∧ i = .int .i64 (k + 1) ∧ s = .string o ∧ o.size ≤ k ∧ Hid (o = mkS ((timesL a b).take k))) (fun _ i => b.size + 1 - (intOf i).toNat)
  case atStart => exact ⟨0, ⟨#[]⟩, by omega, by rfl, rfl, by decide, rfl⟩
  case round =>
    obtain ⟨k, o, hk, rfl, rfl, ho, he⟩ := hrel
    by_cases hlt : k < b.size
    · obtain ⟨h1, h2⟩ := H.out k hlt
      have hy := bat_hi b k
      go_wp2_with (go_at_call 54; refine (l1At_k b k _ _ (by omega) hlt hb (by omega)).mono ?_; rintro e w' ⟨rfl, rfl⟩)
      go_round
      case rel =>
        have hsz : (a.extract ((bat b k - 48).toNat - 1) (bat b k - 48).toNat).size = 1 := by rw [size_ext]; omega
        refine ⟨k + 1, _, by omega, by go_num, rfl, by rw [size_app, hsz]; omega, ?_⟩
        have hl : k < (timesL a b).length := by simp [timesL]; omega
        show _ = _
        rw [take_snoc hl, he.out]
        refine mkS_snoc _ _ _ hsz ?_
        have := bat_ext a ((bat b k - 48).toNat - 1) (bat b k - 48).toNat 0 (by omega)
        rw [show ((0 : Nat) : Int) = 0 from rfl] at this
        rw [this]
        have e : (((bat b k - 48).toNat - 1 + 0 : Nat) : Int) = bat b k - 49 := by omega
        rw [e]; simp [timesL]
      case measure => simp [intOf]; omega
    · go_wp2
      go_ret
      exact ⟨by rw [he.out, List.take_of_length_le (by simp [timesL]; omega)]; rfl, rfl⟩

/-- Two rows of one stage. -/
def two (a b : ByteArray) : Prop := isRow a ∧ isRow b ∧ a.size = b.size
theorem l1Row_t (s : ByteArray) (w : World) (h : isRow s) : Calls Tryz.prog 107 #[.string s] w fun e w' => e = .returned (.bool true) ∧ ∃ n, w' = w.drewN n := by
  have := l1Row_any s w; rw [B_t h] at this; exact this
theorem l1Row_f (s : ByteArray) (w : World) (h : ¬ isRow s) : Calls Tryz.prog 107 #[.string s] w fun e w' => e = .returned (.bool false) ∧ ∃ n, w' = w.drewN n := by
  have := l1Row_any s w; rw [B_f h] at this; exact this
end Go.Proofs.YtbfhfnejppfehaaGreat
/-
  Contracts: the place of a bell in a row (both sides).
-/
namespace Go.Proofs.YtbfhfnejppfehaaGreat
open Go.RowKit
set_option linter.unusedVariables false
set_option linter.unusedSimpArgs false
set_option maxRecDepth 100000


set_option maxHeartbeats 800000 in
theorem placeOf_any (a : ByteArray) (b : Int) (w : World) (h : isRow a) (h0 : 0 ≤ b) (h9 : b ≤ 1000) :
    Calls Tryz.prog 66 #[.string a, .int .i64 b] w fun e w' => e = .returned (.int .i64 (placeS a b)) ∧ w = w' := by
  have h8 := h.2.1
  have H := Lib.hid h
  clear h
  go_enter Tryz.func66, Tryz.ntmps66
  go_wp2
  go_loop [8] (fun i => ∃ k : Nat, k ≤ a.size ∧ i = .int .i64 k ∧ ∀ j : Nat, j < k → bat a j ≠ 48 + b) (fun i => a.size - (intOf i).toNat)
  case atStart => exact ⟨0, by omega, by rfl, by omega⟩
  case round =>
    obtain ⟨k, hk, rfl, hn⟩ := hrel
    have Hn := Lib.hid hn
    clear hn
    by_cases hlt : k < a.size
    · have hb := H.out.2.2.1 k hlt
      have hy := bat_hi a k
      by_cases c : bat a k = 48 + b
      · have cb : (bat a k - 48 == b) = true := by simp <;> omega
        have C := Lib.hid c
        clear c
        go_wp2
        go_ret
        exact ⟨ret_int (by unfold placeS; rw [placeAt_hit a _ a.size k hlt C.out (fun j hj e => H.out.inj hj hlt (by have := C.out; omega))]), rfl⟩
      · have cb : (bat a k - 48 == b) = false := by simp <;> omega
        have C := Lib.hid c
        clear c
        go_wp2
        go_round
        case rel =>
          refine ⟨k + 1, by omega, by go_num, fun j hj => ?_⟩
          rcases Nat.lt_or_eq_of_le (Nat.le_of_lt_succ hj) with h' | rfl
          · exact Hn.out j h'
          · exact C.out
        case measure => simp [intOf]; omega
    · go_wp2
      go_ret
      obtain rfl : k = a.size := by omega
      exact ⟨ret_int (by unfold placeS; rw [placeAt_none a _ a.size Hn.out]), rfl⟩

set_option maxHeartbeats 800000 in
theorem l5Place_any (a : ByteArray) (b : Int) (w : World) (h : isRow a) (h0 : 0 ≤ b) (h9 : b ≤ 1000) :
    Calls Tryz.prog 73 #[.string a, .int .i64 b] w fun e w' => e = .returned (.int .i64 (placeS a b)) ∧ w = w' := by
  have h8 := h.2.1
  have H := Lib.hid h
  clear h
  go_enter Tryz.func73, Tryz.ntmps73
  go_wp2
  go_loop [5] (fun i => ∃ k : Nat, k ≤ a.size ∧ i = .int .i64 (k + 1) ∧ ∀ j : Nat, j < k → bat a j ≠ 48 + b) (fun i => a.size + 1 - (intOf i).toNat)
  case atStart => exact ⟨0, by omega, by rfl, by omega⟩
  case round =>
    obtain ⟨k, hk, rfl, hn⟩ := hrel
    have Hn := Lib.hid hn
    clear hn
    by_cases hlt : k < a.size
    · have hb := H.out.2.2.1 k hlt
      have hy := bat_hi a k
      by_cases c : bat a k = 48 + b
      · have cb : (bat a k - 48 == b) = true := by simp <;> omega
        have C := Lib.hid c
        clear c
        go_wp2_with (go_at_call 54; refine (l1At_k a k _ _ (by omega) hlt (by omega) (by omega)).mono ?_; rintro e w' ⟨rfl, rfl⟩)
        go_ret
        exact ⟨ret_int (by unfold placeS; rw [placeAt_hit a _ a.size k hlt C.out (fun j hj e => H.out.inj hj hlt (by have := C.out; omega))]), rfl⟩
      · have cb : (bat a k - 48 == b) = false := by simp <;> omega
        have C := Lib.hid c
        clear c
        go_wp2_with (go_at_call 54; refine (l1At_k a k _ _ (by omega) hlt (by omega) (by omega)).mono ?_; rintro e w' ⟨rfl, rfl⟩)
        go_round
        case rel =>
          refine ⟨k + 1, by omega, by go_num, fun j hj => ?_⟩
          rcases Nat.lt_or_eq_of_le (Nat.le_of_lt_succ hj) with h' | rfl
          · exact Hn.out j h'
          · exact C.out
        case measure => simp [intOf]; omega
    · go_wp2
      go_ret
      obtain rfl : k = a.size := by omega
      exact ⟨ret_int (by unfold placeS; rw [placeAt_none a _ a.size Hn.out]), rfl⟩
end Go.Proofs.YtbfhfnejppfehaaGreat

/-
  Contracts: all numbers of a list within bounds; a number among the first of a list (both sides).
-/
namespace Go.Proofs.YtbfhfnejppfehaaGreat
open Go.RowKit
set_option linter.unusedVariables false
set_option linter.unusedSimpArgs false
set_option maxRecDepth 100000

def allIn (l : List Int) (lo hi : Int) : Prop := ∀ s ∈ l, inB s lo hi
def hasUpTo (l : List Int) (m : Nat) (n : Int) : Prop := ∃ (j : Nat) (h : j < l.length), j < m ∧ l[j] = n

theorem l1All_any (l : List Int) (A : Option Addr) (c : Nat) (lo hi : Int) (w : World) (h : RdL w w.heap.size A 1 encInt l) (hl : l.length ≤ 4611686018427387904) :
    Calls Tryz.prog 106 #[.slice A l.length c, .int .i64 lo, .int .i64 hi] w fun e w' => e = .returned (.bool (B (allIn l lo hi))) ∧ w = w' := by
  go_enter Tryz.func106, Tryz.ntmps106
  go_wp2
  go_loop [11] (fun i => ∃ k : Nat, k ≤ l.length ∧ i = .int .i64 k ∧ ∀ (j : Nat) (hj : j < l.length), j < k → inB l[j] lo hi) (fun i => l.length - (intOf i).toNat)
  case atStart => exact ⟨0, by omega, by rfl, fun j _ h => by omega⟩
  case round =>
    obtain ⟨k, hk, rfl, hp⟩ := hrel
    have Hp := Lib.hid hp
    clear hp
    by_cases hlt : k < l.length
    · obtain ⟨g, off, hA, hg, hcell⟩ := h.at (k := k) (by omega)
      subst hA
      have r0 : w.cell? ⟨g, off + k, none⟩ = some (.int .i64 (l[k]'(by omega))) := by have := hcell 0 _ rfl; rw [Nat.mul_one] at this; exact this
      obtain ⟨x, hx⟩ : ∃ x, Hid (l[k]'(by omega) = x) := ⟨_, Lib.hid rfl⟩
      rw [hx.out] at r0
      clear hcell
      by_cases hin : inB x lo hi
      · have e2 := B_t hin
        have Hin := Lib.hid hin
        clear hin
        go_wp2_with (go_at_call 92; refine (l1In_any _ _ _ _).mono ?_; rintro e w' ⟨rfl, rfl⟩)
        go_round
        case rel =>
          refine ⟨k + 1, by omega, by go_num, fun j hj h1 => ?_⟩
          rcases Nat.lt_or_eq_of_le (Nat.le_of_lt_succ h1) with h' | rfl
          · exact Hp.out j hj h'
          · rw [hx.out]; exact Hin.out
        case measure => simp [intOf]; omega
      · have e2 := B_f hin
        have Hin := Lib.hid hin
        clear hin
        go_wp2_with (go_at_call 92; refine (l1In_any _ _ _ _).mono ?_; rintro e w' ⟨rfl, rfl⟩)
        go_ret
        exact ⟨ret_f (fun ha => Hin.out (by rw [← hx.out]; exact ha _ (List.getElem_mem _))), rfl⟩
    · obtain rfl : k = l.length := by omega
      go_wp2
      go_ret
      refine ⟨ret_t (fun s hs => ?_), rfl⟩
      obtain ⟨j, hj, rfl⟩ := List.getElem_of_mem hs
      exact Hp.out j hj hj

theorem indexInt_any (l : List Int) (m : Nat) (hm : m ≤ l.length) (A : Option Addr) (c : Nat) (n : Int) (w : World) (h : RdL w w.heap.size A 1 encInt l) (hl : l.length ≤ 4611686018427387904) :
    Calls Tryz.prog 227 #[.slice A m c, .int .i64 n] w fun e w' => (∃ r : Int, e = .returned (.int .i64 r) ∧ (0 ≤ r ↔ hasUpTo l m n)) ∧ w = w' := by
  go_enter Tryz.func227, Tryz.ntmps227
  go_wp2
  go_loop [8] (fun i => ∃ k : Nat, k ≤ m ∧ i = .int .i64 k ∧ ∀ (j : Nat) (hj : j < l.length), j < k → l[j] ≠ n) (fun i => m - (intOf i).toNat)
  case atStart => exact ⟨0, by omega, by rfl, fun j _ h => by omega⟩
  case round =>
    obtain ⟨k, hk, rfl, hp⟩ := hrel
    have Hp := Lib.hid hp
    clear hp
    by_cases hlt : k < m
    · obtain ⟨g, off, hA, hg, hcell⟩ := h.at (k := k) (by omega)
      subst hA
      have r0 : w.cell? ⟨g, off + k, none⟩ = some (.int .i64 (l[k]'(by omega))) := by have := hcell 0 _ rfl; rw [Nat.mul_one] at this; exact this
      obtain ⟨x, hx⟩ : ∃ x, Hid (l[k]'(by omega) = x) := ⟨_, Lib.hid rfl⟩
      rw [hx.out] at r0
      clear hcell
      by_cases hin : x = n
      · rw [hin] at r0 hx
        clear hin
        go_wp2
        go_ret
        exact ⟨⟨_, rfl, ⟨fun _ => ⟨k, by omega, hlt, hx.out⟩, fun _ => by omega⟩⟩, rfl⟩
      · have hin2 : ¬ n = x := fun h => hin h.symm
        go_wp2
        go_round
        case rel =>
          refine ⟨k + 1, by omega, by go_num, fun j hj h1 => ?_⟩
          rcases Nat.lt_or_eq_of_le (Nat.le_of_lt_succ h1) with h' | rfl
          · exact Hp.out j hj h'
          · rw [hx.out]; exact hin
        case measure => simp [intOf]; omega
    · obtain rfl : k = m := by omega
      go_wp2
      go_ret
      exact ⟨⟨_, rfl, ⟨fun h => absurd h (by omega), fun ⟨j, h1, h2, h3⟩ => absurd h3 (Hp.out j h1 h2)⟩⟩, rfl⟩
theorem containsInt_any (l : List Int) (m : Nat) (hm : m ≤ l.length) (A : Option Addr) (c : Nat) (n : Int) (w : World) (h : RdL w w.heap.size A 1 encInt l) (hl : l.length ≤ 4611686018427387904) :
    Calls Tryz.prog 226 #[.slice A m c, .int .i64 n] w fun e w' => e = .returned (.bool (B (hasUpTo l m n))) ∧ w = w' := by
  have H := Lib.hid h
  clear h
  go_enter Tryz.func226, Tryz.ntmps226
  go_wp2_with (go_at_call 227; refine (indexInt_any l m hm A c n _ H.out hl).mono ?_; rintro e w' ⟨⟨r, rfl, hr⟩, rfl⟩; have Hr := Lib.hid hr; clear hr)
  all_goals go_ret
  by_cases hq : hasUpTo l m n
  · exact ⟨by have := Hr.out.2 hq; rw [B_t hq]; first | (simp; done) | (simp; omega), rfl⟩
  · exact ⟨by have : ¬ 0 ≤ r := fun h => hq (Hr.out.1 h); rw [B_f hq]; first | (simp; done) | (simp; omega), rfl⟩
end Go.Proofs.YtbfhfnejppfehaaGreat
