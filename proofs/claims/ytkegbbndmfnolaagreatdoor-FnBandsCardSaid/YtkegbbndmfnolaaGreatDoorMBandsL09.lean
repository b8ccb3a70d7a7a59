import Derived.Test.YtkegbbndmfnolaaGreatDoorMBandsL03
import Derived.Test.YtkegbbndmfnolaaGreatDoorMBandsL05
import Derived.Test.YtkegbbndmfnolaaGreatDoorMBandsL01
import Derived.Test.YtkegbbndmfnolaaGreatDoorMBandsL04
/-
 The row that a change makes of rounds, in plain words: pairs of neighbours that exchange.
-/
namespace Go.Proofs.YtkegbbndmfnolaaGreatDoor
open Go.RowKit
set_option linter.unusedVariables false
set_option linter.unusedSimpArgs false

theorem nodupN_le : ∀ (l : List Nat) (n : Nat), l.Nodup → (∀ x ∈ l, x < n) → l.length ≤ n
 | l, 0, _, h => by
  cases l with
  | nil => simp
  | cons x l => have := h x (by simp); omega
 | l, n + 1, hn, h => by
  have h1 := nodupN_le (l.erase n) n (hn.erase n) (fun x hx => by
   have := (hn.mem_erase_iff).1 hx
   have := h x this.2; omega)
  have := List.length_erase (a := n) (l := l)
  split at this <;> omega
/-- A change lets a place stay. -/
def stays (c : ByteArray) (p : Nat) : Prop := ∃ i : Nat, i < c.size ∧ bat c i - 48 = (p : Int)
open Classical in
/-- The lower places of the pairs that exchange, from place p on. -/
noncomputable def swF (c : ByteArray) (n : Nat) : Nat → Nat → List Nat
 | 0, _ => []
 | f + 1, p => if p < n then (if stays c p then swF c n f (p + 1) else p :: swF c n f (p + 2)) else []
theorem swF_fuel (c : ByteArray) (n : Nat) : ∀ (f g p : Nat), n ≤ p + f → n ≤ p + g → swF c n f p = swF c n g p
 | 0, 0, p, _, _ => rfl
 | 0, g + 1, p, h, _ => by simp only [swF]; rw [if_neg (by omega)]
 | f + 1, 0, p, _, h => by simp only [swF]; rw [if_neg (by omega)]
 | f + 1, g + 1, p, h1, h2 => by
  simp only [swF]
  rw [swF_fuel c n f g (p + 1) (by omega) (by omega), swF_fuel c n f g (p + 2) (by omega) (by omega)]
noncomputable def swFrom (c : ByteArray) (n p : Nat) : List Nat := swF c n (n - p) p
noncomputable def swL (c : ByteArray) (n : Nat) : List Nat := swFrom c n 1
theorem swFrom_end {c : ByteArray} {n p : Nat} (h : n ≤ p) : swFrom c n p = [] := by
 unfold swFrom; rw [show n - p = 0 by omega]; rfl
theorem swFrom_stay {c : ByteArray} {n p : Nat} (h : p < n) (hs : stays c p) : swFrom c n p = swFrom c n (p + 1) := by
 unfold swFrom
 obtain ⟨f, hf⟩ : ∃ f, n - p = f + 1 := ⟨n - p - 1, by omega⟩
 rw [hf]; simp only [swF]; rw [if_pos h, if_pos hs]
 exact swF_fuel c n _ _ _ (by omega) (by omega)
theorem swFrom_swap {c : ByteArray} {n p : Nat} (h : p < n) (hs : ¬ stays c p) : swFrom c n p = p :: swFrom c n (p + 2) := by
 unfold swFrom
 obtain ⟨f, hf⟩ : ∃ f, n - p = f + 1 := ⟨n - p - 1, by omega⟩
 rw [hf]; simp only [swF]; rw [if_pos h, if_neg hs]
 rw [swF_fuel c n _ (n - (p + 2)) _ (by omega) (by omega)]
def Sep (L : List Nat) : Prop := L.Pairwise fun a b => a + 1 < b
theorem swFrom_ge (c : ByteArray) (n : Nat) : ∀ (f p : Nat), n ≤ p + f → ∀ q ∈ swFrom c n p, p ≤ q ∧ q < n
 | 0, p, h, q, hq => by rw [swFrom_end (by omega)] at hq; simp at hq
 | f + 1, p, h, q, hq => by
  by_cases hp : p < n
  ·by_cases hs : stays c p
   ·rw [swFrom_stay hp hs] at hq; have := swFrom_ge c n f (p + 1) (by omega) q hq; omega
   ·rw [swFrom_swap hp hs] at hq
    rcases List.mem_cons.1 hq with rfl | hq
    ·omega
    ·have := swFrom_ge c n f (p + 2) (by omega) q hq; omega
  ·rw [swFrom_end (by omega)] at hq; simp at hq
theorem swFrom_sep (c : ByteArray) (n : Nat) : ∀ (f p : Nat), n ≤ p + f → Sep (swFrom c n p)
 | 0, p, h => by rw [swFrom_end (by omega)]; exact List.Pairwise.nil
 | f + 1, p, h => by
  by_cases hp : p < n
  ·by_cases hs : stays c p
   ·rw [swFrom_stay hp hs]; exact swFrom_sep c n f (p + 1) (by omega)
   ·rw [swFrom_swap hp hs]
    exact List.Pairwise.cons (fun q hq => by have := (swFrom_ge c n f (p + 2) (by omega) q hq).1; omega) (swFrom_sep c n f (p + 2) (by omega))
  ·rw [swFrom_end (by omega)]; exact List.Pairwise.nil
theorem sep_no : ∀ {L : List Nat}, Sep L → ∀ {a : Nat}, a ∈ L → a + 1 ∈ L → False
 | [], _, a, h, _ => by simp at h
 | x :: L, hs, a, h1, h2 => by
  obtain ⟨hx, hL⟩ := List.pairwise_cons.1 hs
  rcases List.mem_cons.1 h1 with rfl | h1 <;> rcases List.mem_cons.1 h2 with h2 | h2
  ·omega
  ·have := hx _ h2; omega
  ·have := hx _ h1; omega
  ·exact sep_no hL h1 h2
/-- Where a place's bell goes. -/
def pt (L : List Nat) (p : Nat) : Nat := if p ∈ L then p + 1 else if 1 ≤ p ∧ p - 1 ∈ L then p - 1 else p
theorem pt_nil (p : Nat) : pt [] p = p := by simp [pt]
theorem pt_snoc {L : List Nat} {q : Nat} (h : ∀ r ∈ L, r + 1 < q) (p : Nat) (hp : 1 ≤ p) : pt (L ++ [q]) p = if p = q then q + 1 else if p = q + 1 then q else pt L p := by
 unfold pt
 simp only [List.mem_append, List.mem_singleton]
 by_cases e1 : p = q
 ·subst e1; simp
 ·rw [if_neg e1]
  by_cases e2 : p = q + 1
  ·subst e2
   have : ¬ (q + 1 ∈ L) := fun hm => by have := h _ hm; omega
   rw [if_pos rfl, if_neg (by simp [this]), if_pos ⟨by omega, by right; omega⟩]; omega
  ·rw [if_neg e2]
   have : ¬ p - 1 = q ∨ p = 0 := by omega
   by_cases m1 : p ∈ L
   ·rw [if_pos (.inl m1), if_pos m1]
   ·rw [if_neg (by simp [m1, e1]), if_neg m1]
    by_cases m2 : p - 1 ∈ L
    ·rw [if_pos ⟨hp, .inl m2⟩, if_pos ⟨hp, m2⟩]
    ·rw [if_neg (by rintro ⟨_, h | h⟩; exact m2 h; omega), if_neg (fun x => m2 x.2)]
theorem pt_invol {L : List Nat} (hs : Sep L) (p : Nat) : pt L (pt L p) = p := by
 unfold pt
 by_cases m1 : p ∈ L
 ·rw [if_pos m1, if_neg (fun h => sep_no hs m1 h), if_pos ⟨by omega, by simpa using m1⟩]; omega
 ·rw [if_neg m1]
  by_cases m2 : 1 ≤ p ∧ p - 1 ∈ L
  ·rw [if_pos m2, if_pos m2.2]; omega
  ·rw [if_neg m2, if_neg m1, if_neg m2]
theorem pt_bd {L : List Nat} {n : Nat} (h : ∀ r ∈ L, 1 ≤ r ∧ r < n) {p : Nat} (h1 : 1 ≤ p) (h2 : p ≤ n) : 1 ≤ pt L p ∧ pt L p ≤ n := by
 unfold pt
 by_cases m1 : p ∈ L
 ·rw [if_pos m1]; have := h p m1; omega
 ·rw [if_neg m1]
  by_cases m2 : 1 ≤ p ∧ p - 1 ∈ L
  ·rw [if_pos m2]; have := h _ m2.2; omega
  ·rw [if_neg m2]; omega
/-- The row that pairs make of rounds. -/
def ptL (L : List Nat) (n : Nat) : List Int := (List.range n).map fun i : Nat => ((48 + pt L (i + 1) : Nat) : Int)
def ptS (L : List Nat) (n : Nat) : ByteArray := mkS (ptL L n)
theorem ptL_len (L : List Nat) (n : Nat) : (ptL L n).length = n := by simp [ptL]
theorem ptS_size (L : List Nat) (n : Nat) : (ptS L n).size = n := by unfold ptS; rw [size_mkS, ptL_len]
theorem ptS_bat {L : List Nat} {n : Nat} (h : ∀ r ∈ L, 1 ≤ r ∧ r < n) (hn : n ≤ 8) {i : Nat} (hi : i < n) : bat (ptS L n) i = ((48 + pt L (i + 1) : Nat) : Int) := by
 have hb := pt_bd h (p := i + 1) (by omega) (by omega)
 have he : (ptL L n)[i]'(by rw [ptL_len]; exact hi) = ((48 + pt L (i + 1) : Nat) : Int) := by simp [ptL]
 unfold ptS
 rw [bat_mkS _ i (by rw [ptL_len]; exact hi) (by rw [he]; omega) (by rw [he]; omega), he]
theorem ptS_row {L : List Nat} {n : Nat} (h : ∀ r ∈ L, 1 ≤ r ∧ r < n) (hs : Sep L) (h3 : 3 ≤ n) (h8 : n ≤ 8) : isRow (ptS L n) := by
 refine ⟨by rw [ptS_size]; exact h3, by rw [ptS_size]; exact h8, fun i hi => ?_, fun i j hij hj => ?_⟩
 ·rw [ptS_size] at hi ⊢
  rw [ptS_bat h h8 hi]
  have := pt_bd h (p := i + 1) (by omega) (by omega); omega
 ·rw [ptS_size] at hj
  rw [ptS_bat h h8 (by omega), ptS_bat h h8 hj]
  intro e
  have e2 : pt L (i + 1) = pt L (j + 1) := by omega
  have := congrArg (pt L) e2
  rw [pt_invol hs, pt_invol hs] at this
  omega
/-- The place of a bell in that row. -/
theorem ptS_place {L : List Nat} {n : Nat} (h : ∀ r ∈ L, 1 ≤ r ∧ r < n) (hs : Sep L) (h3 : 3 ≤ n) (h8 : n ≤ 8) {p : Nat} (h1 : 1 ≤ p) (h2 : p ≤ n) : placeS (ptS L n) p = pt L p := by
 have hb := pt_bd h h1 h2
 obtain ⟨i, hi⟩ : ∃ i, pt L p = i + 1 := ⟨pt L p - 1, by omega⟩
 have := (ptS_row h hs h3 h8).place (i := i) (by rw [ptS_size]; omega)
 rw [ptS_bat h h8 (by omega), ← hi, pt_invol hs] at this
 have e : ((48 + p : Nat) : Int) - 48 = (p : Int) := by omega
 rw [e] at this
 omega
theorem swL_bd (c : ByteArray) (n : Nat) : ∀ r ∈ swL c n, 1 ≤ r ∧ r < n := swFrom_ge c n n 1 (by omega)
theorem swL_sep (c : ByteArray) (n : Nat) : Sep (swL c n) := swFrom_sep c n n 1 (by omega)
/-- The row that a change of stage n makes of rounds. -/
noncomputable def chgS (n : Nat) (c : ByteArray) : ByteArray := ptS (swL c n) n
/-- Where a change of stage n brings what is at a place. -/
noncomputable def mvP (n : Nat) (c : ByteArray) (p : Nat) : Nat := pt (swL c n) p
end Go.Proofs.YtkegbbndmfnolaaGreatDoor

/-
 A list of which a first part has been turned; an own list of ringers written at one place; the band behind one change, in plain words.
-/
namespace Go.Proofs.YtkegbbndmfnolaaGreatDoor
open Go.RowKit
set_option linter.unusedVariables false
set_option linter.unusedSimpArgs false

section
variable {α : Type} (f : α → α)
/-- The first k elements are turned. -/
def mix : List α → Nat → List α
 | [], _ => []
 | x :: l, 0 => x :: l
 | x :: l, k + 1 => f x :: mix l k
theorem mix_zero (l : List α) : mix f l 0 = l := by cases l <;> rfl
theorem mix_len : ∀ (l : List α) (k : Nat), (mix f l k).length = l.length
 | [], _ => rfl
 | x :: l, 0 => rfl
 | x :: l, k + 1 => by simp [mix, mix_len l k]
theorem mix_all : ∀ (l : List α) (k : Nat), l.length ≤ k → mix f l k = l.map f
 | [], _, _ => rfl
 | x :: l, 0, h => by simp at h
 | x :: l, k + 1, h => by simp only [mix, List.map_cons]; rw [mix_all l k (by simpa using h)]
theorem mix_at : ∀ (l : List α) (k i : Nat) (hi : i < (mix f l k).length) (h2 : i < l.length), k ≤ i → (mix f l k)[i] = l[i]
 | x :: l, 0, i, _, _, _ => rfl
 | x :: l, k + 1, 0, _, _, h => by omega
 | x :: l, k + 1, i + 1, hi, h2, h => by
  simp only [mix, List.getElem_cons_succ]
  exact mix_at l k i _ (by simpa using h2) (by omega)
theorem mix_set : ∀ (l : List α) (k : Nat) (h : k < l.length), (mix f l k).set k (f l[k]) = mix f l (k + 1)
 | x :: l, 0, h => by simp [mix, mix_zero]
 | x :: l, k + 1, h => by
  simp only [mix, List.set_cons_succ, List.getElem_cons_succ]
  rw [mix_set l k (by simpa using h)]
end
section
variable {w : World} {b c g : Nat} {l : List Rgr}
theorem OwnL.cellRgr (h : OwnL w b c (some ⟨g, 0, none⟩) 2 Rgr.enc l) (k : Nat) (hk : k < l.length) : w.cell? ⟨g, k * 2, none⟩ = some (.int .i64 l[k].place) ∧ w.frozen? ⟨g, k * 2, none⟩ = false ∧ w.cell? ⟨g, k * 2 + 1, none⟩ = some (.bool l[k].deaf) ∧ w.frozen? ⟨g, k * 2 + 1, none⟩ = false := by
 rcases h with h | ⟨g', f, hA, h1, h2, h3, h4⟩
 ·subst h; simp at hk
 ·simp only [Option.some.injEq, Addr.mk.injEq, and_true] at hA
  subst hA
  have e0 := h4 k hk 0 _ rfl
  have e1 := h4 k hk 1 _ rfl
  have c0 := h3.cell (i := k * 2) (by omega)
  have c1 := h3.cell (i := k * 2 + 1) (by omega)
  rw [Nat.add_zero] at e0
  rw [e0] at c0
  rw [e1] at c1
  exact ⟨c0, h3.free (by omega), c1, h3.free (by omega)⟩
theorem OwnL.someRgr {A : Option Addr} (h : OwnL w b c A 2 Rgr.enc l) (hl : 0 < l.length) : ∃ g, A = some ⟨g, 0, none⟩ ∧ b ≤ g ∧ g < c ∧ g < w.heap.size := by
 obtain ⟨g, f, hA, h1, h2, h3⟩ := h.cells hl
 exact ⟨g, hA, h1, h2, h3.lt⟩
theorem OwnL.setRgr (h : OwnL w b c (some ⟨g, 0, none⟩) 2 Rgr.enc l) (k : Nat) (hk : k < l.length) (j : Nat) (hj : j < 2) (u : Value) (y : Rgr) (hy : Rgr.enc y = (Rgr.enc l[k]).set j u) : OwnL (w.setCell ⟨g, k * 2 + j, none⟩ u) b c (some ⟨g, 0, none⟩) 2 Rgr.enc (l.set k y) := by
 rcases h with h | ⟨g', f, hA, h1, h2, h3, h4⟩
 ·subst h; simp at hk
 ·simp only [Option.some.injEq, Addr.mk.injEq, and_true] at hA
  subst hA
  refine .inr ⟨g, _, rfl, h1, h2, by rw [List.length_set]; exact h3.set (i := k * 2 + j) (by omega) _, fun i hi m v hv => ?_⟩
  have hm : m < 2 := (List.getElem?_eq_some_iff.1 hv).1
  by_cases e : i = k
  ·subst e
   rw [List.getElem_set_self, hy] at hv
   by_cases e2 : m = j
   ·subst e2
    rw [upd_same]
    rw [List.getElem?_set_self (by rw [Rgr_enc_len]; omega)] at hv
    injection hv
   ·rw [List.getElem?_set_ne (by omega)] at hv
    rw [upd_other _ _ _ _ (by omega)]
    exact h4 i hk m v hv
  ·rw [List.getElem_set_ne (by omega)] at hv
   rw [upd_other _ _ _ _ (by omega)]
   exact h4 i (by simpa using hi) m v hv
theorem OwnL.setPlace (h : OwnL w b c (some ⟨g, 0, none⟩) 2 Rgr.enc l) (k : Nat) (hk : k < l.length) (v : Int) : OwnL (w.setCell ⟨g, k * 2, none⟩ (.int .i64 v)) b c (some ⟨g, 0, none⟩) 2 Rgr.enc (l.set k ⟨v, l[k].deaf⟩) :=
 h.setRgr k hk 0 (by omega) _ _ rfl
theorem OwnL.setDeaf (h : OwnL w b c (some ⟨g, 0, none⟩) 2 Rgr.enc l) (k : Nat) (hk : k < l.length) (v : Bool) : OwnL (w.setCell ⟨g, k * 2 + 1, none⟩ (.bool v)) b c (some ⟨g, 0, none⟩) 2 Rgr.enc (l.set k ⟨l[k].place, v⟩) :=
 h.setRgr k hk 1 (by omega) _ _ rfl
end
/-- The change at the band's step by the book. -/
def ownChg (b : Bnd) : ByteArray := b.m.x.getD b.step.toNat ByteArray.empty
/-- The change at the band's step for whoever heard the call. -/
def heardChg (b : Bnd) : ByteArray := if b.step = (b.m.x.length : Int) - 1 then (if b.call.toList = [98] then b.bob else if b.call.toList = [115] then b.sing else ownChg b) else ownChg b
/-- A ringer behind one change. -/
noncomputable def stepR (b : Bnd) (r : Rgr) : Rgr := ⟨((mvP b.m.stage.toNat (if r.deaf then ownChg b else heardChg b) r.place.toNat : Nat) : Int), r.deaf⟩
def hearR (r : Rgr) : Rgr := ⟨r.place, false⟩
/-- The ringers behind one change. -/
noncomputable def stepRs (b : Bnd) : List Rgr := if b.step = (b.m.x.length : Int) - 1 then (b.rx.map (stepR b)).map hearR else b.rx.map (stepR b)
theorem stepRs_len (b : Bnd) : (stepRs b).length = b.rx.length := by unfold stepRs; split <;> simp
/-- The step behind one change. -/
def stepN (b : Bnd) : Int := if b.step = (b.m.x.length : Int) - 1 then 0 else b.step + 1
def stepC (b : Bnd) : ByteArray := if b.step = (b.m.x.length : Int) - 1 then ⟨#[112]⟩ else b.call
noncomputable def stepT (b : Bnd) : ByteArray := timesS b.tru (chgS b.m.stage.toNat (heardChg b))
end Go.Proofs.YtkegbbndmfnolaaGreatDoor

/-
 Contracts: the place of a bell in a row (both sides).
-/
namespace Go.Proofs.YtkegbbndmfnolaaGreatDoor
open Go.RowKit
set_option linter.unusedVariables false
set_option linter.unusedSimpArgs false
set_option maxRecDepth 100000


set_option maxHeartbeats 800000 in
theorem placeOf_any (a : ByteArray) (b : Int) (w : World) (h : isRow a) (h0 : 0 ≤ b) (h9 : b ≤ 1000) :
  Calls Tryz.prog 102 #[.string a, .int .i64 b] w fun e w' => e = .returned (.int .i64 (placeS a b)) ∧ w = w' := by
 have h8 := h.2.1
 have H := Lib.hid h
 clear h
 go_enter Tryz.func102, Tryz.ntmps102
 go_wp2
 go_loop [8] (fun i => ∃ k : Nat, k ≤ a.size ∧ i = .int .i64 k ∧ ∀ j : Nat, j < k → bat a j ≠ 48 + b) (fun i => a.size - (intOf i).toNat)
 case atStart => exact ⟨0, by omega, by rfl, by omega⟩
 case round =>
  obtain ⟨k, hk, rfl, hn⟩ := hrel
  have Hn := Lib.hid hn
  clear hn
  by_cases hlt : k < a.size
  ·have hb := H.out.2.2.1 k hlt
   have hy := bat_hi a k
   by_cases c : bat a k = 48 + b
   ·have cb : (bat a k - 48 == b) = true := by simp <;> omega
    have C := Lib.hid c
    clear c
    go_wp2
    go_ret
    exact ⟨ret_int (by unfold placeS; rw [placeAt_hit a _ a.size k hlt C.out (fun j hj e => H.out.inj hj hlt (by have := C.out; omega))]), rfl⟩
   ·have cb : (bat a k - 48 == b) = false := by simp <;> omega
    have C := Lib.hid c
    clear c
    go_wp2
    go_round
    case rel =>
     refine ⟨k + 1, by omega, by go_num, fun j hj => ?_⟩
     rcases Nat.lt_or_eq_of_le (Nat.le_of_lt_succ hj) with h' | rfl
     ·exact Hn.out j h'
     ·exact C.out
    case measure => simp [intOf]; omega
  ·go_wp2
   go_ret
   obtain rfl : k = a.size := by omega
   exact ⟨ret_int (by unfold placeS; rw [placeAt_none a _ a.size Hn.out]), rfl⟩

set_option maxHeartbeats 800000 in
theorem l5Place_any (a : ByteArray) (b : Int) (w : World) (h : isRow a) (h0 : 0 ≤ b) (h9 : b ≤ 1000) :
  Calls Tryz.prog 130 #[.string a, .int .i64 b] w fun e w' => e = .returned (.int .i64 (placeS a b)) ∧ w = w' := by
 have h8 := h.2.1
 have H := Lib.hid h
 clear h
 go_enter Tryz.func130, Tryz.ntmps130
 go_wp2
 go_loop [5] (fun i => ∃ k : Nat, k ≤ a.size ∧ i = .int .i64 (k + 1) ∧ ∀ j : Nat, j < k → bat a j ≠ 48 + b) (fun i => a.size + 1 - (intOf i).toNat)
 case atStart => exact ⟨0, by omega, by rfl, by omega⟩
 case round =>
  obtain ⟨k, hk, rfl, hn⟩ := hrel
  have Hn := Lib.hid hn
  clear hn
  by_cases hlt : k < a.size
  ·have hb := H.out.2.2.1 k hlt
   have hy := bat_hi a k
   by_cases c : bat a k = 48 + b
   ·have cb : (bat a k - 48 == b) = true := by simp <;> omega
    have C := Lib.hid c
    clear c
    go_wp2_with (go_at_call 162; refine (l1At_k a k _ _ (by omega) hlt (by omega) (by omega)).mono ?_; rintro e w' ⟨rfl, rfl⟩)
    go_ret
    exact ⟨ret_int (by unfold placeS; rw [placeAt_hit a _ a.size k hlt C.out (fun j hj e => H.out.inj hj hlt (by have := C.out; omega))]), rfl⟩
   ·have cb : (bat a k - 48 == b) = false := by simp <;> omega
    have C := Lib.hid c
    clear c
    go_wp2_with (go_at_call 162; refine (l1At_k a k _ _ (by omega) hlt (by omega) (by omega)).mono ?_; rintro e w' ⟨rfl, rfl⟩)
    go_round
    case rel =>
     refine ⟨k + 1, by omega, by go_num, fun j hj => ?_⟩
     rcases Nat.lt_or_eq_of_le (Nat.le_of_lt_succ hj) with h' | rfl
     ·exact Hn.out j h'
     ·exact C.out
    case measure => simp [intOf]; omega
  ·go_wp2
   go_ret
   obtain rfl : k = a.size := by omega
   exact ⟨ret_int (by unfold placeS; rw [placeAt_none a _ a.size Hn.out]), rfl⟩
end Go.Proofs.YtkegbbndmfnolaaGreatDoor

/-
 The row that a change makes of rounds, where it brings a place, a row behind a change: contracts of both sides.
-/
namespace Go.Proofs.YtkegbbndmfnolaaGreatDoor
open Go.RowKit
set_option linter.unusedVariables false
set_option linter.unusedSimpArgs false
set_option maxRecDepth 100000

def natI (l : List Nat) : List Int := l.map fun i : Nat => (i : Int)
theorem natI_len (l : List Nat) : (natI l).length = l.length := List.length_map _
theorem rounds_bat {n i : Nat} (hi : i < n) (hn : n ≤ 8) : bat (roundsS n) i = 49 + i := by
 unfold roundsS
 have h8 : eightS.size = 8 := rfl
 rw [bat_ext _ _ _ _ (by rw [h8]; simp; omega), Nat.zero_add]
 rcases (show i = 0 ∨ i = 1 ∨ i = 2 ∨ i = 3 ∨ i = 4 ∨ i = 5 ∨ i = 6 ∨ i = 7 by omega) with rfl | rfl | rfl | rfl | rfl | rfl | rfl | rfl <;> rfl
/-- What is laid of the pairs so far. -/
def SwSt (c : ByteArray) (n p : Nat) (L : List Nat) : Prop := L ++ swFrom c n p = swL c n ∧ ∀ r ∈ L, r + 1 < p ∧ 1 ≤ r
theorem SwSt.start (c : ByteArray) (n : Nat) : SwSt c n 1 [] := ⟨rfl, fun r h => by simp at h⟩
theorem SwSt.stay {c : ByteArray} {n p : Nat} {L : List Nat} (h : SwSt c n p L) (hp : p < n) (hs : stays c p) : SwSt c n (p + 1) L := ⟨by rw [← swFrom_stay hp hs]; exact h.1, fun r hr => by have := h.2 r hr; omega⟩
theorem SwSt.swap {c : ByteArray} {n p : Nat} {L : List Nat} (h : SwSt c n p L) (h1 : 1 ≤ p) (hp : p < n) (hs : ¬ stays c p) : SwSt c n (p + 2) (L ++ [p]) := ⟨by rw [List.append_assoc]; have := h.1; rw [swFrom_swap hp hs] at this; exact this, fun r hr => by
 rcases List.mem_append.1 hr with h2 | h2
 ·have := h.2 r h2; omega
 ·have := List.mem_singleton.1 h2; omega⟩
theorem SwSt.done {c : ByteArray} {n p : Nat} {L : List Nat} (h : SwSt c n p L) (hp : n ≤ p) : L = swL c n := by have := h.1; rw [swFrom_end hp, List.append_nil] at this; exact this
theorem l2Stays_any (c : ByteArray) (p : Nat) (w : World) (hc : c.size ≤ 1048576) (hp : p ≤ 1000) :
  Calls Tryz.prog 186 #[.string c, .int .i64 (p : Int)] w fun e w' => e = .returned (.bool (B (stays c p))) ∧ w = w' := by
 go_enter Tryz.func186, Tryz.ntmps186
 go_wp2
 go_loop [5] (fun i => ∃ k : Nat, k ≤ c.size ∧ i = .int .i64 k ∧ ∀ j : Nat, j < k → bat c j - 48 ≠ (p : Int)) (fun i => c.size - (intOf i).toNat)
 case atStart => exact ⟨0, by omega, by rfl, fun j h => by omega⟩
 case round =>
  obtain ⟨k, hk, rfl, hq⟩ := hrel
  have Hq := Lib.hid hq
  clear hq
  by_cases hlt : k < c.size
  ·have b1 := bat_lo c k
   have b2 := bat_hi c k
   by_cases e : bat c k - 48 = (p : Int)
   ·have e2 : (bat c k - 48 == (p : Int)) = true := beq_iff_eq.2 e
    have E := Lib.hid e
    clear e
    go_wp2
    go_ret
    exact ⟨ret_t ⟨k, hlt, E.out⟩, rfl⟩
   ·have e2 : (bat c k - 48 == (p : Int)) = false := beq_eq_false_iff_ne.2 e
    have E := Lib.hid e
    clear e
    go_wp2
    go_round
    case rel =>
     refine ⟨k + 1, by omega, by go_num, fun j hj => ?_⟩
     rcases Nat.lt_or_eq_of_le (Nat.le_of_lt_succ hj) with h' | rfl
     ·exact Hq.out j h'
     ·exact E.out
    case measure => simp [intOf]; omega
  ·obtain rfl : k = c.size := by omega
   go_wp2
   go_ret
   exact ⟨ret_f (fun ⟨i, hi, e⟩ => Hq.out i hi e), rfl⟩
theorem pt_cells {L : List Nat} {n p : Nat} {w : World} {g : Nat} (hL : ∀ r ∈ L, r + 1 < p ∧ 1 ≤ r) (h1 : 1 ≤ p) (hp : p < n) (hc : Cells w g n (fun i => .int .u8 ((48 + pt L (i + 1) : Nat) : Int))) :
  Cells ((w.setCell ⟨g, p - 1, none⟩ (.int .u8 (49 + (p : Int)))).setCell ⟨g, p, none⟩ (.int .u8 (48 + (p : Int)))) g n (fun i => .int .u8 ((48 + pt (L ++ [p]) (i + 1) : Nat) : Int)) := by
 refine ((hc.set (i := p - 1) (by omega) _).set (i := p) hp _).congr fun i hi => ?_
 rw [pt_snoc (fun r hr => (hL r hr).1) (i + 1) (by omega)]
 by_cases e1 : i = p
 ·subst e1; rw [upd_same, if_neg (by omega), if_pos rfl]; congr 1
 ·rw [upd_other _ _ _ _ e1]
  by_cases e2 : i = p - 1
  ·subst e2; rw [upd_same, if_pos (by omega)]; congr 1; omega
  ·rw [upd_other _ _ _ _ e2, if_neg (by omega), if_neg (by omega)]
set_option maxHeartbeats 1600000 in
theorem l2Row_any (n : Nat) (c : ByteArray) (w : World) (h3 : 3 ≤ n) (h8 : n ≤ 8) (hc : c.size ≤ 1048576) :
  Calls Tryz.prog 166 #[.int .i64 (n : Int), .string c] w fun e w' => e = .returned (.string (chgS n c)) ∧ Below w.heap.size w w' := by
 have hrs : Hid ((roundsS n).size = n) := Lib.hid (by rw [roundsS_size (by omega) (by omega)]; omega)
 have hrb : Hid (∀ i : Nat, i < n → bat (roundsS n) i = 49 + i) := Lib.hid (fun i hi => rounds_bat hi h8)
 go_enter Tryz.func166, Tryz.ntmps166
 go_wp2_with (first | (go_at_call 120; refine (l1Rounds_any (n : Int) _ (by omega) (by omega)).mono ?_; rintro e w' ⟨rfl, rfl⟩) | (refine wpList_bytes rfl _ 9 22 5 rfl rfl rfl rfl (roundsS n) rfl ?_; intro cc w2 hc2 hb2))
 have hsz := hrs.out
 have HC : Hid (Cells w2 w.heap.size n (fun i => .int .u8 ((48 + pt [] (i + 1) : Nat) : Int))) := Lib.hid (by rw [hsz] at hc2; exact hc2.congr fun i hi => by rw [hrb.out i hi, pt_nil]; congr 1; omega)
 have HB := Lib.hid hb2
 rw [hsz]
 clear hc2 hb2 hsz
 go_loopw [6] (fun i wr => ∃ (p : Nat) (L : List Nat), 1 ≤ p ∧ p ≤ n + 1 ∧ i = .int .i64 p ∧ Hid (SwSt c n p L) ∧ Hid (Cells wr w.heap.size n (fun i => .int .u8 ((48 + pt L (i + 1) : Nat) : Int))) ∧ Hid (Below w.heap.size w wr)) (fun i _ => n + 1 - (intOf i).toNat)
 case atStart => exact ⟨1, [], by omega, by omega, by rfl, Lib.hid (SwSt.start c n), HC, HB⟩
 case round =>
  obtain ⟨p, L, hp1, hpn, rfl, hst, hcl, hbl⟩ := hrel
  by_cases hlt : p < n
  ·by_cases hs : stays c p
   ·have e1 := B_t hs
    have HS := Lib.hid hs
    clear hs
    go_wp2_with (go_at_call 186; refine (l2Stays_any c p _ hc (by omega)).mono ?_; rintro e w' ⟨rfl, rfl⟩)
    go_roundw
    case rel => exact ⟨p + 1, L, by omega, by omega, by go_num, Lib.hid (hst.out.stay hlt HS.out), hcl, hbl⟩
    case measure => simp [intOf]; omega
   ·have e1 := B_f hs
    have HS := Lib.hid hs
    clear hs
    have c0 := hcl.out.cell (i := p - 1) (by omega)
    have f0 := hcl.out.free (i := p - 1) (by omega)
    have c1 := hcl.out.cell (i := p) hlt
    have f1 := hcl.out.free (i := p) hlt
    have epn : ((p : Int) - 1).toNat = p - 1 := by omega
    go_wp2_with (go_at_call 186; refine (l2Stays_any c p _ hc (by omega)).mono ?_; rintro e w' ⟨rfl, rfl⟩)
    go_roundw
    case rel => exact ⟨p + 2, L ++ [p], by omega, by omega, by go_num, Lib.hid (hst.out.swap hp1 hlt HS.out), Lib.hid (pt_cells hst.out.2 hp1 hlt hcl.out), Lib.hid ((hbl.out.setCell (p := ⟨w.heap.size, p - 1, none⟩) (Nat.le_refl _) _).setCell (p := ⟨w.heap.size, p, none⟩) (Nat.le_refl _) _)⟩
    case measure => simp [intOf]; omega
  ·have hL := hst.out.done (by omega)
   have HL := Lib.hid hL
   clear hL
   have hcv := hcl.out
   have hs := hcv.str (P := Tryz.prog) (ptL L n) (ptL_len L n) (fun i hi => by simp [ptL]) 22 5 9 cc rfl rfl rfl
   clear hcv
   go_wp2
   go_ret
   exact ⟨ret_str (by unfold chgS ptS; rw [HL.out]), hbl.out⟩
theorem l2Apply_any (a c : ByteArray) (w : World) (ha : isRow a) (hc : c.size ≤ 1048576) :
  Calls Tryz.prog 134 #[.string a, .string c] w fun e w' => e = .returned (.string (timesS a (chgS a.size c))) ∧ Below w.heap.size w w' := by
 have h3 := ha.1
 have h8 := ha.2.1
 have hsz : Hid ((chgS a.size c).size = a.size) := Lib.hid (ptS_size _ _)
 have hbd : Hid (∀ i : Nat, i < (chgS a.size c).size → 49 ≤ bat (chgS a.size c) i ∧ bat (chgS a.size c) i < 49 + a.size) := Lib.hid (by
  have hr := ptS_row (swL_bd c a.size) (swL_sep c a.size) h3 h8
  intro i hi
  have := hr.2.2.1 i hi
  rw [ptS_size] at this; exact this)
 have hle : (chgS a.size c).size ≤ 1000000 := by have := hsz.out; omega
 clear ha
 go_enter Tryz.func134, Tryz.ntmps134
 go_wp2_with (first | (go_at_call 166; refine (l2Row_any a.size c _ h3 h8 hc).mono ?_; rintro e w1 ⟨rfl, hb1⟩) | (go_at_call 165; refine (l1Times_any a (chgS a.size c) _ hle (by omega) hbd.out).mono ?_; rintro e w2 ⟨rfl, rfl⟩))
 go_ret
 exact ⟨rfl, hb1⟩
theorem l24Moved_any (n : Nat) (c : ByteArray) (p : Nat) (w : World) (h3 : 3 ≤ n) (h8 : n ≤ 8) (hc : c.size ≤ 1048576) (hp1 : 1 ≤ p) (hpn : p ≤ n) :
  Calls Tryz.prog 136 #[.int .i64 (n : Int), .string c, .int .i64 (p : Int)] w fun e w' => e = .returned (.int .i64 (mvP n c p : Nat)) ∧ Below w.heap.size w w' := by
 have hpl : Hid (placeS (chgS n c) p = (mvP n c p : Nat)) := Lib.hid (ptS_place (swL_bd c n) (swL_sep c n) h3 h8 hp1 hpn)
 have hrow : Hid (isRow (chgS n c)) := Lib.hid (ptS_row (swL_bd c n) (swL_sep c n) h3 h8)
 go_enter Tryz.func136, Tryz.ntmps136
 go_wp2_with (first | (go_at_call 166; refine (l2Row_any n c _ h3 h8 hc).mono ?_; rintro e w1 ⟨rfl, hb1⟩) | (go_at_call 130; refine (l5Place_any (chgS n c) (p : Int) _ hrow.out (by omega) (by omega)).mono ?_; rintro e w2 ⟨rfl, rfl⟩))
 go_ret
 exact ⟨ret_int hpl.out, hb1⟩
/-- A change as text: '-' or places. -/
def chgTxt (c : ByteArray) : Prop := c = dash ∨ digsP c
theorem changeP.txt {n : Int} {c : ByteArray} (h : changeP n c) : chgTxt c := by
 rcases h.2 with h2 | h2
 ·exact .inl h2.1
 ·exact .inr ((change_iff h.1).1 h2.2).1
theorem stays_dash (p : Nat) : ¬ stays dash p := fun ⟨i, hi, e⟩ => by
 have : i = 0 := by rw [dash_size] at hi; omega
 subst this
 have e2 : bat dash 0 = 45 := rfl
 rw [show ((0 : Nat) : Int) = 0 from rfl, e2] at e
 omega
theorem stays_dg {c : ByteArray} {p : Nat} : hasUpTo (dgL c) (dgL c).length p ↔ stays c p := by
 constructor
 ·rintro ⟨j, h1, _, h3⟩
  rw [dgL_at] at h3
  exact ⟨j, by rw [dgL_len] at h1; exact h1, h3⟩
 ·rintro ⟨i, hi, e⟩
  exact ⟨i, by rw [dgL_len]; exact hi, by rw [dgL_len]; exact hi, by rw [dgL_at]; exact e⟩
theorem placesOf_any (c : ByteArray) (w : World) (hc : c.size ≤ 1048576) (ht : chgTxt c) :
  Calls Tryz.prog 184 #[.string c] w fun e w' => ∃ (A : Option Addr) (c2 : Nat) (L : List Int), e = .returned (.slice A L.length c2) ∧ L.length ≤ 1048576 ∧ OwnL w' w.heap.size w'.heap.size A 1 encInt L ∧ (∀ p : Nat, hasUpTo L L.length p ↔ stays c p) ∧ Below w.heap.size w w' := by
 by_cases hd : c = dash
 ·subst hd
  have e1 : (dash.toList == [45]) = true := by decide +kernel
  have hst : Hid (∀ p : Nat, hasUpTo [] ([] : List Int).length p ↔ stays dash p) := Lib.hid (fun p => ⟨fun ⟨j, h, _⟩ => by simp at h, fun h => absurd h (stays_dash p)⟩)
  go_enter Tryz.func184, Tryz.ntmps184
  go_wp2
  go_ret
  exact ⟨_, _, [], rfl, by simp, .inl rfl, hst.out, (Below.refl _ _).alloc (Nat.le_refl _) _⟩
 ·have e1 := toList_dash hd
  have hg := ht.resolve_left hd
  have Hp := Lib.hid (places_t c w hc hg)
  have hlen : Hid ((dgL c).length ≤ 1048576) := Lib.hid (by rw [dgL_len]; exact hc)
  have hst : Hid (∀ p : Nat, hasUpTo (dgL c) (dgL c).length p ↔ stays c p) := Lib.hid (fun p => stays_dg)
  generalize dgL c = D at *
  clear hd ht hg
  go_enter Tryz.func184, Tryz.ntmps184
  go_wp2_with (go_at_call 158; refine Hp.out.mono ?_; rintro e w1 ⟨A, c2, rfl, ho, hb1⟩)
  go_ret
  exact ⟨A, c2, D, rfl, hlen.out, ho, hst.out, hb1⟩
set_option maxHeartbeats 1600000 in
theorem swapsOf_any (n : Nat) (c : ByteArray) (w : World) (h3 : 3 ≤ n) (h8 : n ≤ 8) (hc : c.size ≤ 1048576) (ht : chgTxt c) :
  Calls Tryz.prog 164 #[.int .i64 (n : Int), .string c] w fun e w' => ∃ (A : Option Addr) (c2 : Nat), e = .returned (.slice A (natI (swL c n)).length c2) ∧ OwnL w' w.heap.size w'.heap.size A 1 encInt (natI (swL c n)) ∧ Below w.heap.size w w' := by
 have HP := Lib.hid (placesOf_any c w hc ht)
 clear ht
 go_enter Tryz.func164, Tryz.ntmps164
 go_wp2_with (go_at_call 184; refine HP.out.mono ?_; rintro e w1 ⟨A1, c1, D, rfl, hD, ho1, hst1, hb1⟩; have HO1 := Lib.hid (ho1.rd encInt_len); have Hst := Lib.hid hst1; have HB1 := Lib.hid hb1; have hs1 := hb1.size; clear ho1 hst1 hb1)
 go_loopw [6, 7] (fun v i wr => ∃ (p : Nat) (L : List Nat), 1 ≤ p ∧ p ≤ n + 1 ∧ i = .int .i64 p ∧ Hid (SwSt c n p L) ∧ Hid (Grow wr w1.heap.size 3 1 encInt v (natI L)) ∧ Hid (Below w1.heap.size w1 wr)) (fun _ i _ => n + 1 - (intOf i).toNat)
 case atStart => exact ⟨1, [], by omega, by omega, by rfl, Lib.hid (SwSt.start c n), Lib.hid (Grow.empty (Nat.le_refl _)), Lib.hid ((Below.refl _ _).alloc (Nat.le_refl _) _)⟩
 case round =>
  obtain ⟨p, L, hp1, hpn, rfl, hst, hg, hbl⟩ := hrel
  have hgs := hbl.out.size
  by_cases hlt : p < n
  ·have hcon : Hid (∀ b, B (stays c p) = b → Calls Tryz.prog 185 #[.slice A1 D.length c1, .int .i64 (p : Int)] wr fun e w' => e = .returned (.bool b) ∧ wr = w') := Lib.hid (fun b hb => by
    have := containsInt_any D D.length (Nat.le_refl _) A1 c1 (p : Int) wr ((HO1.out.below hbl.out (Nat.le_refl _)).more hgs) (by omega)
    rw [B_iff (Hst.out p), hb] at this; exact this)
   by_cases hs : stays c p
   ·have HS := Lib.hid hs
    have Hc2 := Lib.hid (hcon.out _ (B_t hs))
    clear hs hcon
    go_wp2_with (go_at_call 185; refine Hc2.out.mono ?_; rintro e w2 ⟨rfl, rfl⟩)
    go_roundw
    case rel => exact ⟨p + 1, L, by omega, by omega, by go_num, Lib.hid (hst.out.stay hlt HS.out), hg, hbl⟩
    case measure => simp [intOf]; omega
   ·have HS := Lib.hid hs
    have Hc2 := Lib.hid (hcon.out _ (B_f hs))
    clear hs hcon
    have hLl : Hid (L.length ≤ n) := Lib.hid (by
     have h1 := hst.out.1
     have h2 : L.length ≤ (swL c n).length := by rw [← h1]; simp
     have h3 : (swL c n).Nodup := (swL_sep c n).imp (fun h => by omega)
     have h4 := nodupN_le (swL c n) n h3 (fun x hx => (swL_bd c n x hx).2)
     omega)
    have hlen : (natI L).length ≤ 8 := by have := hLl.out; rw [natI_len]; omega
    have hone : ∀ u ∈ [Value.int .i64 (p : Int)], u.oneCell' = true := by simp [Value.oneCell']
    have Hone := Lib.hid hone
    clear hone
    go_wp2_with (first | (go_at_call 185; refine Hc2.out.mono ?_; rintro e w2 ⟨rfl, rfl⟩) | (at_builtin; refine wpList_push rfl (.tmp 20) (.tmp 22) 70 rfl w1.heap.size 3 _ 1 8 encInt rfl Int_info rfl (by omega) u6 (natI L) [(p : Int)] 1 rfl rfl (by first | rfl | simp) hg.out rfl encInt_len Hone.out (by simp only [List.length_singleton]; omega) (by omega) (by first | omega | (simp; omega)) ?_; intro v' w9 hg9 hb9 _))
    go_roundw
    case rel => exact ⟨p + 2, L ++ [p], by omega, by omega, by go_num, Lib.hid (hst.out.swap hp1 hlt HS.out), Lib.hid (by simpa [natI] using hg9), Lib.hid (hbl.out.trans hb9)⟩
    case measure => simp [intOf]; omega
  ·have HL := Lib.hid (hst.out.done (by omega))
   obtain ⟨A9, c9, hv, ho⟩ := hg.out.own encInt_len
   go_wp2
   go_ret
   exact ⟨A9, c9, by rw [hv, HL.out]; rfl, by rw [← HL.out]; exact ho.mono hs1 (Nat.le_refl _), HB1.out.trans (hbl.out.mono hs1)⟩
end Go.Proofs.YtkegbbndmfnolaaGreatDoor

/-
 The row that a change makes of rounds, where it brings a place, a row behind a change: contracts of the program.
-/
namespace Go.Proofs.YtkegbbndmfnolaaGreatDoor
open Go.RowKit
set_option linter.unusedVariables false
set_option linter.unusedSimpArgs false
set_option maxRecDepth 100000

theorem sep_take {L : List Nat} (hs : Sep L) (h1 : ∀ r ∈ L, 1 ≤ r) {k : Nat} (hk : k < L.length) : ∀ r ∈ L.take k, r + 1 < L[k] ∧ 1 ≤ r := fun r hr => by
 obtain ⟨j, hj, rfl⟩ := List.getElem_of_mem hr
 rw [List.length_take] at hj
 rw [List.getElem_take]
 exact ⟨List.pairwise_iff_getElem.1 hs j k (by omega) hk (by omega), h1 _ (List.getElem_mem _)⟩
theorem pt_free {L : List Nat} {p : Nat} (h : ∀ r ∈ L, r + 1 < p) : pt L p = p ∧ pt L (p + 1) = p + 1 := by
 unfold pt
 refine ⟨?_, ?_⟩
 ·rw [if_neg (fun hm => by have := h _ hm; omega), if_neg (fun hm => by have := h _ hm.2; omega)]
 ·rw [if_neg (fun hm => by have := h _ hm; omega), if_neg (fun hm => by have := h _ hm.2; omega)]
theorem natI_at {L : List Nat} {k : Nat} (h : k < (natI L).length) : (natI L)[k] = ((L[k]'(by rw [natI_len] at h; exact h) : Nat) : Int) := by simp [natI]
set_option maxHeartbeats 1600000 in
theorem changeRow_any (n : Nat) (c : ByteArray) (w : World) (h3 : 3 ≤ n) (h8 : n ≤ 8) (hc : c.size ≤ 1048576) (ht : chgTxt c) :
  Calls Tryz.prog 163 #[.int .i64 (n : Int), .string c] w fun e w' => e = .returned (.string (chgS n c)) ∧ Below w.heap.size w w' := by
 have hrs : Hid ((roundsS n).size = n) := Lib.hid (by rw [roundsS_size (by omega) (by omega)]; omega)
 have hrb : Hid (∀ i : Nat, i < n → bat (roundsS n) i = 49 + i) := Lib.hid (fun i hi => rounds_bat hi h8)
 have hsw := Lib.hid (fun W => swapsOf_any n c W h3 h8 hc ht)
 have hsep := Lib.hid (swL_sep c n)
 have hbd := Lib.hid (swL_bd c n)
 have hch : Hid (chgS n c = mkS (ptL (swL c n) n)) := Lib.hid rfl
 have hnd : Hid ((swL c n).length ≤ n) := Lib.hid (nodupN_le (swL c n) n ((swL_sep c n).imp (fun h => by omega)) (fun x hx => (swL_bd c n x hx).2))
 generalize chgS n c = R at hch ⊢
 generalize swL c n = L at *
 clear ht
 go_enter Tryz.func163, Tryz.ntmps163
 go_wp2_with (first | (go_at_call 113; refine (rounds_any (n : Int) _ (by omega) (by omega)).mono ?_; rintro e w' ⟨rfl, rfl⟩) | (refine wpList_bytes rfl _ 9 22 5 rfl rfl rfl rfl (roundsS n) rfl ?_; intro cc w2 hc2 hb2; have HC2 := Lib.hid hc2; have HB2 := Lib.hid hb2; have hs2 := hb2.size; clear hc2 hb2) | (go_at_call 164; refine (hsw.out _).mono ?_; rintro e w3 ⟨A, c3, rfl, ho3, hb3⟩; have HO3 := Lib.hid ho3; have HB3 := Lib.hid hb3; have hs3 := hb3.size; clear ho3 hb3))
 have hsz := hrs.out
 have hgw : Hid (w.heap.size < w2.heap.size) := Lib.hid HC2.out.lt
 have HC : Hid (Cells w3 w.heap.size n (fun i => .int .u8 ((48 + pt [] (i + 1) : Nat) : Int))) := Lib.hid (by have hc2 := HC2.out.later HB3.out; rw [hsz] at hc2; exact hc2.congr fun i hi => by rw [hrb.out i hi, pt_nil]; congr 1; omega)
 have HB : Hid (Below w.heap.size w w3) := Lib.hid (HB2.out.trans (HB3.out.mono hs2))
 have hLl : (natI L).length ≤ 8 := by have := hnd.out; rw [natI_len]; omega
 rw [hsz]
 clear hsz HC2
 go_loopw [15] (fun i wr => ∃ k : Nat, k ≤ (natI L).length ∧ i = .int .i64 k ∧ Hid (Cells wr w.heap.size n (fun i => .int .u8 ((48 + pt (L.take k) (i + 1) : Nat) : Int))) ∧ Hid (Chg w.heap.size (w.heap.size + 1) w3 wr)) (fun i _ => (natI L).length - (intOf i).toNat)
 case atStart => exact ⟨0, by omega, by rfl, HC, Lib.hid (Chg.refl _ _ _)⟩
 case round =>
  obtain ⟨k, hk, rfl, hcl, hch2⟩ := hrel
  by_cases hlt : k < (natI L).length
  ·have hkL : k < L.length := by rw [natI_len] at hlt; exact hlt
   have htk := sep_take hsep.out (fun r hr => (hbd.out r hr).1) hkL
   obtain ⟨hp1, hpn⟩ := hbd.out _ (List.getElem_mem hkL)
   have htk2 := List.take_succ_eq_append_getElem hkL
   have hfr := pt_free (fun r hr => (htk r hr).1)
   have hoR := HO3.out.chg hch2.out (.inr (by have := hgw.out; omega))
   obtain ⟨g, hA, _, _, _⟩ := hoR.some_of (by omega)
   subst hA
   have r0 := (hoR.cellInt k hlt).1
   rw [natI_at hlt] at r0
   have Htk := Lib.hid htk
   have Htk2 := Lib.hid htk2
   have c0 := hcl.out.cell (i := L[k] - 1) (by omega)
   have f0 := hcl.out.free (i := L[k] - 1) (by omega)
   have c1 := hcl.out.cell (i := L[k]) hpn
   have f1 := hcl.out.free (i := L[k]) hpn
   rw [show L[k] - 1 + 1 = L[k] by omega, hfr.1] at c0
   rw [hfr.2] at c1
   clear hoR htk htk2 hfr
   generalize L[k] = p at *
   have epn : ((p : Int) - 1).toNat = p - 1 := by omega
   have d0 : wr.cell? ⟨w.heap.size, p - 1, none⟩ = some (.int .u8 (48 + (p : Int))) := by rw [c0]; congr 2
   have d1 : wr.cell? ⟨w.heap.size, p, none⟩ = some (.int .u8 (49 + (p : Int))) := by rw [c1]; congr 2; omega
   clear c0 c1
   go_wp2
   go_region
   go_wp2
   go_roundw
   case rel =>
    refine ⟨k + 1, by omega, by go_num, Lib.hid ?_, Lib.hid (((hch2.out.setCell (p := ⟨w.heap.size, p - 1, none⟩) (Nat.le_refl _) (Nat.lt_succ_self _) _).setCell (p := ⟨w.heap.size, p, none⟩) (Nat.le_refl _) (Nat.lt_succ_self _) _).trans (Chg.of_below (Below.refl _ _).drew))⟩
    rw [Htk2.out]
    exact (pt_cells Htk.out hp1 hpn hcl.out).drewN 1
   case measure => simp [intOf]; omega
  ·obtain rfl : k = (natI L).length := by omega
   have hcv := hcl.out
   rw [natI_len, List.take_length] at hcv
   have hs := hcv.str (P := Tryz.prog) (ptL L n) (ptL_len L n) (fun i hi => by simp [ptL]) 22 5 9 cc rfl rfl rfl
   clear hcv
   go_wp2
   go_ret
   exact ⟨ret_str hch.out.symm, Below.chg HB.out hch2.out (Nat.le_refl _) HB.out.size⟩
theorem apply_any (a c : ByteArray) (w : World) (ha : isRow a) (hc : c.size ≤ 1048576) (ht : chgTxt c) :
  Calls Tryz.prog 132 #[.string a, .string c] w fun e w' => e = .returned (.string (timesS a (chgS a.size c))) ∧ Below w.heap.size w w' := by
 have h3 := ha.1
 have h8 := ha.2.1
 have hsz : Hid ((chgS a.size c).size = a.size) := Lib.hid (ptS_size _ _)
 have hbd : Hid (∀ i : Nat, i < (chgS a.size c).size → 49 ≤ bat (chgS a.size c) i ∧ bat (chgS a.size c) i < 49 + a.size) := Lib.hid (by
  have hr := ptS_row (swL_bd c a.size) (swL_sep c a.size) h3 h8
  intro i hi
  have := hr.2.2.1 i hi
  rw [ptS_size] at this; exact this)
 have hle : (chgS a.size c).size ≤ 1000000 := by have := hsz.out; omega
 have hcr := Lib.hid (fun W => changeRow_any a.size c W h3 h8 hc ht)
 clear ha ht
 go_enter Tryz.func132, Tryz.ntmps132
 go_wp2_with (first | (go_at_call 163; refine (hcr.out _).mono ?_; rintro e w1 ⟨rfl, hb1⟩) | (go_at_call 155; refine (times_any a (chgS a.size c) _ hle hbd.out).mono ?_; rintro e w2 ⟨rfl, hb2⟩))
 go_ret
 exact ⟨rfl, hb1.trans (hb2.mono hb1.size)⟩
set_option maxHeartbeats 800000 in
theorem movedTo_any (n : Nat) (c : ByteArray) (p : Nat) (w : World) (h3 : 3 ≤ n) (h8 : n ≤ 8) (hc : c.size ≤ 1048576) (ht : chgTxt c) (hp1 : 1 ≤ p) (hpn : p ≤ n) :
  Calls Tryz.prog 133 #[.int .i64 (n : Int), .string c, .int .i64 (p : Int)] w fun e w' => e = .returned (.int .i64 (mvP n c p : Nat)) ∧ Below w.heap.size w w' := by
 have hsw := Lib.hid (fun W => swapsOf_any n c W h3 h8 hc ht)
 have hsep := Lib.hid (swL_sep c n)
 have hbd := Lib.hid (swL_bd c n)
 have hnd : Hid ((swL c n).length ≤ n) := Lib.hid (nodupN_le (swL c n) n ((swL_sep c n).imp (fun h => by omega)) (fun x hx => (swL_bd c n x hx).2))
 have hmv : Hid (mvP n c p = pt (swL c n) p) := Lib.hid rfl
 generalize mvP n c p = R at *
 generalize swL c n = L at *
 clear ht
 go_enter Tryz.func133, Tryz.ntmps133
 go_wp2_with (go_at_call 164; refine (hsw.out _).mono ?_; rintro e w3 ⟨A, c3, rfl, ho3, hb3⟩; have HO3 := Lib.hid ho3; have HB3 := Lib.hid hb3; clear ho3 hb3)
 have hLl : (natI L).length ≤ 8 := by have := hnd.out; rw [natI_len]; omega
 go_loop [13] (fun i => ∃ k : Nat, k ≤ (natI L).length ∧ i = .int .i64 k ∧ Hid (∀ (j : Nat) (hj : j < L.length), j < k → p ≠ L[j] ∧ p ≠ L[j] + 1)) (fun i => (natI L).length - (intOf i).toNat)
 case atStart => exact ⟨0, by omega, by rfl, Lib.hid (fun j _ h => by omega)⟩
 case round =>
  obtain ⟨k, hk, rfl, hq⟩ := hrel
  by_cases hlt : k < (natI L).length
  ·have hkL : k < L.length := by rw [natI_len] at hlt; exact hlt
   have hbp := hbd.out _ (List.getElem_mem hkL)
   obtain ⟨g, hA, _, _, _⟩ := HO3.out.some_of (by omega)
   have ho := HO3.out
   rw [hA] at ho
   have r0 := (ho.cellInt k hlt).1
   rw [natI_at hlt] at r0
   subst hA
   have Hm : Hid (L[k] ∈ L) := Lib.hid (List.getElem_mem hkL)
   obtain ⟨q, hqe⟩ : ∃ q, Hid (L[k] = q) := ⟨_, Lib.hid rfl⟩
   rw [hqe.out] at r0 Hm hbp
   obtain ⟨hq1, hq2⟩ := hbp
   clear ho
   by_cases c1 : p = q
   ·subst c1
    have hR : Hid ((R : Int) = (p : Int) + 1) := Lib.hid (by rw [hmv.out]; unfold pt; rw [if_pos Hm.out]; simp)
    go_wp2
    go_ret
    exact ⟨ret_int hR.out.symm, HB3.out⟩
   ·have d1 : ((p : Int) == (q : Int)) = false := beq_eq_false_iff_ne.2 (by omega)
    by_cases c2 : p = q + 1
    ·have hR : Hid ((R : Int) = (q : Int)) := Lib.hid (by rw [hmv.out]; unfold pt; rw [if_neg (fun hm => sep_no hsep.out Hm.out (by rw [← c2]; exact hm)), if_pos ⟨hp1, by rw [c2]; simpa using Hm.out⟩]; omega)
     have d2 : ((p : Int) == (q : Int) + 1) = true := beq_iff_eq.2 (by omega)
     clear c1 c2
     go_wp2
     go_ret
     exact ⟨ret_int hR.out.symm, HB3.out⟩
    ·have d2 : ((p : Int) == (q : Int) + 1) = false := beq_eq_false_iff_ne.2 (by omega)
     have C1 := Lib.hid c1
     have C2 := Lib.hid c2
     clear c1 c2
     go_wp2
     go_round
     case rel =>
      refine ⟨k + 1, by omega, by go_num, Lib.hid (fun j hj h1 => ?_)⟩
      rcases Nat.lt_or_eq_of_le (Nat.le_of_lt_succ h1) with h' | rfl
      ·exact hq.out j hj h'
      ·rw [hqe.out]; exact ⟨C1.out, C2.out⟩
     case measure => simp [intOf]; omega
  ·obtain rfl : k = (natI L).length := by omega
   have hR : Hid ((R : Int) = (p : Int)) := Lib.hid (by
    rw [hmv.out]; unfold pt
    have h1 : ¬ p ∈ L := fun hm => by
     obtain ⟨j, hj, e⟩ := List.getElem_of_mem hm
     exact (hq.out j hj (by rw [natI_len]; exact hj)).1 e.symm
    have h2 : ¬ (1 ≤ p ∧ p - 1 ∈ L) := fun hm => by
     obtain ⟨j, hj, e⟩ := List.getElem_of_mem hm.2
     exact (hq.out j hj (by rw [natI_len]; exact hj)).2 (by omega)
    rw [if_neg h1, if_neg h2])
   go_wp2
   go_ret
   exact ⟨ret_int hR.out.symm, HB3.out⟩
end Go.Proofs.YtkegbbndmfnolaaGreatDoor
