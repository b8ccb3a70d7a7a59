import Derived.Test.YtkegbbndmfnolaaMBeatsL00
import Derived.Sort.Statements
import Derived.Deep.AppendLies
import Derived.Laws.OwnMore
import Derived.Test.YtkegbbndmfnolaaRows
/-
  The weighted median, in plain words: the least value up to which half of the weight lies.
-/
namespace Go.Proofs.Ytkegbbndmfnolaa
set_option linter.unusedVariables false
set_option linter.unusedSimpArgs false

def sumF {α : Type} (f : α → Int) : List α → Int
  | [] => 0
  | x :: l => f x + sumF f l
section
variable {α : Type}
theorem sumF_append (f : α → Int) (l m : List α) : sumF f (l ++ m) = sumF f l + sumF f m := by
  induction l with
  | nil => simp [sumF]
  | cons x l ih => simp [sumF, ih]; omega
theorem sumF_one (f : α → Int) (x : α) : sumF f [x] = f x := by simp [sumF]
theorem sumF_perm (f : α → Int) {l m : List α} (h : l.Perm m) : sumF f l = sumF f m := by
  induction h with
  | nil => rfl
  | cons x _ ih => simp [sumF, ih]
  | swap x y l => simp [sumF]; omega
  | trans _ _ i1 i2 => exact i1.trans i2
theorem sumF_le (f g : α → Int) (l : List α) (h : ∀ x ∈ l, f x ≤ g x) : sumF f l ≤ sumF g l := by
  induction l with
  | nil => simp [sumF]
  | cons x l ih => have := h x (by simp); have := ih (fun y hy => h y (by simp [hy])); simp [sumF]; omega
theorem sumF_congr (f g : α → Int) (l : List α) (h : ∀ x ∈ l, f x = g x) : sumF f l = sumF g l := by
  induction l with
  | nil => simp [sumF]
  | cons x l ih => have := h x (by simp); have := ih (fun y hy => h y (by simp [hy])); simp [sumF]; omega
theorem sumF_nonneg (f : α → Int) (l : List α) (h : ∀ x ∈ l, 0 ≤ f x) : 0 ≤ sumF f l := by
  induction l with
  | nil => simp [sumF]
  | cons x l ih => have := h x (by simp); have := ih (fun y hy => h y (by simp [hy])); simp [sumF]; omega
theorem sumF_bd (f : α → Int) (c : Int) (l : List α) (h : ∀ x ∈ l, f x ≤ c) : sumF f l ≤ l.length * c := by
  induction l with
  | nil => simp [sumF]
  | cons x l ih =>
    have h1 := h x (by simp); have h2 := ih (fun y hy => h y (by simp [hy]))
    simp only [sumF, List.length_cons]
    rw [show ((l.length + 1 : Nat) : Int) * c = l.length * c + c from by rw [Int.natCast_add, Int.add_mul]; simp]; omega
theorem sumF_zero (f : α → Int) (l : List α) (h : ∀ x ∈ l, f x = 0) : sumF f l = 0 := by
  induction l with
  | nil => simp [sumF]
  | cons x l ih => have := h x (by simp); have := ih (fun y hy => h y (by simp [hy])); simp [sumF]; omega
theorem sumF_map {β : Type} (f : β → Int) (g : α → β) (l : List α) : sumF f (l.map g) = sumF (fun x => f (g x)) l := by
  induction l with
  | nil => rfl
  | cons x l ih => simp [sumF, ih]
end
theorem map_range_getD (l : List Int) : (List.range l.length).map (fun i => l.getD i 0) = l := by
  apply List.ext_getElem
  · simp
  · intro i h1 h2; simp [List.getD_eq_getElem?_getD, h2]
/-- A sum over a list's places is the sum over its elements. -/
theorem sumF_range (g : Int → Int) (l : List Int) : sumF (fun i => g (l.getD i 0)) (List.range l.length) = sumF g l := by
  rw [← sumF_map g (fun i => l.getD i 0), map_range_getD]
theorem sumF_range_succ (f : Nat → Int) (k : Nat) : sumF f (List.range (k + 1)) = sumF f (List.range k) + f k := by
  rw [List.range_succ, sumF_append, sumF_one]
theorem sumF_take_succ {α : Type} (f : α → Int) (l : List α) (k : Nat) (hk : k < l.length) : sumF f (l.take (k + 1)) = sumF f (l.take k) + f l[k] := by
  rw [List.take_succ_eq_append_getElem hk, sumF_append, sumF_one]

/-! ### The median -/
/-- The weight of the first k values that are not above v. -/
def wTo (vs ws : List Int) (v : Int) (k : Nat) : Int := sumF (fun i => if vs.getD i 0 ≤ v then ws.getD i 0 else 0) (List.range k)
def wAll (ws : List Int) (k : Nat) : Int := sumF (fun i => ws.getD i 0) (List.range k)
theorem wTo_succ (vs ws : List Int) (v : Int) (k : Nat) : wTo vs ws v (k + 1) = wTo vs ws v k + if vs.getD k 0 ≤ v then ws.getD k 0 else 0 := sumF_range_succ _ _
theorem wAll_succ (ws : List Int) (k : Nat) : wAll ws (k + 1) = wAll ws k + ws.getD k 0 := sumF_range_succ _ _
theorem wTo_zero (vs ws : List Int) (v : Int) : wTo vs ws v 0 = 0 := rfl
theorem wAll_zero (ws : List Int) : wAll ws 0 = 0 := rfl
/-- Half of the weight lies up to v. -/
def halfTo (vs ws : List Int) (v : Int) : Prop := wAll ws vs.length ≤ 2 * wTo vs ws v vs.length
def isMed (vs ws : List Int) (v : Int) : Prop := v ∈ vs ∧ halfTo vs ws v ∧ ∀ u ∈ vs, halfTo vs ws u → v ≤ u
theorem isMed_uniq {vs ws : List Int} {u v : Int} (h : isMed vs ws u) (k : isMed vs ws v) : u = v := by
  have a := h.2.2 v k.1 k.2.1
  have b := k.2.2 u h.1 h.2.1
  omega
noncomputable def medOf (vs ws : List Int) : Int := @dite _ (∃ v, isMed vs ws v) (Classical.propDecidable _) (fun h => h.choose) (fun _ => 0)
theorem medOf_eq {vs ws : List Int} {v : Int} (h : isMed vs ws v) : medOf vs ws = v := by
  unfold medOf
  rw [dif_pos ⟨v, h⟩]
  exact isMed_uniq (Exists.choose_spec ⟨v, h⟩) h
theorem exists_least (p : Int → Prop) : ∀ (l : List Int), (∃ v ∈ l, p v) → ∃ v ∈ l, p v ∧ ∀ u ∈ l, p u → v ≤ u
  | [], h => by simp at h
  | x :: l, h => by
    by_cases hl : ∃ v ∈ l, p v
    · obtain ⟨v, hv, hp, hm⟩ := exists_least p l hl
      by_cases hx : p x ∧ x ≤ v
      · refine ⟨x, by simp, hx.1, fun u hu pu => ?_⟩
        rcases List.mem_cons.1 hu with rfl | hu
        · omega
        · have := hm u hu pu; omega
      · refine ⟨v, by simp [hv], hp, fun u hu pu => ?_⟩
        rcases List.mem_cons.1 hu with rfl | hu
        · by_cases h2 : u ≤ v
          · exact absurd ⟨pu, h2⟩ hx
          · omega
        · exact hm u hu pu
    · obtain ⟨v, hv, hp⟩ := h
      rcases List.mem_cons.1 hv with rfl | hv
      · refine ⟨v, by simp, hp, fun u hu pu => ?_⟩
        rcases List.mem_cons.1 hu with rfl | hu
        · omega
        · exact absurd ⟨u, hu, pu⟩ hl
      · exact absurd ⟨v, hv, hp⟩ hl
theorem exists_most : ∀ (l : List Int), l ≠ [] → ∃ v ∈ l, ∀ u ∈ l, u ≤ v
  | [], h => by simp at h
  | [x], _ => ⟨x, by simp, by simp⟩
  | x :: y :: l, _ => by
    obtain ⟨v, hv, hm⟩ := exists_most (y :: l) (by simp)
    by_cases h : x ≤ v
    · refine ⟨v, List.mem_cons_of_mem _ hv, fun u hu => ?_⟩
      rcases List.mem_cons.1 hu with rfl | hu
      · exact h
      · exact hm u hu
    · refine ⟨x, by simp, fun u hu => ?_⟩
      rcases List.mem_cons.1 hu with rfl | hu
      · omega
      · have := hm u hu; omega
theorem getD_mem {l : List Int} {i : Nat} (h : i < l.length) : l.getD i 0 ∈ l := by
  rw [List.getD_eq_getElem?_getD, List.getElem?_eq_getElem h]; exact List.getElem_mem h
theorem getD_get {l : List Int} {i : Nat} (h : i < l.length) : l.getD i 0 = l[i] := by
  rw [List.getD_eq_getElem?_getD, List.getElem?_eq_getElem h]; rfl
theorem wAll_nonneg {ws : List Int} {k : Nat} (hw : ∀ i, i < k → 0 ≤ ws.getD i 0) : 0 ≤ wAll ws k := sumF_nonneg _ _ fun i hi => hw i (List.mem_range.1 hi)
theorem med_exists {vs ws : List Int} (hne : vs ≠ []) (hw : ∀ i, i < vs.length → 0 ≤ ws.getD i 0) : ∃ v, isMed vs ws v := by
  obtain ⟨m, hm, hmm⟩ := exists_most vs hne
  refine (exists_least (halfTo vs ws) vs ⟨m, hm, ?_⟩).imp fun v h => ⟨h.1, h.2.1, h.2.2⟩
  have e : wTo vs ws m vs.length = wAll ws vs.length := sumF_congr _ _ _ fun i hi => if_pos (hmm _ (getD_mem (List.mem_range.1 hi)))
  have := wAll_nonneg hw
  unfold halfTo; omega
/-- The middle of the sorted values, all weights 1. -/
theorem isMed_of_sorted {vs s ws : List Int} (hp : s.Perm vs) (hw : ∀ i, i < vs.length → ws.getD i 0 = 1) (hs : ∀ (i j : Nat) (hi : i < s.length) (hj : j < s.length), i < j → s[i] ≤ s[j]) (hm : (s.length - 1) / 2 < s.length) :
    isMed vs ws s[(s.length - 1) / 2] := by
  generalize hk : (s.length - 1) / 2 = k at hm ⊢
  have hl := hp.length_eq
  have hone : ∀ (l : List Int), sumF (fun _ => (1 : Int)) l = l.length := fun l => by
    induction l with
    | nil => rfl
    | cons x l ih => simp [sumF, ih]; omega
  have hall : wAll ws vs.length = vs.length := by
    have : wAll ws vs.length = sumF (fun _ => 1) vs := by
      rw [← sumF_range]; exact sumF_congr _ _ _ fun i hi => hw i (List.mem_range.1 hi)
    rw [this, hone]
  have hW : ∀ v, wTo vs ws v vs.length = sumF (fun x => if x ≤ v then (1 : Int) else 0) s := fun v => by
    rw [sumF_perm _ hp, ← sumF_range]
    exact sumF_congr _ _ _ fun i hi => by rw [hw i (List.mem_range.1 hi)]
  refine ⟨hp.mem_iff.1 (List.getElem_mem hm), ?_, fun u hu hh => ?_⟩
  · unfold halfTo
    have e : sumF (fun x => if x ≤ s[k] then (1 : Int) else 0) s = sumF (fun x => if x ≤ s[k] then (1 : Int) else 0) (s.take (k + 1)) + sumF (fun x => if x ≤ s[k] then (1 : Int) else 0) (s.drop (k + 1)) := by
      rw [← sumF_append, List.take_append_drop]
    rw [hall, hW, e]
    have a : sumF (fun x => if x ≤ s[k] then (1 : Int) else 0) (s.take (k + 1)) = sumF (fun _ => 1) (s.take (k + 1)) := sumF_congr _ _ _ fun x hx => by
      obtain ⟨j, hj, rfl⟩ := List.getElem_of_mem hx
      rw [List.length_take] at hj
      rw [List.getElem_take]
      refine if_pos ?_
      rcases Nat.lt_or_ge j k with h | h
      · exact hs j k (by omega) hm h
      · obtain rfl : j = k := by omega
        omega
    have b : 0 ≤ sumF (fun x => if x ≤ s[k] then (1 : Int) else 0) (s.drop (k + 1)) := sumF_nonneg _ _ fun x _ => by split <;> omega
    rw [hone, List.length_take] at a
    omega
  · by_cases c : s[k] ≤ u
    · exact c
    · exfalso
      unfold halfTo at hh
      rw [hall, hW] at hh
      have e : sumF (fun x => if x ≤ u then (1 : Int) else 0) s = sumF (fun x => if x ≤ u then (1 : Int) else 0) (s.take k) + sumF (fun x => if x ≤ u then (1 : Int) else 0) (s.drop k) := by
        rw [← sumF_append, List.take_append_drop]
      have a : sumF (fun x => if x ≤ u then (1 : Int) else 0) (s.drop k) = 0 := sumF_zero _ _ fun x hx => by
        obtain ⟨j, hj, rfl⟩ := List.getElem_of_mem hx
        rw [List.length_drop] at hj
        rw [List.getElem_drop]
        refine if_neg ?_
        rcases Nat.eq_zero_or_pos j with h | h
        · subst h; simpa using c
        · have := hs k (k + j) hm (by omega) (by omega)
          omega
      have b : sumF (fun x => if x ≤ u then (1 : Int) else 0) (s.take k) ≤ sumF (fun _ => (1 : Int)) (s.take k) := sumF_le _ _ _ fun x _ => by split <;> omega
      rw [hone, List.length_take] at b
      omega
end Go.Proofs.Ytkegbbndmfnolaa

/-
  Words of our own that know no program: a slice that reads as a list; a slice of the call's own; cells filled one element after the other.
-/
namespace Go.Proofs.Ytkegbbndmfnolaa
open Go.RowKit
set_option linter.unusedVariables false
set_option linter.unusedSimpArgs false

/-- A slice (its address, its length the list's) reads as a list; each element is so many cells; it lies below block b. -/
def RdL {α : Type} (w : World) (b : Nat) (A : Option Addr) (size : Nat) (enc : α → List Value) (l : List α) : Prop :=
  l = [] ∨ ∃ g off, A = some ⟨g, off, none⟩ ∧ g < b ∧ ∀ (i : Nat) (hi : i < l.length) (j : Nat) (u : Value), (enc l[i])[j]? = some u → w.cell? ⟨g, off + (i * size + j), none⟩ = some u

section
variable {α : Type} {w w' : World} {b b' size : Nat} {A : Option Addr} {enc : α → List Value} {l : List α}
theorem RdL.nil : RdL w b A size enc [] := .inl rfl
theorem RdL.keep (h : RdL w b A size enc l) (hk : ∀ p : Addr, p.block < b → w'.cell? p = w.cell? p) : RdL w' b A size enc l := by
  rcases h with h | ⟨g, off, rfl, hg, hc⟩
  · exact .inl h
  · exact .inr ⟨g, off, rfl, hg, fun i hi j u hu => (hk _ hg).trans (hc i hi j u hu)⟩
theorem RdL.more (h : RdL w b A size enc l) (hb : b ≤ b') : RdL w b' A size enc l := by
  rcases h with h | ⟨g, off, rfl, hg, hc⟩
  · exact .inl h
  · exact .inr ⟨g, off, rfl, by omega, hc⟩
theorem RdL.below {c : Nat} (h : RdL w b A size enc l) (hb : Below c w w') (hc : b ≤ c) : RdL w' b A size enc l := h.keep fun _ hp => hb.cell (Nat.lt_of_lt_of_le hp hc)
theorem RdL.drewN (h : RdL w b A size enc l) (k : Nat) : RdL (w.drewN k) b A size enc l := h
theorem RdL.alloc (h : RdL w b A size enc l) (hb : b ≤ w.heap.size) (o : Obj) : RdL (w.alloc o) b A size enc l := h.keep fun p hp => World.cell?_alloc_lt w o p (by omega)
theorem RdL.setCell (h : RdL w b A size enc l) {p : Addr} (hp : b ≤ p.block) (u : Value) : RdL (w.setCell p u) b A size enc l :=
  h.keep fun q hq => World.cell?_setCell_other w p q u (fun e => by subst e; omega)
/-- The element at a place: its slice's address, and its cells. -/
theorem RdL.at (h : RdL w b A size enc l) {k : Nat} (hk : k < l.length) : ∃ g off, A = some ⟨g, off, none⟩ ∧ g < b ∧ ∀ (j : Nat) (u : Value), (enc l[k])[j]? = some u → w.cell? ⟨g, off + (k * size + j), none⟩ = some u := by
  rcases h with h | ⟨g, off, rfl, hg, hc⟩
  · subst h; simp at hk
  · exact ⟨g, off, rfl, hg, fun j u hu => hc k hk j u hu⟩
end

/-! ### Cells filled one element after the other -/
def updN (f : Nat → Value) (b : Nat) (vs : List Value) : Nat → Value := fun p => if b ≤ p ∧ p < b + vs.length then vs.getD (p - b) undef else f p
theorem updN_nil (f : Nat → Value) (b : Nat) : updN f b [] = f := by funext p; simp only [updN]; rw [if_neg (by simp <;> omega)]
/-- k elements are laid, then what stood there. -/
def fill {α : Type} (enc : α → List Value) (size : Nat) (l : List α) (z : Nat → Value) (k : Nat) : Nat → Value :=
  fun p => if h : p / size < k ∧ p / size < l.length then (enc (l[p / size]'h.2)).getD (p % size) undef else z p
/-- So many values stored one behind the other. -/
def setN (w : World) (g b : Nat) : List Value → World
  | [] => w
  | v :: vs => setN (w.setCell ⟨g, b, none⟩ v) g (b + 1) vs
theorem updN_cons (f : Nat → Value) (b : Nat) (v : Value) (vs : List Value) : updN (upd f b v) (b + 1) vs = updN f b (v :: vs) := by
  funext p
  unfold updN upd
  by_cases h : p = b
  · subst h
    rw [if_neg (by omega), if_pos rfl, if_pos ⟨by omega, by simp <;> omega⟩]
    simp
  · by_cases h2 : b + 1 ≤ p ∧ p < b + 1 + vs.length
    · rw [if_pos h2, if_pos ⟨by omega, by simp <;> omega⟩]
      rw [show p - b = (p - (b + 1)) + 1 from by omega]
      simp
    · rw [if_neg h2, if_neg h, if_neg (by simp <;> omega)]
theorem Cells.setN {g n : Nat} : ∀ (vs : List Value) {w : World} {f : Nat → Value} {b : Nat}, Cells w g n f → b + vs.length ≤ n → Cells (setN w g b vs) g n (updN f b vs)
  | [], w, f, b, h, _ => by rw [updN_nil]; exact h
  | v :: vs, w, f, b, h, hb => by
    simp only [List.length_cons] at hb
    have := Cells.setN vs (b := b + 1) (h.set (i := b) (by omega) v) (by omega)
    rw [updN_cons] at this
    exact this
theorem Below.setN {c g : Nat} {a : World} (hg : c ≤ g) : ∀ (vs : List Value) {w : World} {b : Nat}, Below c a w → Below c a (setN w g b vs)
  | [], w, b, h => h
  | v :: vs, w, b, h => Below.setN hg vs (h.setCell (p := ⟨g, b, none⟩) hg v)
/-! ### A slice of the call's own: its block lies from b on, ahead of c -/
def OwnL {α : Type} (w : World) (b c : Nat) (A : Option Addr) (size : Nat) (enc : α → List Value) (l : List α) : Prop :=
  l = [] ∨ ∃ g f, A = some ⟨g, 0, none⟩ ∧ b ≤ g ∧ g < c ∧ Cells w g (l.length * size) f ∧ ∀ (i : Nat) (hi : i < l.length) (j : Nat) (u : Value), (enc l[i])[j]? = some u → f (i * size + j) = u

/-- Only blocks from b on, ahead of c, and new ones have turned. -/
structure Chg (b c : Nat) (w w' : World) : Prop where
  os : w'.os = w.os
  tape : w'.tape = w.tape
  output : w'.output = w.output
  size : w.heap.size ≤ w'.heap.size
  block : ∀ k, k < w.heap.size → k < b ∨ c ≤ k → w'.heap[k]? = w.heap[k]?

section
variable {w w' w'' : World} {b c b' c' : Nat}
theorem Chg.of_below (h : Below w.heap.size w w') : Chg b c w w' := ⟨h.os, h.tape, h.output, h.size, fun k hk _ => h.block k hk⟩
theorem Chg.refl (b c : Nat) (w : World) : Chg b c w w := Chg.of_below (Below.refl _ _)
theorem Chg.trans (h : Chg b c w w') (k : Chg b c w' w'') : Chg b c w w'' :=
  ⟨k.os.trans h.os, k.tape.trans h.tape, k.output.trans h.output, Nat.le_trans h.size k.size, fun i hi hr => (k.block i (Nat.lt_of_lt_of_le hi h.size) hr).trans (h.block i hi hr)⟩
theorem Chg.mono (h : Chg b c w w') (hb : b' ≤ b) (hc : c ≤ c') : Chg b' c' w w' := ⟨h.os, h.tape, h.output, h.size, fun k hk hr => h.block k hk (by omega)⟩
theorem Chg.setCell {a : World} (h : Chg b c a w) {p : Addr} (hb : b ≤ p.block) (hc : p.block < c) (u : Value) : Chg b c a (w.setCell p u) :=
  ⟨h.os, h.tape, h.output, by simpa using h.size, fun k hk hr => (Below.heap_setCell w p u k (by omega)).trans (h.block k hk hr)⟩
theorem Below.chg {B : Nat} {a : World} (h : Below B a w) (k : Chg b c w w') (hb : B ≤ b) (hB : B ≤ w.heap.size) : Below B a w' :=
  ⟨k.os.trans h.os, k.tape.trans h.tape, k.output.trans h.output, Nat.le_trans h.size k.size, fun i hi => (k.block i (by omega) (by omega)).trans (h.block i hi)⟩
theorem Chg.below {a : World} (h : Chg b c a w) (k : Below w.heap.size w w') : Chg b c a w' := h.trans (Chg.of_below k)
theorem Chg.cell (h : Chg b c w w') {p : Addr} (hp : p.block < w.heap.size) (hr : p.block < b ∨ c ≤ p.block) : w'.cell? p = w.cell? p := World.cell?_of_block (w := w) (h.block p.block hp hr)
theorem Chg.frozen (h : Chg b c w w') {p : Addr} (hp : p.block < w.heap.size) (hr : p.block < b ∨ c ≤ p.block) : w'.frozen? p = w.frozen? p := World.frozen?_of_block (w := w) (h.block p.block hp hr)
theorem Cells.chg {g n : Nat} {f : Nat → Value} (h : Cells w g n f) (k : Chg b c w w') (hr : g < b ∨ c ≤ g) : Cells w' g n f :=
  ⟨Nat.lt_of_lt_of_le h.1 k.size, fun i hi => ⟨(k.cell (p := ⟨g, i, none⟩) h.1 hr).trans (h.2 i hi).1, (k.frozen (p := ⟨g, i, none⟩) h.1 hr).trans (h.2 i hi).2⟩⟩
end

section
variable {α : Type} {w w' : World} {b b' c c' size : Nat} {A : Option Addr} {enc : α → List Value} {l : List α}
theorem RdL.chg {e : Nat} (h : RdL w e A size enc l) (he : e ≤ w.heap.size) (k : Chg b c w w') (hr : e ≤ b) : RdL w' e A size enc l := h.keep fun _ hp => k.cell (by omega) (by omega)
theorem OwnL.nil : OwnL w b c A size enc [] := .inl rfl
theorem idx_lt {i n j size : Nat} (hi : i < n) (hj : j < size) : i * size + j < n * size := by
  have : (i + 1) * size ≤ n * size := Nat.mul_le_mul_right size hi
  rw [Nat.succ_mul] at this; omega
theorem OwnL.rd (h : OwnL w b c A size enc l) (henc : ∀ x, (enc x).length = size) : RdL w w.heap.size A size enc l := by
  rcases h with h | ⟨g, f, rfl, _, _, hc, hf⟩
  · exact .inl h
  · refine .inr ⟨g, 0, rfl, hc.lt, fun i hi j u hu => ?_⟩
    have hj : j < size := by rw [← henc l[i]]; exact (List.getElem?_eq_some_iff.1 hu).1
    rw [Nat.zero_add, hc.cell (idx_lt hi hj), hf i hi j u hu]
theorem OwnL.later (h : OwnL w b c A size enc l) (hb : Below w.heap.size w w') : OwnL w' b c A size enc l := by
  rcases h with h | ⟨g, f, rfl, hg, hg2, hc, hf⟩
  · exact .inl h
  · exact .inr ⟨g, f, rfl, hg, hg2, hc.later hb, hf⟩
theorem OwnL.chg (h : OwnL w b c A size enc l) (k : Chg b' c' w w') (hr : c ≤ b' ∨ c' ≤ b) : OwnL w' b c A size enc l := by
  rcases h with h | ⟨g, f, rfl, hg, hg2, hc, hf⟩
  · exact .inl h
  · exact .inr ⟨g, f, rfl, hg, hg2, hc.chg k (by omega), hf⟩
theorem OwnL.mono (h : OwnL w b c A size enc l) (hb : b' ≤ b) (hc : c ≤ c') : OwnL w b' c' A size enc l := by
  rcases h with h | ⟨g, f, rfl, hg, hg2, hc, hf⟩
  · exact .inl h
  · exact .inr ⟨g, f, rfl, by omega, by omega, hc, hf⟩
/-- The cells of an own slice that is not empty. -/
theorem OwnL.cells (h : OwnL w b c A size enc l) (hl : 0 < l.length) : ∃ g f, A = some ⟨g, 0, none⟩ ∧ b ≤ g ∧ g < c ∧ Cells w g (l.length * size) f := by
  rcases h with h | ⟨g, f, rfl, hg, hg2, hc, hf⟩
  · subst h; simp at hl
  · exact ⟨g, f, rfl, hg, hg2, hc⟩
end

section
variable {P : Program} {ops : Array Oper} {rest : List Oper} {o : Oper} {a : Act} {Q : Exit → Act → World → Prop} {w : World}
end
end Go.Proofs.Ytkegbbndmfnolaa

/-
  Contract of markText: the mark of a number.
-/
namespace Go.Proofs.Ytkegbbndmfnolaa
open Go.RowKit
set_option linter.unusedVariables false
set_option linter.unusedSimpArgs false
set_option maxRecDepth 100000

/-- What a law's size function tells: too large, or what is left. -/
def SzOk (r left : Int) (n : Nat) (sm : Prop) : Prop := r < 0 ∨ (0 ≤ r ∧ r ≤ left ∧ (n : Int) ≤ left ∧ sm)
/-- The decimal digits of a number, none for 0. -/
def digN : Nat → Nat → List Int
  | 0, _ => []
  | f + 1, k => if k = 0 then [] else digN f (k / 10) ++ [48 + ((k % 10 : Nat) : Int)]
def digs (k : Nat) : List Int := digN k k
theorem mkS_app (l m : List Int) : mkS l ++ mkS m = mkS (l ++ m) := by
  apply ByteArray.ext
  simp [mkS, ByteArray.data_append]
/-- The mark of a number from 1 on. -/
def markT (k : Nat) : ByteArray := mkS ([109] ++ digs k)

end Go.Proofs.Ytkegbbndmfnolaa
