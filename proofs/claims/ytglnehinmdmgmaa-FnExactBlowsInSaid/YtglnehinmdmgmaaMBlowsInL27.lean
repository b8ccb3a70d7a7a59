import Derived.Test.YtglnehinmdmgmaaMBlowsInL02
import Derived.Test.YtglnehinmdmgmaaMBlowsInL26
import Derived.Shelf.GgSortFunc.Compose
/-
  An own slice: an element turns in one field; its cells (not beside XSpokenD, which has the same lemmas).
-/
namespace Go.Proofs.Ytglnehinmdmgmaa
open Go.RowKit
set_option linter.unusedVariables false
set_option linter.unusedSimpArgs false

/-- An element of an own slice turns in one field. -/
theorem OwnL.put {α : Type} {enc : α → List Value} {size : Nat} {w : World} {b c g : Nat} {l : List α} (h : OwnL w b c (some ⟨g, 0, none⟩) size enc l) (henc : ∀ x, (enc x).length = size) (k : Nat) (hk : k < l.length) (j : Nat) (hj : j < size) (y : α) (v : Value) (he : enc y = (enc l[k]).set j v) :
    OwnL (w.setCell ⟨g, k * size + j, none⟩ v) b c (some ⟨g, 0, none⟩) size enc (l.set k y) := by
  rcases h with h | ⟨g', f, hA, h1, h2, h3, h4⟩
  · subst h; simp at hk
  · simp only [Option.some.injEq, Addr.mk.injEq, and_true] at hA
    subst hA
    refine .inr ⟨g, _, rfl, h1, h2, by rw [List.length_set]; exact h3.set (i := k * size + j) (idx_lt hk hj) v, fun i hi q u hu => ?_⟩
    have hq : q < size := by rw [← henc ((l.set k y)[i])]; exact (List.getElem?_eq_some_iff.1 hu).1
    have hi' : i < l.length := by simpa using hi
    by_cases e : i = k
    · subst e
      rw [List.getElem_set_self, he] at hu
      by_cases e2 : q = j
      · subst e2
        rw [upd_same]
        rw [List.getElem?_set_self (by rw [henc]; exact hj)] at hu
        exact Option.some.inj hu
      · rw [List.getElem?_set_ne (fun x => e2 x.symm)] at hu
        rw [upd_other _ _ _ _ (by omega)]
        exact h4 i hk q u hu
    · rw [List.getElem_set_ne (fun x => e x.symm)] at hu
      rw [upd_other _ _ _ _ (fun x => e ?_)]
      · exact h4 i hi' q u hu
      · have e1 : (i * size + q) / size = i := by rw [Nat.mul_comm, Nat.mul_add_div (by omega), Nat.div_eq_of_lt hq]; omega
        have e2 : (k * size + j) / size = k := by rw [Nat.mul_comm, Nat.mul_add_div (by omega), Nat.div_eq_of_lt hj]; omega
        rw [x] at e1; omega
/-- An element of an own slice: its cells. -/
theorem OwnL.get {α : Type} {enc : α → List Value} {size : Nat} {w : World} {b c g : Nat} {l : List α} (h : OwnL w b c (some ⟨g, 0, none⟩) size enc l) (henc : ∀ x, (enc x).length = size) (k : Nat) (hk : k < l.length) (j : Nat) (hj : j < size) :
    w.cell? ⟨g, k * size + j, none⟩ = some ((enc l[k]).getD j undef) ∧ w.frozen? ⟨g, k * size + j, none⟩ = false := by
  rcases h with h | ⟨g', f, hA, h1, h2, h3, h4⟩
  · subst h; simp at hk
  · simp only [Option.some.injEq, Addr.mk.injEq, and_true] at hA
    subst hA
    have hx : (enc l[k])[j]? = some ((enc l[k]).getD j undef) := by rw [List.getD_eq_getElem?_getD, List.getElem?_eq_getElem (by rw [henc]; exact hj)]; rfl
    exact ⟨by rw [h3.cell (idx_lt hk hj), h4 k hk j _ hx], h3.free (idx_lt hk hj)⟩
end Go.Proofs.Ytglnehinmdmgmaa

/-
  BlowsIn: what both sides' walks share.
-/
namespace Go.Proofs.Ytglnehinmdmgmaa
open Go.RowKit
set_option linter.unusedVariables false
set_option linter.unusedSimpArgs false
set_option maxRecDepth 100000

section
variable {st gap hand : Int} {rows : List ByteArray} {l : List Stk} {bell s x : Int} {O : List Int}
theorem mbR_ok (h : mbR st gap hand rows l bell s = ((O, x), true)) : O = mof st gap hand rows l s bell ∧ mbP st gap hand rows l ∧ askP (ofL (idealL st gap hand rows rows.length) bell) (ofL l bell) s := by
  unfold mbR at h
  split at h
  · rename_i h1
    unfold bmR at h
    split at h
    · rename_i h2
      injection h with h _
      injection h with h _
      exact ⟨h.symm, h1, h2⟩
    · injection h with _ h; cases h
  · injection h with _ h; cases h
theorem mb_of_bi (h : biP st gap hand rows l s) {k : Nat} (hk : k < sz0 rows) : (mbR st gap hand rows l ((k : Int) + 1) s).2 = true := by
  rw [mbR_y ⟨⟨h.2.2.1, h.1, h.2.2.2.2.1⟩, h.2.2.2.1⟩, bmR_y (h.2.2.2.2.2 k hk)]
theorem bi_of_mb (hR : rowsP rows) (h0 : 0 < rows.length) (h : ∀ j : Nat, j < sz0 rows → (mbR st gap hand rows l ((j : Int) + 1) s).2 = true) : biP st gap hand rows l s := by
  have hz : 3 ≤ sz0 rows := by have := (hR.2 0 h0).1.1; rw [(hR.2 0 h0).2] at this; exact this
  have key : ∀ j : Nat, j < sz0 rows → mbP st gap hand rows l ∧ askP (ofL (idealL st gap hand rows rows.length) ((j : Int) + 1)) (ofL l ((j : Int) + 1)) s := fun j hj => by
    have h1 := h j hj
    obtain ⟨O, x, e⟩ : ∃ O x, mbR st gap hand rows l ((j : Int) + 1) s = ((O, x), true) := ⟨_, _, by rw [← h1]⟩
    exact (mbR_ok e).2
  have h1 := (key 0 (by omega)).1
  exact ⟨hR, h0, h1.1.1, h1.2, h1.1.2.2, fun k hk => (key k hk).2⟩
end
def BiC (R : List Blw × Bool) (w : World) (e : Ending) (w' : World) : Prop := ∃ (A' : Option Addr) (c' : Nat), e = .returned (.tuple #[.slice A' R.1.length c', .bool R.2]) ∧ OwnL w' w.heap.size w'.heap.size A' 3 Blw.enc R.1 ∧ Below w.heap.size w w'
theorem BiC.no {R : List Blw × Bool} {w w' : World} {e : Ending} (hR : R = ([], false)) (he : e = .returned (.tuple #[.slice none 0 0, .bool false])) (hb : Below w.heap.size w w') : BiC R w e w' := by
  subst hR; exact ⟨none, 0, he, .inl rfl, hb⟩
theorem BiC.yes {R : List Blw × Bool} {w w' : World} {e : Ending} {l : List Blw} {A : Option Addr} {c n : Nat} (hR : R = (l, true)) (hn : n = l.length) (he : e = .returned (.tuple #[.slice A n c, .bool true])) (hr : OwnL w' w.heap.size w'.heap.size A 3 Blw.enc l) (hb : Below w.heap.size w w') : BiC R w e w' := by
  subst hR; subst hn; exact ⟨A, c, he, hr, hb⟩
theorem ownL_grown {α : Type} {enc : α → List Value} {size : Nat} {w w' : World} {b c : Nat} {A : Option Addr} {l : List α} {o : Option Nat} (h : OwnL w b c A size enc l) (hg : w.grownBy w' o) (ho : ∀ g, o = some g → g < b ∨ c ≤ g) : OwnL w' b c A size enc l := by
  cases o with
  | none => exact h.later ⟨hg.os, hg.tape, hg.output, hg.size, fun k hk => hg.block k hk (by simp)⟩
  | some g =>
    refine h.chg (b' := g) (c' := g + 1) ⟨hg.os, hg.tape, hg.output, hg.size, fun k hk hr => hg.block k hk (fun e => by injection e with e; omega)⟩ ?_
    have := ho g rfl; omega
end Go.Proofs.Ytglnehinmdmgmaa

/-
  The world behind a sort of the library, in our own words: one block has turned; its cells.
-/
namespace Go.Proofs.Ytglnehinmdmgmaa
open Go.RowKit Go.Sort Go.Shelf
set_option linter.unusedVariables false
set_option linter.unusedSimpArgs false
variable {α : Type} [Inhabited α]

theorem heap_putRow (enc : α → Value) (w : World) (blk off : Nat) (d : Array α) (k : Nat) (hk : k ≠ blk) : (putRow enc w blk off d).heap[k]? = w.heap[k]? := by
  simp only [putRow, mapBlock, Array.getElem?_modify]
  rw [if_neg (fun e => hk e.symm)]
theorem chg_sortWorld (enc : α → Value) (w : World) (blk off n : Nat) (d : Array α) (os : Array Obj) : Chg blk (blk + 1) w (sortWorld enc w blk off n d os) := by
  refine ⟨rfl, rfl, rfl, ?_, fun k hk hr => ?_⟩
  · unfold sortWorld grow
    simp
  · unfold sortWorld grow
    simp only
    rw [Array.getElem?_append_left (by simpa using hk), heap_putRow _ _ _ _ _ _ (by omega)]
    rfl
theorem cells_sortWorld (enc : α → Value) (w : World) (blk n : Nat) (d0 d : Array α) (os : Array Obj) (hblk : blk < w.heap.size) (h0 : Holds enc w blk 0 d0) (hs : d.size = d0.size) :
    Cells (sortWorld enc w blk 0 n d os) blk d.size (fun i => enc d[i]!) := by
  have hh := holds_sortWorld enc w blk 0 n d0 d os hblk h0 hs
  refine ⟨lt_sortWorld enc w blk 0 n d os hblk, fun i hi => ?_⟩
  have := hh i hi
  rw [Nat.zero_add] at this
  exact this
end Go.Proofs.Ytglnehinmdmgmaa
