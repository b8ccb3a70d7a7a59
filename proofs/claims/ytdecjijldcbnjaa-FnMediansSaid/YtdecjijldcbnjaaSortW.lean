/-
  The world behind a sort of the library, in our own words: one block has turned; its cells.
-/
import Derived.Test.YtdecjijldcbnjaaList
import Derived.Shelf.GgSortFunc.Compose
namespace Go.Proofs.Ytdecjijldcbnjaa
open Go.RowKit Go.Sort Go.Shelf
set_option linter.unusedVariables false
set_option linter.unusedSimpArgs false
variable {α : Type} [Inhabited α]

theorem heap_putRow (enc : α → Value) (w : World) (blk off : Nat) (d : Array α) (k : Nat) (hk : k ≠ blk) : (putRow enc w blk off d).heap[k]? = w.heap[k]? := by
  simp only [putRow, mapBlock, Array.getElem?_modify]
  rw [if_neg (fun e => hk e.symm)]
theorem chg_sortWorld (enc : α → Value) (w : World) (blk off n : Nat) (d : Array α) (os : Array Obj) : Chg blk (blk + 1) w (sortWorld enc w blk off n d os) := by
  refine ⟨rfl, rfl, rfl, ?_, fun k hk hr => ?_⟩
  · unfold sortWorld grow
    simp
  · unfold sortWorld grow
    simp only
    rw [Array.getElem?_append_left (by simpa using hk), heap_putRow _ _ _ _ _ _ (by omega)]
    rfl
theorem cells_sortWorld (enc : α → Value) (w : World) (blk n : Nat) (d0 d : Array α) (os : Array Obj) (hblk : blk < w.heap.size) (h0 : Holds enc w blk 0 d0) (hs : d.size = d0.size) :
    Cells (sortWorld enc w blk 0 n d os) blk d.size (fun i => enc d[i]!) := by
  have hh := holds_sortWorld enc w blk 0 n d0 d os hblk h0 hs
  refine ⟨lt_sortWorld enc w blk 0 n d os hblk, fun i hi => ?_⟩
  have := hh i hi
  rw [Nat.zero_add] at this
  exact this
theorem holds_own {β : Type} {w : World} {b c g : Nat} {l : List β} {enc : β → List Value} (e : α → Value) (d : Array α) (h : OwnL w b c (some ⟨g, 0, none⟩) 1 enc l) (hs : d.size = l.length) (he : ∀ i (h1 : i < d.size) (h2 : i < l.length), (enc l[i]) = [e d[i]!]) : Holds e w g 0 d := by
  intro j hj
  rw [Nat.zero_add]
  rcases h with h | ⟨g', f, hA, h1, h2, h3, h4⟩
  · have : l.length = 0 := by rw [h]; rfl
    omega
  · simp only [Option.some.injEq, Addr.mk.injEq, and_true] at hA
    subst hA
    have := h4 j (by omega) 0 (e d[j]!) (by rw [he j hj (by omega)]; rfl)
    have hc := h3.cell (i := j) (by omega)
    rw [Nat.mul_one, Nat.add_zero] at this
    rw [this] at hc
    exact ⟨hc, h3.free (by omega)⟩
end Go.Proofs.Ytdecjijldcbnjaa
