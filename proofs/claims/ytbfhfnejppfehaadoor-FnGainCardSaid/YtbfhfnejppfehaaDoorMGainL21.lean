import Derived.Test.YtbfhfnejppfehaaDoorMGainL19
import Derived.Test.YtbfhfnejppfehaaDoorMGainL20
import Derived.Test.YtbfhfnejppfehaaDoorRows
import Derived.Test.YtbfhfnejppfehaaDoorMGainL04
import Derived.Test.YtbfhfnejppfehaaDoorMGainL02
/-
  PricesFor of the program returns what the reference's returns, for all arguments: no condition.
-/
namespace Go.Proofs.YtbfhfnejppfehaaDoor
open Go.RowKit
set_option linter.unusedVariables false
set_option linter.unusedSimpArgs false
set_option maxRecDepth 100000






/-- A block of n integers. -/
def Blk (w : World) (g n : Nat) : Prop := ∃ cur, w.heap[g]? = some (.cells cur 3 (0, 0)) ∧ cur.size = n
theorem Blk.later {w w' : World} {g n : Nat} (h : Blk w g n) (hb : Below w.heap.size w w') : Blk w' g n := by
  obtain ⟨cur, h1, h2⟩ := h
  have hlt : g < w.heap.size := by
    rcases Nat.lt_or_ge g w.heap.size with x | x
    · exact x
    · rw [Array.getElem?_eq_none x] at h1; cases h1
  exact ⟨cur, (hb.block g hlt).trans h1, h2⟩
theorem Blk.setCell {w : World} {g n : Nat} (h : Blk w g n) (i : Nat) (u : Value) : Blk (w.setCell ⟨g, i, none⟩ u) g n := by
  obtain ⟨cur, h1, h2⟩ := h
  exact ⟨_, heap_setCell_same w g i cur _ u h1, by simpa using h2⟩
/-- A block that its list fills: as append finds it. -/
theorem OwnL.grow {w : World} {b c g base : Nat} {q : List Int} (h : OwnL w b c (some ⟨g, 0, none⟩) 1 encInt q) (hk : Blk w g q.length) (hb : base ≤ g) (hl : q.length ≤ 1048576) (h0 : 0 < q.length) : Grow w base 3 1 encInt (.slice (some ⟨g, 0, none⟩) q.length q.length) q := by
  obtain ⟨cur, h1, h2⟩ := hk
  refine ⟨flat_len encInt_len q, .inr ⟨g, q.length, cur, rfl, hb, h1, Nat.le_refl _, by unfold maxLen; omega, by omega, ?_⟩⟩
  apply List.ext_getElem?
  intro i
  by_cases hi : i < q.length
  · obtain ⟨hc, _⟩ := h.cellInt i hi
    rw [cell_of_row w g i cur _ (0, 0) h1] at hc
    rw [List.getElem?_take_of_lt (by omega)]
    have := flat_at encInt_len q i hi 0 (.int .i64 q[i]) rfl
    rw [Nat.mul_one, Nat.add_zero] at this
    rw [this]
    simpa using hc
  · have hf := flat_len encInt_len q
    rw [List.getElem?_eq_none (by simp; omega), List.getElem?_eq_none (by omega)]
theorem blk_of {w : World} {g m : Nat} {z : Value} (h : w.ownsRow g 3 1 (.slice (some ⟨g, 0, none⟩) m m) m (List.replicate m z)) : Blk w g m := by
  rcases h.2 with ⟨h1, _⟩ | ⟨q, cap, cur, h1, h2, h3, h4, h5, h6, _⟩
  · cases h1
  · injection h1 with e1 _ e2
    injection e1 with e1
    injection e1 with e1 _ _
    subst e1 e2
    exact ⟨cur, h3, by omega⟩
theorem prL_bd {l : List Pk} {n : Int} (h : bestP l n) (y : List Int) (N : Nat) : (prL l y N).length ≤ 7 := by rw [prL_len]; exact h.1.len
end Go.Proofs.YtbfhfnejppfehaaDoor

/-
  A law's argument of bytes.
-/
namespace Go.Proofs.YtbfhfnejppfehaaDoor
open Go.RowKit Go.ChangeShapes Go.WideShapes
set_option linter.unusedVariables false
set_option linter.unusedSimpArgs false
set_option maxRecDepth 100000
def Byte_small (lim : Int) (x : Int) : Prop := 0 ≤ x ∧ x < 256
theorem Byte_el {H : Type} {en : TypeId × Value → H} {w : World} {base : Nat} {spare : Nat → Bool} {held : Bool} (n : Nat) (cs : List Value) (y : DataW H × List MemPlace) (h : DataW.trod en Tryd.prog w base spare held n 5 cs = some y) : ∃ x : Int, cs = encByte x ∧ Byte_small 9223372036854775807 x := by
  obtain ⟨a, rfl, _, hw⟩ := DataW.trod_int Tryd.underlying5 h
  refine ⟨a, rfl, ?_⟩
  simp [Lit.wf, IntKind.min, IntKind.max, IntKind.signed, IntKind.bits] at hw
  unfold Byte_small; omega
end Go.Proofs.YtbfhfnejppfehaaDoor
