import Derived.Test.YtglnehinmdmgmaaGreatMErrorsL16
import Derived.Test.YtglnehinmdmgmaaGreatMErrorsL01
import Derived.Test.YtglnehinmdmgmaaGreatMErrorsL04
/-
  A table of numbers in the making, row by row from the last one on: words of our own that know no program's code.
-/
namespace Go.Proofs.YtglnehinmdmgmaaGreat
open Go.RowKit
set_option linter.unusedVariables false
set_option linter.unusedSimpArgs false

/-- The outer cells: from row lo on, slices of blocks of their own. -/
def outT (n lo : Nat) (h : Nat → Nat) : Nat → Value := fun i => if lo ≤ i then .slice (some ⟨h i, 0, none⟩) (n + 1) (n + 1) else .slice none 0 0
/-- A table of m + 1 rows of n + 1 numbers; the rows from lo on are there. -/
def TabW (w : World) (g m n lo : Nat) (h : Nat → Nat) (F : Nat → Nat → Int) : Prop :=
  Cells w g (m + 1) (outT n lo h) ∧ ∀ i, lo ≤ i → i ≤ m → g < h i ∧ Cells w (h i) (n + 1) (fun j => .int .i64 (F i j))
def rowT (F : Nat → Nat → Int) (i jlo : Nat) : Nat → Value := fun j => if jlo ≤ j then .int .i64 (F i j) else .int .i64 0
/-- The same, row i in the making: its numbers from place jlo on are there. -/
def RowW (w : World) (g m n i : Nat) (h : Nat → Nat) (F : Nat → Nat → Int) (jlo : Nat) : Prop :=
  Cells w g (m + 1) (outT n i h) ∧ g < h i ∧ Cells w (h i) (n + 1) (rowT F i jlo) ∧ ∀ k, i < k → k ≤ m → g < h k ∧ h k ≠ h i ∧ Cells w (h k) (n + 1) (fun j => .int .i64 (F k j))
section
variable {w w' : World} {g m n lo i jlo : Nat} {h : Nat → Nat} {F : Nat → Nat → Int}
theorem TabW.later (t : TabW w g m n lo h F) (hb : Below w.heap.size w w') : TabW w' g m n lo h F :=
  ⟨t.1.later hb, fun i h1 h2 => ⟨(t.2 i h1 h2).1, (t.2 i h1 h2).2.later hb⟩⟩
theorem RowW.later (t : RowW w g m n i h F jlo) (hb : Below w.heap.size w w') : RowW w' g m n i h F jlo :=
  ⟨t.1.later hb, t.2.1, t.2.2.1.later hb, fun k h1 h2 => ⟨(t.2.2.2 k h1 h2).1, (t.2.2.2 k h1 h2).2.1, (t.2.2.2 k h1 h2).2.2.later hb⟩⟩
theorem TabW.start (hc : Cells w g (m + 1) (fun _ => .slice none 0 0)) (h : Nat → Nat) : TabW w g m n (m + 1) h F :=
  ⟨hc.congr fun i hi => by unfold outT; rw [if_neg (by omega)], fun i h1 h2 => by omega⟩
/-- A new row, all zeros, laid into the table. -/
theorem TabW.row (t : TabW w g m n (i + 1) h F) (hi : i ≤ m) (hc : Cells w' w.heap.size (n + 1) (fun _ => .int .i64 0)) (hb : Below w.heap.size w w') :
    RowW (w'.setCell ⟨g, i, none⟩ (.slice (some ⟨w.heap.size, 0, none⟩) (n + 1) (n + 1))) g m n i (fun k => if k = i then w.heap.size else h k) F (n + 1) := by
  have hg := t.1.lt
  refine ⟨(((t.1.later hb).set (i := i) (by omega) _).congr fun k hk => ?_), ?_, ?_, fun k h1 h2 => ?_⟩
  · unfold outT upd
    by_cases e : k = i
    · subst e; simp
    · simp only [if_neg e]
      by_cases e2 : i ≤ k
      · rw [if_pos e2, if_pos (by omega)]
      · rw [if_neg e2, if_neg (by omega)]
  · simp only [if_pos trivial, ite_true]; exact hg
  · simp only [ite_true]
    exact (hc.other (by show g ≠ _; omega) _).congr fun j hj => by unfold rowT; rw [if_neg (by omega)]
  · have hk := t.2 k (by omega) h2
    have hlt := hk.2.lt
    simp only [if_neg (show ¬ k = i by omega), ite_true]
    exact ⟨hk.1, by omega, (hk.2.later hb).other (by show g ≠ _; have := hk.1; omega) _⟩
theorem RowW.outer (t : RowW w g m n i h F jlo) {k : Nat} (h1 : i ≤ k) (h2 : k ≤ m) : w.cell? ⟨g, k, none⟩ = some (.slice (some ⟨h k, 0, none⟩) (n + 1) (n + 1)) := by
  have := t.1.cell (i := k) (by omega)
  unfold outT at this
  rw [if_pos h1] at this; exact this
theorem RowW.old (t : RowW w g m n i h F jlo) {k j : Nat} (h1 : i < k) (h2 : k ≤ m) (h3 : j ≤ n) : w.cell? ⟨h k, j, none⟩ = some (.int .i64 (F k j)) := (t.2.2.2 k h1 h2).2.2.cell (i := j) (by omega)
theorem RowW.now (t : RowW w g m n i h F jlo) {j : Nat} (h1 : jlo ≤ j) (h3 : j ≤ n) : w.cell? ⟨h i, j, none⟩ = some (.int .i64 (F i j)) := by
  have := t.2.2.1.cell (i := j) (by omega)
  unfold rowT at this
  rw [if_pos h1] at this; exact this
theorem RowW.zero (t : RowW w g m n i h F jlo) {j : Nat} (h1 : j < jlo) (h3 : j ≤ n) : w.cell? ⟨h i, j, none⟩ = some (.int .i64 0) := by
  have := t.2.2.1.cell (i := j) (by omega)
  unfold rowT at this
  rw [if_neg (by omega)] at this; exact this
theorem RowW.free (t : RowW w g m n i h F jlo) {j : Nat} (h3 : j ≤ n) : w.frozen? ⟨h i, j, none⟩ = false := t.2.2.1.free (i := j) (by omega)
/-- A number stored into the row in the making. -/
theorem RowW.store (t : RowW w g m n i h F (jlo + 1)) (hj : jlo ≤ n) {v : Int} (hv : v = F i jlo) : RowW (w.setCell ⟨h i, jlo, none⟩ (.int .i64 v)) g m n i h F jlo := by
  subst hv
  refine ⟨t.1.other (by show h i ≠ g; have := t.2.1; omega) _, t.2.1, (t.2.2.1.set (i := jlo) (by omega) _).congr fun j hj2 => ?_, fun k h1 h2 => ?_⟩
  · unfold rowT upd
    by_cases e : j = jlo
    · subst e; simp
    · simp only [if_neg e]
      by_cases e2 : jlo ≤ j
      · rw [if_pos e2, if_pos (by omega)]
      · rw [if_neg e2, if_neg (by omega)]
  · have hk := t.2.2.2 k h1 h2
    exact ⟨hk.1, hk.2.1, hk.2.2.other (by show h i ≠ h k; exact fun e => hk.2.1 e.symm) _⟩
theorem RowW.close (t : RowW w g m n i h F 0) : TabW w g m n i h F :=
  ⟨t.1, fun k h1 h2 => by
    by_cases e : k = i
    · subst e
      exact ⟨t.2.1, t.2.2.1.congr fun j hj => by unfold rowT; rw [if_pos (Nat.zero_le _)]⟩
    · have := t.2.2.2 k (by omega) h2
      exact ⟨this.1, this.2.2⟩⟩
theorem TabW.outer (t : TabW w g m n lo h F) {k : Nat} (h1 : lo ≤ k) (h2 : k ≤ m) : w.cell? ⟨g, k, none⟩ = some (.slice (some ⟨h k, 0, none⟩) (n + 1) (n + 1)) := by
  have := t.1.cell (i := k) (by omega)
  unfold outT at this
  rw [if_pos h1] at this; exact this
theorem TabW.at (t : TabW w g m n lo h F) {k j : Nat} (h1 : lo ≤ k) (h2 : k ≤ m) (h3 : j ≤ n) : w.cell? ⟨h k, j, none⟩ = some (.int .i64 (F k j)) := (t.2 k h1 h2).2.cell (i := j) (by omega)
end
end Go.Proofs.YtglnehinmdmgmaaGreat

/-
  No number has a smaller weighted sum of distances than the weighted median: plain.
-/
namespace Go.Proofs.YtglnehinmdmgmaaGreat
set_option linter.unusedVariables false
set_option linter.unusedSimpArgs false

def absV (x : Int) : Int := if x < 0 then -x else x
/-- The weighted sum of the distances from x. -/
def farOf (vs ws : List Int) (x : Int) (k : Nat) : Int := sumF (fun i => ws.getD i 0 * absV (vs.getD i 0 - x)) (List.range k)
end Go.Proofs.YtglnehinmdmgmaaGreat

/-
  Contracts: valid values and weights; sums; the weighted median of the reference.
-/
namespace Go.Proofs.YtglnehinmdmgmaaGreat
open Go.RowKit
set_option linter.unusedVariables false
set_option linter.unusedSimpArgs false
set_option maxRecDepth 100000

def valP (vs ws : List Int) : Prop := (vs.length ≤ 400 ∧ allIn vs (-10000000) 10000000) ∧ 0 < vs.length ∧ ws.length = vs.length ∧ allIn ws 1 100
theorem allIn_get {l : List Int} {lo hi : Int} (h : allIn l lo hi) {k : Nat} (hk : k < l.length) : lo ≤ l[k] ∧ l[k] ≤ hi := h _ (List.getElem_mem hk)
theorem allIn_getD {l : List Int} {lo hi : Int} (h : allIn l lo hi) {k : Nat} (hk : k < l.length) : lo ≤ l.getD k 0 ∧ l.getD k 0 ≤ hi := by rw [getD_get hk]; exact allIn_get h hk
end Go.Proofs.YtglnehinmdmgmaaGreat
