/-
  Contracts: prices that keep each bell with the person who rings it (both sides).
-/
import Derived.Test.YtkblldbilofdgaaDoorSkill
namespace Go.Proofs.YtkblldbilofdgaaDoor
open Go.RowKit
set_option linter.unusedVariables false
set_option linter.unusedSimpArgs false
set_option maxRecDepth 100000

theorem RdL.ints {w : World} {b : Nat} {A : Option Addr} {l : List Int} (h : RdL w b A 1 encInt l) (hl : 0 < l.length) :
    ∃ g off, A = some ⟨g, off, none⟩ ∧ g < b ∧ ∀ (m : Nat) (hm : m < l.length), w.cell? ⟨g, off + m, none⟩ = some (.int .i64 l[m]) := by
  obtain ⟨g, off, hA, hg, _⟩ := h.at hl
  refine ⟨g, off, hA, hg, fun m hm => ?_⟩
  obtain ⟨g', off', hA', _, hcell⟩ := h.at hm
  rw [hA] at hA'
  simp only [Option.some.injEq, Addr.mk.injEq, and_true] at hA'
  obtain ⟨rfl, rfl⟩ := hA'
  have := hcell 0 _ rfl; rw [Nat.mul_one] at this; exact this
theorem people_cells {w : World} {b : Nat} {A : Option Addr} {D : List Psn} (h : RdL w b A 2 Psn.enc D) (hl : 0 < D.length) :
    ∃ g off, A = some ⟨g, off, none⟩ ∧ g < b ∧ ∀ (i : Nat) (hi : i < D.length), w.cell? ⟨g, off + i * 2, none⟩ = some (.string D[i].name) ∧ w.cell? ⟨g, off + i * 2 + 1, none⟩ = some (.slice D[i].A D[i].x.length D[i].c) := by
  obtain ⟨g, off, hA, hg, _⟩ := h.at hl
  refine ⟨g, off, hA, hg, fun m hm => ?_⟩
  obtain ⟨g', off', hA', _, hcell⟩ := h.at hm
  rw [hA] at hA'
  simp only [Option.some.injEq, Addr.mk.injEq, and_true] at hA'
  obtain ⟨rfl, rfl⟩ := hA'
  exact ⟨hcell 0 _ rfl, hcell 1 _ rfl⟩
def fairAt (l : List Pk) (who prices : List Int) (i b : Nat) : Prop := 0 < (skAt l i).getD b 0 → (skAt l i).getD b 0 - prices.getD i 0 ≤ skB l who b - prices.getD (who.getD b 0).toNat 0
def fairRow (l : List Pk) (who prices : List Int) (i : Nat) : Prop := (prices.getD i 0 ≠ 0 → hasUpTo who who.length i) ∧ ∀ b, b < who.length → fairAt l who prices i b
def fairP (l : List Pk) (who prices : List Int) : Prop := ∀ i, i < l.length → fairRow l who prices i








end Go.Proofs.YtkblldbilofdgaaDoor
