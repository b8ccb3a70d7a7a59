/-
  Contracts: the sum of the skills of a placing (both sides).
-/
import Derived.Test.YtkblldbilofdgaaDoorPlacing
namespace Go.Proofs.YtkblldbilofdgaaDoor
open Go.RowKit
set_option linter.unusedVariables false
set_option linter.unusedSimpArgs false
set_option maxRecDepth 100000

/-- The skill on bell b; the sum of the skills on the first k bells. -/
def skB (l : List Pk) (who : List Int) (b : Nat) : Int := (skAt l (who.getD b 0).toNat).getD b 0
def skTo (l : List Pk) (who : List Int) : Nat → Int
  | 0 => 0
  | k + 1 => skTo l who k + skB l who k
theorem people_skill {l : List Pk} {n : Int} (hp : peopleP l n) {i b : Nat} (hi : i < l.length) (hb : (b : Int) < n) : ∃ h : b < (skAt l i).length, 0 ≤ (skAt l i)[b] ∧ (skAt l i)[b] ≤ 9 := by
  have h1 := hp.2.2 i hi
  have h2 : b < (skAt l i).length := by have := h1.2.1; omega
  exact ⟨h2, (h1.2.2.1 _ (List.getElem_mem h2)).1, (h1.2.2.1 _ (List.getElem_mem h2)).2⟩
theorem seats_at {l : List Pk} {who : List Int} {n : Int} (hp : peopleP l n) (hn : (who.length : Int) = n) (hs : seatsP l who) {b : Nat} (hb : b < who.length) :
    ∃ i : Nat, i < l.length ∧ who[b] = (i : Int) ∧ skB l who b = (skAt l i).getD b 0 ∧ 0 < skB l who b ∧ skB l who b ≤ 9 := by
  obtain ⟨h1, _, h3⟩ := hs b hb
  have hg : who.getD b 0 = who[b] := by simp [hb]
  rw [hg] at h1 h3
  obtain ⟨h11, h12⟩ := h1
  obtain ⟨i, hi⟩ := Int.eq_ofNat_of_zero_le h11
  have hil : i < l.length := by omega
  obtain ⟨h2, h4, h5⟩ := people_skill hp hil (b := b) (by omega)
  have he : skB l who b = (skAt l i).getD b 0 := by unfold skB; rw [hg, hi, Int.toNat_natCast]
  rw [hi, Int.toNat_natCast] at h3
  have hq : (skAt l i).getD b 0 = (skAt l i)[b] := by simp [h2]
  exact ⟨i, hil, hi, he, by rw [he]; rw [hq] at h3 ⊢; omega, by rw [he, hq]; omega⟩
theorem skTo_bound {l : List Pk} {who : List Int} {n : Int} (hp : peopleP l n) (hn : (who.length : Int) = n) (hs : seatsP l who) : ∀ k, k ≤ who.length → 0 ≤ skTo l who k ∧ skTo l who k ≤ 9 * k
  | 0, _ => by simp [skTo]
  | k + 1, hk => by
    have h1 := skTo_bound hp hn hs k (by omega)
    obtain ⟨i, _, _, _, h2, h3⟩ := seats_at hp hn hs (b := k) (by omega)
    simp only [skTo]; omega

end Go.Proofs.YtkblldbilofdgaaDoor
