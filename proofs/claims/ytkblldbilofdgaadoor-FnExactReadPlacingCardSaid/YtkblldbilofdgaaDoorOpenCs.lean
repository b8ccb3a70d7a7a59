/-
  A slice inside a value, opened: it reads as a list.
-/
import Derived.Test.YtkblldbilofdgaaDoorOpen
import Derived.Deep.Slices
namespace Go.Proofs.YtkblldbilofdgaaDoor
open Go.RowKit Go.ChangeShapes Go.WideShapes Go.Deep
set_option linter.unusedVariables false
set_option linter.unusedSimpArgs false

section
variable {H : Type} {enc : TypeId × Value → H} {P : Program} {w : World} {base : Nat} {spare : Nat → Bool} {held : Bool}
/-- A slice inside a value, opened: it reads as a list. -/
theorem open_list_cs {α : Type} {t e : TypeId} {n : Nat} {cs0 : List Value} {y : DataW H × List MemPlace} (ht : P.underlying t = some (.slice e)) (C : Nat) (hC : P.cellsOf e = C) (hC0 : 0 < C)
    (en : α → List Value) (ok : α → Prop) (hel : ∀ (n : Nat) (cs : List Value) (y : DataW H × List MemPlace), DataW.trod enc P w base spare held n e cs = some y → ∃ x : α, cs = en x ∧ ok x)
    (h : DataW.trod enc P w base spare held n t cs0 = some y) :
    ∃ (A : Option Addr) (l : List α) (c : Nat), cs0 = [.slice A l.length c] ∧ l.length ≤ maxLen ∧ RdL w w.heap.size A C en l ∧ ∀ x ∈ l, ok x := by
  rcases open_slice ht h with ⟨h0, _⟩ | ⟨a, len', cap', m, n, D, Pl, hcs, _, hl, hm, hmm, _, hi⟩
  · exact ⟨none, [], 0, h0, by simp, .inl rfl, by simp⟩
  · have hle : len' ≤ m := by rw [hmm]; split <;> omega
    obtain ⟨l, hlen, hq⟩ := choose_list (fun i x => (∀ (j : Nat) (u : Value), (en x)[j]? = some u → w.cell? (a.add (i * C + j)) = some u) ∧ ok x) len' (fun i hi' => by
      obtain ⟨cs', hc, ht'⟩ := hi i (by omega)
      obtain ⟨x, rfl, hok⟩ := hel _ _ _ ht'
      rw [hC] at hc
      obtain ⟨_, hcl, hat⟩ := World.cells?_some hc
      refine ⟨x, fun j u hu => ?_, hok⟩
      have hj : j < C := by rw [← hcl]; exact (List.getElem?_eq_some_iff.1 hu).1
      rw [← Go.Deep.add_add, hat j hj, hu])
    subst hlen
    refine ⟨some a, l, cap', hcs, by omega, ?_, fun x hx => ?_⟩
    · rcases Nat.eq_zero_or_pos l.length with h0 | hpos
      · exact .inl (List.eq_nil_of_length_eq_zero h0)
      · obtain ⟨cs', hc, ht'⟩ := hi 0 (by omega)
        obtain ⟨x, rfl, _⟩ := hel _ _ _ ht'
        rw [hC] at hc
        obtain ⟨_, hcl, hat⟩ := World.cells?_some hc
        have h00 := hat 0 hC0
        have hadd : (a.add (0 * C)).add 0 = a := by rw [Nat.zero_mul]; unfold Addr.add; simp
        rw [hadd, List.getElem?_eq_getElem (by omega)] at h00
        have hlt := World.block_lt_of_cell? _ _ h00
        obtain ⟨g, off, sp⟩ := a
        have hsp : sp = none := by
          unfold World.cell? at h00
          split at h00
          · cases sp with
            | none => rfl
            | some _ => simp at h00
          · cases h00
        subst hsp
        refine .inr ⟨g, off, rfl, hlt, fun i hi' j u hu => ?_⟩
        have := (hq i hi').1 j u hu
        have e : (⟨g, off, none⟩ : Addr).add (i * C + j) = ⟨g, off + (i * C + j), none⟩ := by unfold Addr.add; split <;> simp_all
        rw [e] at this
        exact this
    · obtain ⟨i, hi', rfl⟩ := List.getElem_of_mem hx
      exact (hq i hi').2
end

end Go.Proofs.YtkblldbilofdgaaDoor
