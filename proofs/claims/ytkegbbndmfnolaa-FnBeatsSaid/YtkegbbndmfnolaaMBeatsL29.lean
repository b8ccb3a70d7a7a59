import Derived.Test.YtkegbbndmfnolaaMBeatsL01
/-
  An own slice: an element turns in one field; its cells (not beside XSpokenD, which has the same lemmas).
-/
namespace Go.Proofs.Ytkegbbndmfnolaa
open Go.RowKit
set_option linter.unusedVariables false
set_option linter.unusedSimpArgs false

/-- An element of an own slice turns in one field. -/
theorem OwnL.put {α : Type} {enc : α → List Value} {size : Nat} {w : World} {b c g : Nat} {l : List α} (h : OwnL w b c (some ⟨g, 0, none⟩) size enc l) (henc : ∀ x, (enc x).length = size) (k : Nat) (hk : k < l.length) (j : Nat) (hj : j < size) (y : α) (v : Value) (he : enc y = (enc l[k]).set j v) :
    OwnL (w.setCell ⟨g, k * size + j, none⟩ v) b c (some ⟨g, 0, none⟩) size enc (l.set k y) := by
  rcases h with h | ⟨g', f, hA, h1, h2, h3, h4⟩
  · subst h; simp at hk
  · simp only [Option.some.injEq, Addr.mk.injEq, and_true] at hA
    subst hA
    refine .inr ⟨g, _, rfl, h1, h2, by rw [List.length_set]; exact h3.set (i := k * size + j) (idx_lt hk hj) v, fun i hi q u hu => ?_⟩
    have hq : q < size := by rw [← henc ((l.set k y)[i])]; exact (List.getElem?_eq_some_iff.1 hu).1
    have hi' : i < l.length := by simpa using hi
    by_cases e : i = k
    · subst e
      rw [List.getElem_set_self, he] at hu
      by_cases e2 : q = j
      · subst e2
        rw [upd_same]
        rw [List.getElem?_set_self (by rw [henc]; exact hj)] at hu
        exact Option.some.inj hu
      · rw [List.getElem?_set_ne (fun x => e2 x.symm)] at hu
        rw [upd_other _ _ _ _ (by omega)]
        exact h4 i hk q u hu
    · rw [List.getElem_set_ne (fun x => e x.symm)] at hu
      rw [upd_other _ _ _ _ (fun x => e ?_)]
      · exact h4 i hi' q u hu
      · have e1 : (i * size + q) / size = i := by rw [Nat.mul_comm, Nat.mul_add_div (by omega), Nat.div_eq_of_lt hq]; omega
        have e2 : (k * size + j) / size = k := by rw [Nat.mul_comm, Nat.mul_add_div (by omega), Nat.div_eq_of_lt hj]; omega
        rw [x] at e1; omega
/-- An element of an own slice: its cells. -/
theorem OwnL.get {α : Type} {enc : α → List Value} {size : Nat} {w : World} {b c g : Nat} {l : List α} (h : OwnL w b c (some ⟨g, 0, none⟩) size enc l) (henc : ∀ x, (enc x).length = size) (k : Nat) (hk : k < l.length) (j : Nat) (hj : j < size) :
    w.cell? ⟨g, k * size + j, none⟩ = some ((enc l[k]).getD j undef) ∧ w.frozen? ⟨g, k * size + j, none⟩ = false := by
  rcases h with h | ⟨g', f, hA, h1, h2, h3, h4⟩
  · subst h; simp at hk
  · simp only [Option.some.injEq, Addr.mk.injEq, and_true] at hA
    subst hA
    have hx : (enc l[k])[j]? = some ((enc l[k]).getD j undef) := by rw [List.getD_eq_getElem?_getD, List.getElem?_eq_getElem (by rw [henc]; exact hj)]; rfl
    exact ⟨by rw [h3.cell (idx_lt hk hj), h4 k hk j _ hx], h3.free (idx_lt hk hj)⟩
end Go.Proofs.Ytkegbbndmfnolaa
