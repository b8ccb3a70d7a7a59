/-
  No number has a smaller weighted sum of distances than the weighted median: plain.
-/
import Derived.Test.YtdecjijldcbnjaaMedian
namespace Go.Proofs.Ytdecjijldcbnjaa
set_option linter.unusedVariables false
set_option linter.unusedSimpArgs false

theorem sumF_sub {α : Type} (f g : α → Int) (l : List α) : sumF (fun x => f x - g x) l = sumF f l - sumF g l := by
  induction l with
  | nil => rfl
  | cons x l ih => simp only [sumF, ih]; omega
theorem sumF_mul {α : Type} (f : α → Int) (c : Int) (l : List α) : sumF (fun x => f x * c) l = sumF f l * c := by
  induction l with
  | nil => simp [sumF]
  | cons x l ih => simp only [sumF, ih, Int.add_mul]
def absV (x : Int) : Int := if x < 0 then -x else x
/-- The weighted sum of the distances from x. -/
def farOf (vs ws : List Int) (x : Int) (k : Nat) : Int := sumF (fun i => ws.getD i 0 * absV (vs.getD i 0 - x)) (List.range k)
theorem far_ge {vs ws : List Int} {m y D : Int} (hD : 0 ≤ D) (f : Nat → Int) (hw : ∀ i, i < vs.length → 0 ≤ ws.getD i 0) (h : ∀ i, i < vs.length → (f i = ws.getD i 0 ∧ absV (vs.getD i 0 - m) + D ≤ absV (vs.getD i 0 - y)) ∨ (f i = - ws.getD i 0 ∧ absV (vs.getD i 0 - m) - D ≤ absV (vs.getD i 0 - y))) (hs : 0 ≤ sumF f (List.range vs.length)) : farOf vs ws m vs.length ≤ farOf vs ws y vs.length := by
  have key : sumF (fun i => f i * D) (List.range vs.length) ≤ sumF (fun i => ws.getD i 0 * absV (vs.getD i 0 - y) - ws.getD i 0 * absV (vs.getD i 0 - m)) (List.range vs.length) := by
    refine sumF_le _ _ _ fun i hi => ?_
    have hi := List.mem_range.1 hi
    rcases h i hi with ⟨e, h1⟩ | ⟨e, h1⟩
    · have := Int.mul_le_mul_of_nonneg_left h1 (hw i hi)
      rw [Int.mul_add] at this
      rw [e]; omega
    · have := Int.mul_le_mul_of_nonneg_left h1 (hw i hi)
      rw [Int.mul_sub] at this
      rw [e, Int.neg_mul]; omega
  rw [sumF_mul, sumF_sub] at key
  have := Int.mul_nonneg hs hD
  unfold farOf
  omega
theorem far_med {vs ws : List Int} {m : Int} (hm : isMed vs ws m) (hw : ∀ i, i < vs.length → 0 ≤ ws.getD i 0) (y : Int) : farOf vs ws m vs.length ≤ farOf vs ws y vs.length := by
  by_cases hy : m ≤ y
  · refine far_ge (D := y - m) (by omega) (fun i => if vs.getD i 0 ≤ m then ws.getD i 0 else - ws.getD i 0) hw (fun i hi => ?_) ?_
    · by_cases hv : vs.getD i 0 ≤ m
      · rw [if_pos hv]; exact .inl ⟨rfl, by unfold absV; (repeat' split) <;> omega⟩
      · rw [if_neg hv]; exact .inr ⟨rfl, by unfold absV; (repeat' split) <;> omega⟩
    · have h1 := hm.2.1
      unfold halfTo wAll wTo at h1
      have : sumF (fun i => if vs.getD i 0 ≤ m then ws.getD i 0 else - ws.getD i 0) (List.range vs.length) = sumF (fun i => if vs.getD i 0 ≤ m then ws.getD i 0 else 0) (List.range vs.length) * 2 - sumF (fun i => ws.getD i 0) (List.range vs.length) := by
        rw [← sumF_mul, ← sumF_sub]
        refine sumF_congr _ _ _ fun i _ => ?_
        split <;> omega
      rw [this]; omega
  · refine far_ge (D := m - y) (by omega) (fun i => if vs.getD i 0 < m then - ws.getD i 0 else ws.getD i 0) hw (fun i hi => ?_) ?_
    · by_cases hv : vs.getD i 0 < m
      · rw [if_pos hv]; exact .inr ⟨rfl, by unfold absV; (repeat' split) <;> omega⟩
      · rw [if_neg hv]; exact .inl ⟨rfl, by unfold absV; (repeat' split) <;> omega⟩
    · have e1 : sumF (fun i => if vs.getD i 0 < m then - ws.getD i 0 else ws.getD i 0) (List.range vs.length) = sumF (fun i => ws.getD i 0) (List.range vs.length) - sumF (fun i => if vs.getD i 0 < m then ws.getD i 0 else 0) (List.range vs.length) * 2 := by
        rw [← sumF_mul, ← sumF_sub]
        refine sumF_congr _ _ _ fun i _ => ?_
        split <;> omega
      rw [e1]
      by_cases hl : vs.filter (fun v => decide (v < m)) = []
      · have : sumF (fun i => if vs.getD i 0 < m then ws.getD i 0 else 0) (List.range vs.length) = 0 := by
          refine sumF_zero _ _ fun i hi => ?_
          have hi := List.mem_range.1 hi
          rw [if_neg]
          intro hlt
          have hmem : vs.getD i 0 ∈ vs := by rw [List.getD_eq_getElem?_getD, List.getElem?_eq_getElem hi]; exact List.getElem_mem hi
          have : vs.getD i 0 ∈ vs.filter (fun v => decide (v < m)) := List.mem_filter.2 ⟨hmem, decide_eq_true (p := vs.getD i 0 < m) hlt⟩
          rw [hl] at this; cases this
        rw [this]
        have := sumF_nonneg (fun i => ws.getD i 0) (List.range vs.length) (fun i hi => hw i (List.mem_range.1 hi))
        omega
      · obtain ⟨v, hv, hmost⟩ := exists_most _ hl
        have hvm := List.mem_filter.1 hv
        have hvlt : v < m := by simpa using hvm.2
        have hnh : ¬ halfTo vs ws v := fun h => by have := hm.2.2 v hvm.1 h; omega
        have e2 : sumF (fun i => if vs.getD i 0 < m then ws.getD i 0 else 0) (List.range vs.length) = wTo vs ws v vs.length := by
          unfold wTo
          refine sumF_congr _ _ _ fun i hi => ?_
          have hi := List.mem_range.1 hi
          by_cases hlt : vs.getD i 0 < m
          · have hmem : vs.getD i 0 ∈ vs := by rw [List.getD_eq_getElem?_getD, List.getElem?_eq_getElem hi]; exact List.getElem_mem hi
            have := hmost (vs.getD i 0) (List.mem_filter.2 ⟨hmem, decide_eq_true (p := vs.getD i 0 < m) hlt⟩)
            rw [if_pos hlt, if_pos this]
          · rw [if_neg hlt, if_neg (by omega)]
        rw [e2]
        unfold halfTo wAll at hnh
        omega
end Go.Proofs.Ytdecjijldcbnjaa
