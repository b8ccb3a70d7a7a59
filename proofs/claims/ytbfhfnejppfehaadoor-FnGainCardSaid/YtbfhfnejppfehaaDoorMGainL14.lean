import Derived.Test.YtbfhfnejppfehaaDoorMGainL00
import Derived.Sort.Statements
/-
  The weighted median, in plain words: the least value up to which half of the weight lies.
-/
namespace Go.Proofs.YtbfhfnejppfehaaDoor
set_option linter.unusedVariables false
set_option linter.unusedSimpArgs false

def sumF {α : Type} (f : α → Int) : List α → Int
  | [] => 0
  | x :: l => f x + sumF f l
section
variable {α : Type}
theorem sumF_append (f : α → Int) (l m : List α) : sumF f (l ++ m) = sumF f l + sumF f m := by
  induction l with
  | nil => simp [sumF]
  | cons x l ih => simp [sumF, ih]; omega
theorem sumF_one (f : α → Int) (x : α) : sumF f [x] = f x := by simp [sumF]
theorem sumF_perm (f : α → Int) {l m : List α} (h : l.Perm m) : sumF f l = sumF f m := by
  induction h with
  | nil => rfl
  | cons x _ ih => simp [sumF, ih]
  | swap x y l => simp [sumF]; omega
  | trans _ _ i1 i2 => exact i1.trans i2
theorem sumF_le (f g : α → Int) (l : List α) (h : ∀ x ∈ l, f x ≤ g x) : sumF f l ≤ sumF g l := by
  induction l with
  | nil => simp [sumF]
  | cons x l ih => have := h x (by simp); have := ih (fun y hy => h y (by simp [hy])); simp [sumF]; omega
theorem sumF_congr (f g : α → Int) (l : List α) (h : ∀ x ∈ l, f x = g x) : sumF f l = sumF g l := by
  induction l with
  | nil => simp [sumF]
  | cons x l ih => have := h x (by simp); have := ih (fun y hy => h y (by simp [hy])); simp [sumF]; omega
theorem sumF_nonneg (f : α → Int) (l : List α) (h : ∀ x ∈ l, 0 ≤ f x) : 0 ≤ sumF f l := by
  induction l with
  | nil => simp [sumF]
  | cons x l ih => have := h x (by simp); have := ih (fun y hy => h y (by simp [hy])); simp [sumF]; omega
theorem sumF_bd (f : α → Int) (c : Int) (l : List α) (h : ∀ x ∈ l, f x ≤ c) : sumF f l ≤ l.length * c := by
  induction l with
  | nil => simp [sumF]
  | cons x l ih =>
    have h1 := h x (by simp); have h2 := ih (fun y hy => h y (by simp [hy]))
    simp only [sumF, List.length_cons]
    rw [show ((l.length + 1 : Nat) : Int) * c = l.length * c + c from by rw [Int.natCast_add, Int.add_mul]; simp]; omega
theorem sumF_zero (f : α → Int) (l : List α) (h : ∀ x ∈ l, f x = 0) : sumF f l = 0 := by
  induction l with
  | nil => simp [sumF]
  | cons x l ih => have := h x (by simp); have := ih (fun y hy => h y (by simp [hy])); simp [sumF]; omega
theorem sumF_map {β : Type} (f : β → Int) (g : α → β) (l : List α) : sumF f (l.map g) = sumF (fun x => f (g x)) l := by
  induction l with
  | nil => rfl
  | cons x l ih => simp [sumF, ih]
end
theorem map_range_getD (l : List Int) : (List.range l.length).map (fun i => l.getD i 0) = l := by
  apply List.ext_getElem
  · simp
  · intro i h1 h2; simp [List.getD_eq_getElem?_getD, h2]
/-- A sum over a list's places is the sum over its elements. -/
theorem sumF_range (g : Int → Int) (l : List Int) : sumF (fun i => g (l.getD i 0)) (List.range l.length) = sumF g l := by
  rw [← sumF_map g (fun i => l.getD i 0), map_range_getD]
theorem sumF_range_succ (f : Nat → Int) (k : Nat) : sumF f (List.range (k + 1)) = sumF f (List.range k) + f k := by
  rw [List.range_succ, sumF_append, sumF_one]
theorem sumF_take_succ {α : Type} (f : α → Int) (l : List α) (k : Nat) (hk : k < l.length) : sumF f (l.take (k + 1)) = sumF f (l.take k) + f l[k] := by
  rw [List.take_succ_eq_append_getElem hk, sumF_append, sumF_one]

/-! ### The median -/
/-- The weight of the first k values that are not above v. -/
def wTo (vs ws : List Int) (v : Int) (k : Nat) : Int := sumF (fun i => if vs.getD i 0 ≤ v then ws.getD i 0 else 0) (List.range k)
def wAll (ws : List Int) (k : Nat) : Int := sumF (fun i => ws.getD i 0) (List.range k)
theorem wTo_succ (vs ws : List Int) (v : Int) (k : Nat) : wTo vs ws v (k + 1) = wTo vs ws v k + if vs.getD k 0 ≤ v then ws.getD k 0 else 0 := sumF_range_succ _ _
theorem wAll_succ (ws : List Int) (k : Nat) : wAll ws (k + 1) = wAll ws k + ws.getD k 0 := sumF_range_succ _ _
theorem wTo_zero (vs ws : List Int) (v : Int) : wTo vs ws v 0 = 0 := rfl
theorem wAll_zero (ws : List Int) : wAll ws 0 = 0 := rfl
/-- Half of the weight lies up to v. -/
def halfTo (vs ws : List Int) (v : Int) : Prop := wAll ws vs.length ≤ 2 * wTo vs ws v vs.length
def isMed (vs ws : List Int) (v : Int) : Prop := v ∈ vs ∧ halfTo vs ws v ∧ ∀ u ∈ vs, halfTo vs ws u → v ≤ u
theorem isMed_uniq {vs ws : List Int} {u v : Int} (h : isMed vs ws u) (k : isMed vs ws v) : u = v := by
  have a := h.2.2 v k.1 k.2.1
  have b := k.2.2 u h.1 h.2.1
  omega
noncomputable def medOf (vs ws : List Int) : Int := @dite _ (∃ v, isMed vs ws v) (Classical.propDecidable _) (fun h => h.choose) (fun _ => 0)
theorem medOf_eq {vs ws : List Int} {v : Int} (h : isMed vs ws v) : medOf vs ws = v := by
  unfold medOf
  rw [dif_pos ⟨v, h⟩]
  exact isMed_uniq (Exists.choose_spec ⟨v, h⟩) h
theorem exists_least (p : Int → Prop) : ∀ (l : List Int), (∃ v ∈ l, p v) → ∃ v ∈ l, p v ∧ ∀ u ∈ l, p u → v ≤ u
  | [], h => by simp at h
  | x :: l, h => by
    by_cases hl : ∃ v ∈ l, p v
    · obtain ⟨v, hv, hp, hm⟩ := exists_least p l hl
      by_cases hx : p x ∧ x ≤ v
      · refine ⟨x, by simp, hx.1, fun u hu pu => ?_⟩
        rcases List.mem_cons.1 hu with rfl | hu
        · omega
        · have := hm u hu pu; omega
      · refine ⟨v, by simp [hv], hp, fun u hu pu => ?_⟩
        rcases List.mem_cons.1 hu with rfl | hu
        · by_cases h2 : u ≤ v
          · exact absurd ⟨pu, h2⟩ hx
          · omega
        · exact hm u hu pu
    · obtain ⟨v, hv, hp⟩ := h
      rcases List.mem_cons.1 hv with rfl | hv
      · refine ⟨v, by simp, hp, fun u hu pu => ?_⟩
        rcases List.mem_cons.1 hu with rfl | hu
        · omega
        · exact absurd ⟨u, hu, pu⟩ hl
      · exact absurd ⟨v, hv, hp⟩ hl
theorem exists_most : ∀ (l : List Int), l ≠ [] → ∃ v ∈ l, ∀ u ∈ l, u ≤ v
  | [], h => by simp at h
  | [x], _ => ⟨x, by simp, by simp⟩
  | x :: y :: l, _ => by
    obtain ⟨v, hv, hm⟩ := exists_most (y :: l) (by simp)
    by_cases h : x ≤ v
    · refine ⟨v, List.mem_cons_of_mem _ hv, fun u hu => ?_⟩
      rcases List.mem_cons.1 hu with rfl | hu
      · exact h
      · exact hm u hu
    · refine ⟨x, by simp, fun u hu => ?_⟩
      rcases List.mem_cons.1 hu with rfl | hu
      · omega
      · have := hm u hu; omega
theorem getD_mem {l : List Int} {i : Nat} (h : i < l.length) : l.getD i 0 ∈ l := by
  rw [List.getD_eq_getElem?_getD, List.getElem?_eq_getElem h]; exact List.getElem_mem h
theorem getD_get {l : List Int} {i : Nat} (h : i < l.length) : l.getD i 0 = l[i] := by
  rw [List.getD_eq_getElem?_getD, List.getElem?_eq_getElem h]; rfl
theorem wAll_nonneg {ws : List Int} {k : Nat} (hw : ∀ i, i < k → 0 ≤ ws.getD i 0) : 0 ≤ wAll ws k := sumF_nonneg _ _ fun i hi => hw i (List.mem_range.1 hi)
theorem med_exists {vs ws : List Int} (hne : vs ≠ []) (hw : ∀ i, i < vs.length → 0 ≤ ws.getD i 0) : ∃ v, isMed vs ws v := by
  obtain ⟨m, hm, hmm⟩ := exists_most vs hne
  refine (exists_least (halfTo vs ws) vs ⟨m, hm, ?_⟩).imp fun v h => ⟨h.1, h.2.1, h.2.2⟩
  have e : wTo vs ws m vs.length = wAll ws vs.length := sumF_congr _ _ _ fun i hi => if_pos (hmm _ (getD_mem (List.mem_range.1 hi)))
  have := wAll_nonneg hw
  unfold halfTo; omega
/-- The first place of the sorted places at which half of the weight is reached. -/
theorem isMed_of_order {vs ws : List Int} (o : List Nat) (ho : o.Perm (List.range vs.length)) (hw : ∀ i, i < vs.length → 0 ≤ ws.getD i 0)
    (hs : ∀ (i j : Nat) (hi : i < o.length) (hj : j < o.length), i < j → vs.getD o[i] 0 ≤ vs.getD o[j] 0) (k : Nat) (hk : k < o.length)
    (h1 : 2 * sumF (fun i => ws.getD i 0) (o.take k) < wAll ws vs.length) (h2 : wAll ws vs.length ≤ 2 * sumF (fun i => ws.getD i 0) (o.take (k + 1))) : isMed vs ws (vs.getD o[k] 0) := by
  have hlt : ∀ x ∈ o, x < vs.length := fun x hx => List.mem_range.1 (ho.mem_iff.1 hx)
  have hW : ∀ v, wTo vs ws v vs.length = sumF (fun i => if vs.getD i 0 ≤ v then ws.getD i 0 else 0) (o.take k) + sumF (fun i => if vs.getD i 0 ≤ v then ws.getD i 0 else 0) (o.drop k) := fun v => by
    rw [← sumF_append, List.take_append_drop]; exact (sumF_perm _ ho).symm
  have hW1 : ∀ v, wTo vs ws v vs.length = sumF (fun i => if vs.getD i 0 ≤ v then ws.getD i 0 else 0) (o.take (k + 1)) + sumF (fun i => if vs.getD i 0 ≤ v then ws.getD i 0 else 0) (o.drop (k + 1)) := fun v => by
    rw [← sumF_append, List.take_append_drop]; exact (sumF_perm _ ho).symm
  refine ⟨getD_mem (hlt _ (List.getElem_mem hk)), ?_, fun u hu hh => ?_⟩
  · unfold halfTo
    rw [hW1]
    have a : sumF (fun i => if vs.getD i 0 ≤ vs.getD o[k] 0 then ws.getD i 0 else 0) (o.take (k + 1)) = sumF (fun i => ws.getD i 0) (o.take (k + 1)) := sumF_congr _ _ _ fun x hx => by
      obtain ⟨j, hj, rfl⟩ := List.getElem_of_mem hx
      rw [List.length_take] at hj
      rw [List.getElem_take]
      refine if_pos ?_
      rcases Nat.lt_or_ge j k with h | h
      · exact hs j k (by omega) hk h
      · obtain rfl : j = k := by omega
        omega
    have b : 0 ≤ sumF (fun i => if vs.getD i 0 ≤ vs.getD o[k] 0 then ws.getD i 0 else 0) (o.drop (k + 1)) := sumF_nonneg _ _ fun x hx => by
      split
      · exact hw x (hlt x (List.mem_of_mem_drop hx))
      · omega
    omega
  · by_cases c : vs.getD o[k] 0 ≤ u
    · exact c
    · exfalso
      unfold halfTo at hh
      rw [hW] at hh
      have a : sumF (fun i => if vs.getD i 0 ≤ u then ws.getD i 0 else 0) (o.drop k) = 0 := sumF_zero _ _ fun x hx => by
        obtain ⟨j, hj, rfl⟩ := List.getElem_of_mem hx
        rw [List.length_drop] at hj
        rw [List.getElem_drop]
        refine if_neg ?_
        rcases Nat.eq_zero_or_pos j with h | h
        · subst h; simpa using c
        · have := hs k (k + j) hk (by omega) (by omega)
          omega
      have b : sumF (fun i => if vs.getD i 0 ≤ u then ws.getD i 0 else 0) (o.take k) ≤ sumF (fun i => ws.getD i 0) (o.take k) := sumF_le _ _ _ fun x hx => by
        split
        · exact Int.le_refl _
        · exact hw x (hlt x (List.mem_of_mem_take hx))
      omega
/-- The whole weight is reached at the end. -/
theorem order_all {vs ws : List Int} (o : List Nat) (ho : o.Perm (List.range vs.length)) : sumF (fun i => ws.getD i 0) (o.take o.length) = wAll ws vs.length := by
  rw [List.take_length]; exact sumF_perm _ ho
/-- The middle of the sorted values, all weights 1. -/
theorem isMed_of_sorted {vs s ws : List Int} (hp : s.Perm vs) (hw : ∀ i, i < vs.length → ws.getD i 0 = 1) (hs : ∀ (i j : Nat) (hi : i < s.length) (hj : j < s.length), i < j → s[i] ≤ s[j]) (hm : (s.length - 1) / 2 < s.length) :
    isMed vs ws s[(s.length - 1) / 2] := by
  generalize hk : (s.length - 1) / 2 = k at hm ⊢
  have hl := hp.length_eq
  have hone : ∀ (l : List Int), sumF (fun _ => (1 : Int)) l = l.length := fun l => by
    induction l with
    | nil => rfl
    | cons x l ih => simp [sumF, ih]; omega
  have hall : wAll ws vs.length = vs.length := by
    have : wAll ws vs.length = sumF (fun _ => 1) vs := by
      rw [← sumF_range]; exact sumF_congr _ _ _ fun i hi => hw i (List.mem_range.1 hi)
    rw [this, hone]
  have hW : ∀ v, wTo vs ws v vs.length = sumF (fun x => if x ≤ v then (1 : Int) else 0) s := fun v => by
    rw [sumF_perm _ hp, ← sumF_range]
    exact sumF_congr _ _ _ fun i hi => by rw [hw i (List.mem_range.1 hi)]
  refine ⟨hp.mem_iff.1 (List.getElem_mem hm), ?_, fun u hu hh => ?_⟩
  · unfold halfTo
    have e : sumF (fun x => if x ≤ s[k] then (1 : Int) else 0) s = sumF (fun x => if x ≤ s[k] then (1 : Int) else 0) (s.take (k + 1)) + sumF (fun x => if x ≤ s[k] then (1 : Int) else 0) (s.drop (k + 1)) := by
      rw [← sumF_append, List.take_append_drop]
    rw [hall, hW, e]
    have a : sumF (fun x => if x ≤ s[k] then (1 : Int) else 0) (s.take (k + 1)) = sumF (fun _ => 1) (s.take (k + 1)) := sumF_congr _ _ _ fun x hx => by
      obtain ⟨j, hj, rfl⟩ := List.getElem_of_mem hx
      rw [List.length_take] at hj
      rw [List.getElem_take]
      refine if_pos ?_
      rcases Nat.lt_or_ge j k with h | h
      · exact hs j k (by omega) hm h
      · obtain rfl : j = k := by omega
        omega
    have b : 0 ≤ sumF (fun x => if x ≤ s[k] then (1 : Int) else 0) (s.drop (k + 1)) := sumF_nonneg _ _ fun x _ => by split <;> omega
    rw [hone, List.length_take] at a
    omega
  · by_cases c : s[k] ≤ u
    · exact c
    · exfalso
      unfold halfTo at hh
      rw [hall, hW] at hh
      have e : sumF (fun x => if x ≤ u then (1 : Int) else 0) s = sumF (fun x => if x ≤ u then (1 : Int) else 0) (s.take k) + sumF (fun x => if x ≤ u then (1 : Int) else 0) (s.drop k) := by
        rw [← sumF_append, List.take_append_drop]
      have a : sumF (fun x => if x ≤ u then (1 : Int) else 0) (s.drop k) = 0 := sumF_zero _ _ fun x hx => by
        obtain ⟨j, hj, rfl⟩ := List.getElem_of_mem hx
        rw [List.length_drop] at hj
        rw [List.getElem_drop]
        refine if_neg ?_
        rcases Nat.eq_zero_or_pos j with h | h
        · subst h; simpa using c
        · have := hs k (k + j) hm (by omega) (by omega)
          omega
      have b : sumF (fun x => if x ≤ u then (1 : Int) else 0) (s.take k) ≤ sumF (fun _ => (1 : Int)) (s.take k) := sumF_le _ _ _ fun x _ => by split <;> omega
      rw [hone, List.length_take] at b
      omega
end Go.Proofs.YtbfhfnejppfehaaDoor
