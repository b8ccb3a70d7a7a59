/-
  The plain law of the best placing: the search with a record of the best, and the search that answers the best.
-/
import Derived.Test.YtpedfjcidbopiaaSkill
namespace Go.Proofs.Ytpedfjcidbopiaa
open Go.RowKit
set_option linter.unusedVariables false
set_option linter.unusedSimpArgs false

/-- The sum of the skills of a placing. -/
def sk (l : List Pk) (y : List Int) : Int := skTo l y y.length
/-- Person k may ring the next bell. -/
def usable (l : List Pk) (who : List Int) (k : Nat) : Prop := ¬ hasUpTo who who.length k ∧ (skAt l k).getD who.length 0 ≠ 0
open Classical in
noncomputable def bestTo (l : List Pk) (f : List Int → List Int) (who : List Int) : Nat → List Int
  | 0 => []
  | k + 1 => if usable l who k then (if 0 < (f (who ++ [(k : Int)])).length ∧ ((bestTo l f who k).length = 0 ∨ sk l (bestTo l f who k) < sk l (f (who ++ [(k : Int)]))) then f (who ++ [(k : Int)]) else bestTo l f who k) else bestTo l f who k
noncomputable def best (l : List Pk) : Nat → List Int → List Int
  | 0, who => who
  | d + 1, who => bestTo l (best l d) who l.length
open Classical in
noncomputable def placeTo (l : List Pk) (g : List Int → List Int × Int → List Int × Int) (who : List Int) (st : List Int × Int) : Nat → List Int × Int
  | 0 => st
  | k + 1 => if usable l who k then g (who ++ [(k : Int)]) (placeTo l g who st k) else placeTo l g who st k
noncomputable def placeF (l : List Pk) : Nat → List Int → List Int × Int → List Int × Int
  | 0, who, st => if st.2 < sk l who then (who, sk l who) else st
  | d + 1, who, st => placeTo l (placeF l d) who st l.length
/-- What a record becomes by a placing (none: empty). -/
noncomputable def rec1 (l : List Pk) (y : List Int) (st : List Int × Int) : List Int × Int := if 0 < y.length ∧ st.2 < sk l y then (y, sk l y) else st
theorem rec1_y {l : List Pk} {y : List Int} {st : List Int × Int} (h1 : 0 < y.length) (h2 : st.2 < sk l y) : rec1 l y st = (y, sk l y) := by unfold rec1; rw [if_pos ⟨h1, h2⟩]
theorem rec1_n {l : List Pk} {y : List Int} {st : List Int × Int} (h : ¬ st.2 < sk l y) : rec1 l y st = st := by unfold rec1; rw [if_neg (fun x => h x.2)]
theorem bestTo_no {l : List Pk} {f : List Int → List Int} {who : List Int} {k : Nat} (h : ¬ usable l who k) : bestTo l f who (k + 1) = bestTo l f who k := by simp only [bestTo]; rw [if_neg h]
theorem bestTo_y {l : List Pk} {f : List Int → List Int} {who : List Int} {k : Nat} (h : usable l who k) (h2 : 0 < (f (who ++ [(k : Int)])).length) (h3 : (bestTo l f who k).length = 0 ∨ sk l (bestTo l f who k) < sk l (f (who ++ [(k : Int)]))) : bestTo l f who (k + 1) = f (who ++ [(k : Int)]) := by
  simp only [bestTo]; rw [if_pos h, if_pos ⟨h2, h3⟩]
theorem bestTo_n {l : List Pk} {f : List Int → List Int} {who : List Int} {k : Nat} (h : usable l who k) (h2 : ¬ (0 < (f (who ++ [(k : Int)])).length ∧ ((bestTo l f who k).length = 0 ∨ sk l (bestTo l f who k) < sk l (f (who ++ [(k : Int)]))))) : bestTo l f who (k + 1) = bestTo l f who k := by
  simp only [bestTo]; rw [if_pos h, if_neg h2]
theorem placeTo_no {l : List Pk} {g : List Int → List Int × Int → List Int × Int} {who : List Int} {st : List Int × Int} {k : Nat} (h : ¬ usable l who k) : placeTo l g who st (k + 1) = placeTo l g who st k := by simp only [placeTo]; rw [if_neg h]
theorem placeTo_y {l : List Pk} {g : List Int → List Int × Int → List Int × Int} {who : List Int} {st : List Int × Int} {k : Nat} (h : usable l who k) : placeTo l g who st (k + 1) = g (who ++ [(k : Int)]) (placeTo l g who st k) := by simp only [placeTo]; rw [if_pos h]
theorem placeTo_best (l : List Pk) (f : List Int → List Int) (g : List Int → List Int × Int → List Int × Int) (who : List Int) (st : List Int × Int) (hfg : ∀ k s, g (who ++ [k]) s = rec1 l (f (who ++ [k])) s) : ∀ k, placeTo l g who st k = rec1 l (bestTo l f who k) st
  | 0 => by simp [placeTo, rec1, bestTo]
  | k + 1 => by
    have ih := placeTo_best l f g who st hfg k
    by_cases hu : usable l who k
    · rw [placeTo_y hu, ih, hfg]
      generalize hy : f (who ++ [(k : Int)]) = y
      by_cases hy0 : 0 < y.length
      · by_cases hb : (bestTo l f who k).length = 0
        · rw [bestTo_y hu (by rw [hy]; exact hy0) (.inl hb), hy]
          have : rec1 l (bestTo l f who k) st = st := by unfold rec1; rw [if_neg (by omega)]
          rw [this]
        · by_cases hs : sk l (bestTo l f who k) < sk l y
          · rw [bestTo_y hu (by rw [hy]; exact hy0) (.inr (by rw [hy]; exact hs)), hy]
            by_cases h1 : st.2 < sk l (bestTo l f who k)
            · rw [rec1_y (l := l) (y := bestTo l f who k) (by omega) h1, rec1_y hy0 hs, rec1_y hy0 (by omega)]
            · rw [rec1_n (l := l) (y := bestTo l f who k) h1]
          · rw [bestTo_n hu (by rw [hy]; rintro ⟨_, h | h⟩; exact hb h; exact hs h)]
            by_cases h1 : st.2 < sk l (bestTo l f who k)
            · rw [rec1_y (l := l) (y := bestTo l f who k) (by omega) h1, rec1_n hs]
            · rw [rec1_n (l := l) (y := bestTo l f who k) h1, rec1_n (by omega)]
      · rw [bestTo_n hu (by rw [hy]; exact fun h => hy0 h.1)]
        have : ∀ s, rec1 l y s = s := fun s => by unfold rec1; rw [if_neg (fun h => hy0 h.1)]
        rw [this]
    · rw [placeTo_no hu, bestTo_no hu, ih]
theorem placeF_best (l : List Pk) : ∀ (d : Nat) (who : List Int) (st : List Int × Int), 0 < who.length + d → placeF l d who st = rec1 l (best l d who) st
  | 0, who, st, h => by
    simp only [placeF, best]; unfold rec1
    by_cases h1 : st.2 < sk l who
    · rw [if_pos h1, if_pos ⟨by omega, h1⟩]
    · rw [if_neg h1, if_neg (fun h => h1 h.2)]
  | d + 1, who, st, _ => by
    simp only [placeF, best]
    exact placeTo_best l (best l d) (placeF l d) who st (fun k s => placeF_best l d (who ++ [k]) s (by simp; omega)) l.length
/-! ### What is found is a placing -/
theorem seats_snoc {l : List Pk} {who : List Int} {k : Nat} (h : seatsP l who) (hk : k < l.length) (hu : usable l who k) : seatsP l (who ++ [(k : Int)]) := by
  intro b hb
  rw [List.length_append, List.length_singleton] at hb
  by_cases e : b < who.length
  · have hg : (who ++ [(k : Int)]).getD b 0 = who.getD b 0 := by simp [List.getD, List.getElem?_append_left e]
    have := h b e
    unfold seatAt at this ⊢
    rw [hg]
    refine ⟨this.1, fun ⟨j, h1, h2, h3⟩ => this.2.1 ⟨j, by omega, h2, ?_⟩, this.2.2⟩
    rw [List.getElem_append_left (by omega)] at h3; exact h3
  · obtain rfl : b = who.length := by omega
    have hg : (who ++ [(k : Int)]).getD who.length 0 = k := by simp [List.getD]
    unfold seatAt
    rw [hg]
    refine ⟨⟨by omega, by omega⟩, fun ⟨j, h1, h2, h3⟩ => hu.1 ⟨j, h2, h2, ?_⟩, by rw [Int.toNat_natCast]; exact hu.2⟩
    rw [List.getElem_append_left h2] at h3; exact h3
def fullP (l : List Pk) (N : Nat) (y : List Int) : Prop := y = [] ∨ (seatsP l y ∧ y.length = N)
theorem bestTo_full {l : List Pk} {N : Nat} {f : List Int → List Int} {who : List Int} (hf : ∀ k : Nat, k < l.length → usable l who k → fullP l N (f (who ++ [(k : Int)]))) : ∀ k, k ≤ l.length → fullP l N (bestTo l f who k)
  | 0, _ => .inl rfl
  | k + 1, hk => by
    have ih := bestTo_full hf k (by omega)
    by_cases hu : usable l who k
    · by_cases hc : 0 < (f (who ++ [(k : Int)])).length ∧ ((bestTo l f who k).length = 0 ∨ sk l (bestTo l f who k) < sk l (f (who ++ [(k : Int)])))
      · rw [bestTo_y hu hc.1 hc.2]; exact hf k (by omega) hu
      · rw [bestTo_n hu hc]; exact ih
    · rw [bestTo_no hu]; exact ih
theorem best_full {l : List Pk} {N : Nat} : ∀ (d : Nat) (who : List Int), seatsP l who → who.length + d = N → fullP l N (best l d who)
  | 0, who, hs, hn => .inr ⟨hs, by rw [best]; omega⟩
  | d + 1, who, hs, hn => bestTo_full (fun k hk hu => best_full d _ (seats_snoc hs hk hu) (by simp; omega)) _ (Nat.le_refl _)
theorem seats_nil {l : List Pk} : seatsP l [] := fun b hb => by simp at hb
theorem sk_pos {l : List Pk} {y : List Int} {n : Int} (hp : peopleP l n) (hn : (y.length : Int) = n) (hs : seatsP l y) : 0 < sk l y := by
  have h3 := hp.1.1
  have hb := skTo_bound hp hn hs (y.length - 1) (by omega)
  obtain ⟨i, _, _, _, h2, _⟩ := seats_at hp hn hs (b := y.length - 1) (by omega)
  unfold sk
  rw [show y.length = (y.length - 1) + 1 from by omega]
  simp only [skTo]; omega
end Go.Proofs.Ytpedfjcidbopiaa
