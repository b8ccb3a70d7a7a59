import Derived.Test.YtkegbbndmfnolaaMBeatsL11
import Derived.Test.YtkegbbndmfnolaaMBeatsL13
/-
  FnBeats in plain words: the best gap is among those searched, no gap is better, a shift of all blows shifts the start.
-/
namespace Go.Proofs.Ytkegbbndmfnolaa
open Go.RowKit
set_option linter.unusedVariables false
set_option linter.unusedSimpArgs false
set_option maxRecDepth 100000

theorem gap_at (n hand low : Int) (l : List Blw) : ∀ k : Nat, 0 < k → ∃ j : Nat, j < k ∧ gapF n hand l low k = (startV n (low + j) hand l, low + j, farV n (low + j) hand l)
  | 0, h => absurd h (by omega)
  | k + 1, _ => by
    simp only [gapF]
    split
    · exact ⟨k, by omega, rfl⟩
    · next hn =>
      by_cases hk : k = 0
      · subst hk; exact absurd (.inl (by simp [gapF])) hn
      · obtain ⟨j, h1, h2⟩ := gap_at n hand low l k (by omega)
        exact ⟨j, by omega, h2⟩
theorem gap_le {n low high hand : Int} {l : List Blw} (h : fitGP n l low high hand) : ∀ k : Nat, low + k ≤ high + 1 → ∀ j : Nat, j < k → (gapF n hand l low k).2.2 ≤ farV n (low + j) hand l
  | 0, _, j, hj => absurd hj (by omega)
  | k + 1, hk, j, hj => by
    have ih := gap_le h k (by omega)
    have hb := gapF_bd h k (by omega)
    have hf := far_bd (fitGP_at h (g := low + j) (by omega) (by omega))
    simp only [gapF]
    split
    · next hc =>
      by_cases e : j = k
      · subst e; exact Int.le_refl _
      · have h1 := ih j (by omega)
        have h2 := hb.2.2.2.2.2.2 (by omega)
        show farV n (low + k) hand l ≤ _
        omega
    · next hc =>
      by_cases e : j = k
      · subst e; exact Int.not_lt.1 fun hx => hc (.inr hx)
      · exact ih j (by omega)
/-- What the search for the best gap answers, in the law's words. -/
theorem gap_law {n low high hand : Int} {l : List Blw} (h : fitGP n l low high hand) :
    ∃ g : Int, low ≤ g ∧ g ≤ high ∧ gapF n hand l low (high - low + 1).toNat = (startV n g hand l, g, farV n g hand l) ∧ ∀ x : Int, low ≤ x → x ≤ high → farV n g hand l ≤ farV n x hand l := by
  have hr := h.2.2.1
  obtain ⟨c1, c2, c3, c4⟩ := hr
  obtain ⟨j, h1, h2⟩ := gap_at n hand low l (high - low + 1).toNat (by omega)
  refine ⟨low + j, by omega, by omega, h2, fun x hx1 hx2 => ?_⟩
  have h3 := gap_le h (high - low + 1).toNat (by omega) (x - low).toNat (by omega)
  rw [h2, show low + ((x - low).toNat : Int) = x from by omega] at h3
  exact h3
/-- Blows that all come later. -/
def laterB (d : Int) (x : Blw) : Blw := ⟨x.row, x.place, x.at_ + d⟩
theorem diffL_later (n gap hand d : Int) (l : List Blw) : diffL n gap hand (l.map (laterB d)) = (diffL n gap hand l).map (· + d) := by
  unfold diffL
  rw [List.map_map, List.map_map]
  refine List.map_congr_left fun x _ => ?_
  show x.at_ + d - _ = x.at_ - _ + d
  simp only [laterB]
  omega
theorem wTo_shift (vs ws : List Int) (d v : Int) : wTo (vs.map (· + d)) ws (v + d) vs.length = wTo vs ws v vs.length := by
  unfold wTo
  refine sumF_congr _ _ _ fun i hi => ?_
  have hi' : i < vs.length := List.mem_range.1 hi
  rw [getD_get (by simpa using hi'), getD_get hi', List.getElem_map]
  by_cases hx : vs[i] ≤ v
  · rw [if_pos hx, if_pos (by omega)]
  · rw [if_neg hx, if_neg (by omega)]
theorem halfTo_shift (vs ws : List Int) (d v : Int) : halfTo (vs.map (· + d)) ws (v + d) ↔ halfTo vs ws v := by
  unfold halfTo
  rw [List.length_map, wTo_shift]
theorem isMed_shift {vs ws : List Int} {v : Int} (d : Int) (h : isMed vs ws v) : isMed (vs.map (· + d)) ws (v + d) := by
  refine ⟨List.mem_map.2 ⟨v, h.1, rfl⟩, (halfTo_shift vs ws d v).2 h.2.1, fun u hu hh => ?_⟩
  obtain ⟨u', hu', rfl⟩ := List.mem_map.1 hu
  have := h.2.2 u' hu' ((halfTo_shift vs ws d u').1 hh)
  omega
theorem start_later {n gap hand : Int} {l : List Blw} (d : Int) (h : fitP n l gap hand) : startV n gap hand (l.map (laterB d)) = startV n gap hand l + d := by
  have h1 := isMed_shift d (start_med h)
  unfold startV at h1 ⊢
  rw [diffL_later, List.length_map]
  exact medOf_eq h1
theorem far_later {n gap hand : Int} {l : List Blw} (d : Int) (h : fitP n l gap hand) : farV n gap hand (l.map (laterB d)) = farV n gap hand l := by
  unfold farV
  rw [diffL_later, sumF_map]
  refine sumF_congr _ _ _ fun x _ => ?_
  rw [start_later d h, show x + d - (startV n gap hand l + d) = x - startV n gap hand l from by omega]
theorem gap_later {n low high hand : Int} {l : List Blw} (d : Int) (h : fitGP n l low high hand) : ∀ k : Nat, low + k ≤ high + 1 → (gapF n hand (l.map (laterB d)) low k).2 = (gapF n hand l low k).2 ∧ (0 < k → (gapF n hand (l.map (laterB d)) low k).1 = (gapF n hand l low k).1 + d)
  | 0, _ => ⟨rfl, fun h => absurd h (by omega)⟩
  | k + 1, hk => by
    have ih := gap_later d h k (by omega)
    have hf := fitGP_at h (g := low + k) (by omega) (by omega)
    simp only [gapF]
    rw [ih.1, far_later d hf, start_later d hf]
    split
    · exact ⟨rfl, fun _ => rfl⟩
    · next hn =>
      refine ⟨ih.1, fun _ => ih.2 ?_⟩
      refine Nat.pos_of_ne_zero fun e => ?_
      subst e
      exact hn (.inl (by simp [gapF]))
/-- A shift of all blows shifts the best start alone. -/
theorem gap_shift {n low high hand : Int} {l : List Blw} (d : Int) (h : fitGP n l low high hand) :
    gapF n hand (l.map (laterB d)) low (high - low + 1).toNat = ((gapF n hand l low (high - low + 1).toNat).1 + d, (gapF n hand l low (high - low + 1).toNat).2) := by
  obtain ⟨c1, c2, c3, c4⟩ := h.2.2.1
  have := gap_later d h (high - low + 1).toNat (by omega)
  exact Prod.ext (this.2 (by omega)) this.1
theorem beat_le {n low high most : Int} {l : List Blw} (h : fitBP n l low high most) : ∀ k : Nat, (k : Int) ≤ most → 0 ≤ (beatF n low high l (k + 1)).2 ∧ (beatF n low high l (k + 1)).2 ≤ (gapF n 0 l low (high - low + 1).toNat).2.2
  | 0, hk => by
    have hg := fitBP_at h (k := 0) (by omega)
    have hb := gapF_bd hg (high - low + 1).toNat (by have := hg.2.2.1.2.1; omega)
    have hp : 0 < (high - low + 1).toNat := by have := hg.2.2.1.2.1; omega
    have e0 : (50 * ((0 : Nat) : Int)) = 0 := rfl
    rw [e0] at hb
    have e : beatF n low high l (0 + 1) = (((gapF n 0 l low (high - low + 1).toNat).1, (gapF n 0 l low (high - low + 1).toNat).2.1, 50 * ((0 : Nat) : Int)), (gapF n 0 l low (high - low + 1).toNat).2.2) := by
      have hs : ∀ k : Nat, beatF n low high l (k + 1) = if (beatF n low high l k).2 < 0 ∨ (gapF n (50 * k) l low (high - low + 1).toNat).2.2 < (beatF n low high l k).2 then (((gapF n (50 * k) l low (high - low + 1).toNat).1, (gapF n (50 * k) l low (high - low + 1).toNat).2.1, 50 * (k : Int)), (gapF n (50 * k) l low (high - low + 1).toNat).2.2) else beatF n low high l k := fun k => rfl
      rw [hs 0, if_pos (.inl (by show (-1 : Int) < 0; decide)), e0]
    rw [e]
    exact ⟨hb.2.2.2.2.2.2 hp, Int.le_refl _⟩
  | k + 1, hk => by
    have ih := beat_le h k (by omega)
    have hg := fitBP_at h (k := k + 1) (by omega)
    have hb := gapF_bd hg (high - low + 1).toNat (by have := hg.2.2.1.2.1; omega)
    have hp : 0 < (high - low + 1).toNat := by have := hg.2.2.1.2.1; omega
    have h0 := hb.2.2.2.2.2.2 hp
    rw [beatF]
    split
    · next hc =>
      refine ⟨h0, ?_⟩
      show (gapF n (50 * ((k + 1 : Nat) : Int)) l low (high - low + 1).toNat).2.2 ≤ _
      omega
    · exact ih
end Go.Proofs.Ytkegbbndmfnolaa
