/-
  The row that a change makes of rounds, in plain words: pairs of neighbours that exchange.
-/
import Derived.Test.YtdecjijldcbnjaaL1b
namespace Go.Proofs.Ytdecjijldcbnjaa
open Go.RowKit
set_option linter.unusedVariables false
set_option linter.unusedSimpArgs false

theorem nodupN_le : ∀ (l : List Nat) (n : Nat), l.Nodup → (∀ x ∈ l, x < n) → l.length ≤ n
  | l, 0, _, h => by
    cases l with
    | nil => simp
    | cons x l => have := h x (by simp); omega
  | l, n + 1, hn, h => by
    have h1 := nodupN_le (l.erase n) n (hn.erase n) (fun x hx => by
      have := (hn.mem_erase_iff).1 hx
      have := h x this.2; omega)
    have := List.length_erase (a := n) (l := l)
    split at this <;> omega
/-- A change lets a place stay. -/
def stays (c : ByteArray) (p : Nat) : Prop := ∃ i : Nat, i < c.size ∧ bat c i - 48 = (p : Int)
open Classical in
/-- The lower places of the pairs that exchange, from place p on. -/
noncomputable def swF (c : ByteArray) (n : Nat) : Nat → Nat → List Nat
  | 0, _ => []
  | f + 1, p => if p < n then (if stays c p then swF c n f (p + 1) else p :: swF c n f (p + 2)) else []
theorem swF_fuel (c : ByteArray) (n : Nat) : ∀ (f g p : Nat), n ≤ p + f → n ≤ p + g → swF c n f p = swF c n g p
  | 0, 0, p, _, _ => rfl
  | 0, g + 1, p, h, _ => by simp only [swF]; rw [if_neg (by omega)]
  | f + 1, 0, p, _, h => by simp only [swF]; rw [if_neg (by omega)]
  | f + 1, g + 1, p, h1, h2 => by
    simp only [swF]
    rw [swF_fuel c n f g (p + 1) (by omega) (by omega), swF_fuel c n f g (p + 2) (by omega) (by omega)]
noncomputable def swFrom (c : ByteArray) (n p : Nat) : List Nat := swF c n (n - p) p
noncomputable def swL (c : ByteArray) (n : Nat) : List Nat := swFrom c n 1
theorem swFrom_end {c : ByteArray} {n p : Nat} (h : n ≤ p) : swFrom c n p = [] := by
  unfold swFrom; rw [show n - p = 0 by omega]; rfl
theorem swFrom_stay {c : ByteArray} {n p : Nat} (h : p < n) (hs : stays c p) : swFrom c n p = swFrom c n (p + 1) := by
  unfold swFrom
  obtain ⟨f, hf⟩ : ∃ f, n - p = f + 1 := ⟨n - p - 1, by omega⟩
  rw [hf]; simp only [swF]; rw [if_pos h, if_pos hs]
  exact swF_fuel c n _ _ _ (by omega) (by omega)
theorem swFrom_swap {c : ByteArray} {n p : Nat} (h : p < n) (hs : ¬ stays c p) : swFrom c n p = p :: swFrom c n (p + 2) := by
  unfold swFrom
  obtain ⟨f, hf⟩ : ∃ f, n - p = f + 1 := ⟨n - p - 1, by omega⟩
  rw [hf]; simp only [swF]; rw [if_pos h, if_neg hs]
  rw [swF_fuel c n _ (n - (p + 2)) _ (by omega) (by omega)]
def Sep (L : List Nat) : Prop := L.Pairwise fun a b => a + 1 < b
theorem swFrom_ge (c : ByteArray) (n : Nat) : ∀ (f p : Nat), n ≤ p + f → ∀ q ∈ swFrom c n p, p ≤ q ∧ q < n
  | 0, p, h, q, hq => by rw [swFrom_end (by omega)] at hq; simp at hq
  | f + 1, p, h, q, hq => by
    by_cases hp : p < n
    · by_cases hs : stays c p
      · rw [swFrom_stay hp hs] at hq; have := swFrom_ge c n f (p + 1) (by omega) q hq; omega
      · rw [swFrom_swap hp hs] at hq
        rcases List.mem_cons.1 hq with rfl | hq
        · omega
        · have := swFrom_ge c n f (p + 2) (by omega) q hq; omega
    · rw [swFrom_end (by omega)] at hq; simp at hq
theorem swFrom_sep (c : ByteArray) (n : Nat) : ∀ (f p : Nat), n ≤ p + f → Sep (swFrom c n p)
  | 0, p, h => by rw [swFrom_end (by omega)]; exact List.Pairwise.nil
  | f + 1, p, h => by
    by_cases hp : p < n
    · by_cases hs : stays c p
      · rw [swFrom_stay hp hs]; exact swFrom_sep c n f (p + 1) (by omega)
      · rw [swFrom_swap hp hs]
        exact List.Pairwise.cons (fun q hq => by have := (swFrom_ge c n f (p + 2) (by omega) q hq).1; omega) (swFrom_sep c n f (p + 2) (by omega))
    · rw [swFrom_end (by omega)]; exact List.Pairwise.nil
theorem sep_no : ∀ {L : List Nat}, Sep L → ∀ {a : Nat}, a ∈ L → a + 1 ∈ L → False
  | [], _, a, h, _ => by simp at h
  | x :: L, hs, a, h1, h2 => by
    obtain ⟨hx, hL⟩ := List.pairwise_cons.1 hs
    rcases List.mem_cons.1 h1 with rfl | h1 <;> rcases List.mem_cons.1 h2 with h2 | h2
    · omega
    · have := hx _ h2; omega
    · have := hx _ h1; omega
    · exact sep_no hL h1 h2
/-- Where a place's bell goes. -/
def pt (L : List Nat) (p : Nat) : Nat := if p ∈ L then p + 1 else if 1 ≤ p ∧ p - 1 ∈ L then p - 1 else p
theorem pt_nil (p : Nat) : pt [] p = p := by simp [pt]
theorem pt_snoc {L : List Nat} {q : Nat} (h : ∀ r ∈ L, r + 1 < q) (p : Nat) (hp : 1 ≤ p) : pt (L ++ [q]) p = if p = q then q + 1 else if p = q + 1 then q else pt L p := by
  unfold pt
  simp only [List.mem_append, List.mem_singleton]
  by_cases e1 : p = q
  · subst e1; simp
  · rw [if_neg e1]
    by_cases e2 : p = q + 1
    · subst e2
      have : ¬ (q + 1 ∈ L) := fun hm => by have := h _ hm; omega
      rw [if_pos rfl, if_neg (by simp [this]), if_pos ⟨by omega, by right; omega⟩]; omega
    · rw [if_neg e2]
      have : ¬ p - 1 = q ∨ p = 0 := by omega
      by_cases m1 : p ∈ L
      · rw [if_pos (.inl m1), if_pos m1]
      · rw [if_neg (by simp [m1, e1]), if_neg m1]
        by_cases m2 : p - 1 ∈ L
        · rw [if_pos ⟨hp, .inl m2⟩, if_pos ⟨hp, m2⟩]
        · rw [if_neg (by rintro ⟨_, h | h⟩; exact m2 h; omega), if_neg (fun x => m2 x.2)]
theorem pt_invol {L : List Nat} (hs : Sep L) (p : Nat) : pt L (pt L p) = p := by
  unfold pt
  by_cases m1 : p ∈ L
  · rw [if_pos m1, if_neg (fun h => sep_no hs m1 h), if_pos ⟨by omega, by simpa using m1⟩]; omega
  · rw [if_neg m1]
    by_cases m2 : 1 ≤ p ∧ p - 1 ∈ L
    · rw [if_pos m2, if_pos m2.2]; omega
    · rw [if_neg m2, if_neg m1, if_neg m2]
theorem pt_bd {L : List Nat} {n : Nat} (h : ∀ r ∈ L, 1 ≤ r ∧ r < n) {p : Nat} (h1 : 1 ≤ p) (h2 : p ≤ n) : 1 ≤ pt L p ∧ pt L p ≤ n := by
  unfold pt
  by_cases m1 : p ∈ L
  · rw [if_pos m1]; have := h p m1; omega
  · rw [if_neg m1]
    by_cases m2 : 1 ≤ p ∧ p - 1 ∈ L
    · rw [if_pos m2]; have := h _ m2.2; omega
    · rw [if_neg m2]; omega
/-- The row that pairs make of rounds. -/
def ptL (L : List Nat) (n : Nat) : List Int := (List.range n).map fun i : Nat => ((48 + pt L (i + 1) : Nat) : Int)
def ptS (L : List Nat) (n : Nat) : ByteArray := mkS (ptL L n)
theorem ptL_len (L : List Nat) (n : Nat) : (ptL L n).length = n := by simp [ptL]
theorem ptS_size (L : List Nat) (n : Nat) : (ptS L n).size = n := by unfold ptS; rw [size_mkS, ptL_len]
theorem ptS_bat {L : List Nat} {n : Nat} (h : ∀ r ∈ L, 1 ≤ r ∧ r < n) (hn : n ≤ 8) {i : Nat} (hi : i < n) : bat (ptS L n) i = ((48 + pt L (i + 1) : Nat) : Int) := by
  have hb := pt_bd h (p := i + 1) (by omega) (by omega)
  have he : (ptL L n)[i]'(by rw [ptL_len]; exact hi) = ((48 + pt L (i + 1) : Nat) : Int) := by simp [ptL]
  unfold ptS
  rw [bat_mkS _ i (by rw [ptL_len]; exact hi) (by rw [he]; omega) (by rw [he]; omega), he]
theorem ptS_row {L : List Nat} {n : Nat} (h : ∀ r ∈ L, 1 ≤ r ∧ r < n) (hs : Sep L) (h3 : 3 ≤ n) (h8 : n ≤ 8) : isRow (ptS L n) := by
  refine ⟨by rw [ptS_size]; exact h3, by rw [ptS_size]; exact h8, fun i hi => ?_, fun i j hij hj => ?_⟩
  · rw [ptS_size] at hi ⊢
    rw [ptS_bat h h8 hi]
    have := pt_bd h (p := i + 1) (by omega) (by omega); omega
  · rw [ptS_size] at hj
    rw [ptS_bat h h8 (by omega), ptS_bat h h8 hj]
    intro e
    have e2 : pt L (i + 1) = pt L (j + 1) := by omega
    have := congrArg (pt L) e2
    rw [pt_invol hs, pt_invol hs] at this
    omega
/-- The place of a bell in that row. -/
theorem ptS_place {L : List Nat} {n : Nat} (h : ∀ r ∈ L, 1 ≤ r ∧ r < n) (hs : Sep L) (h3 : 3 ≤ n) (h8 : n ≤ 8) {p : Nat} (h1 : 1 ≤ p) (h2 : p ≤ n) : placeS (ptS L n) p = pt L p := by
  have hb := pt_bd h h1 h2
  obtain ⟨i, hi⟩ : ∃ i, pt L p = i + 1 := ⟨pt L p - 1, by omega⟩
  have := (ptS_row h hs h3 h8).place (i := i) (by rw [ptS_size]; omega)
  rw [ptS_bat h h8 (by omega), ← hi, pt_invol hs] at this
  have e : ((48 + p : Nat) : Int) - 48 = (p : Int) := by omega
  rw [e] at this
  omega
theorem swL_bd (c : ByteArray) (n : Nat) : ∀ r ∈ swL c n, 1 ≤ r ∧ r < n := swFrom_ge c n n 1 (by omega)
theorem swL_sep (c : ByteArray) (n : Nat) : Sep (swL c n) := swFrom_sep c n n 1 (by omega)
/-- The row that a change of stage n makes of rounds. -/
noncomputable def chgS (n : Nat) (c : ByteArray) : ByteArray := ptS (swL c n) n
/-- Where a change of stage n brings what is at a place. -/
noncomputable def mvP (n : Nat) (c : ByteArray) (p : Nat) : Nat := pt (swL c n) p
end Go.Proofs.Ytdecjijldcbnjaa
