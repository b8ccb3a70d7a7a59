import Derived.Test.YtglnehinmdmgmaaMBlowsInL00
/-
  The least alignment of least cost, in plain words (no program).
-/
namespace Go.Proofs.Ytglnehinmdmgmaa
set_option linter.unusedVariables false
set_option linter.unusedSimpArgs false

/-- How far two numbers lie apart. -/
def farM (a b : Int) : Int := if a - b < 0 then b - a else a - b
theorem farM_nn (a b : Int) : 0 ≤ farM a b := by unfold farM; split <;> omega
/-- The least cost of aligning two lists. -/
def mP (s : Int) : List Int → List Int → Int
  | [], b => s * b.length
  | x :: a, [] => s * (x :: a).length
  | x :: a, y :: b => min (min (s + mP s a (y :: b)) (s + mP s (x :: a) b)) (farM x y + mP s a b)
termination_by a b => a.length + b.length
/-- The same, by places. -/
def pM (s : Int) (a b : List Int) (i j : Nat) : Int := mP s (a.drop i) (b.drop j)
section
variable {s : Int} {a b : List Int}
theorem pM_end (j : Nat) (i : Nat) (h : a.length ≤ i) : pM s a b i j = s * ((b.length - j : Nat) : Int) := by
  unfold pM; rw [List.drop_of_length_le h]; simp [mP]
theorem pM_edge (i : Nat) (j : Nat) (h : b.length ≤ j) : pM s a b i j = s * ((a.length - i : Nat) : Int) := by
  unfold pM; rw [List.drop_of_length_le h]
  cases e : a.drop i with
  | nil => have := congrArg List.length e; simp at this; simp [mP, show a.length - i = 0 by omega]
  | cons x l => have := congrArg List.length e; simp only [List.length_drop] at this; rw [mP, ← this]
theorem pM_mid {i j : Nat} (hi : i < a.length) (hj : j < b.length) : pM s a b i j = min (min (s + pM s a b (i + 1) j) (s + pM s a b i (j + 1))) (farM (a.getD i 0) (b.getD j 0) + pM s a b (i + 1) (j + 1)) := by
  unfold pM
  have e1 : a.drop i = a.getD i 0 :: a.drop (i + 1) := by rw [List.drop_eq_getElem_cons hi]; simp [List.getD_eq_getElem?_getD, hi]
  have e2 : b.drop j = b.getD j 0 :: b.drop (j + 1) := by rw [List.drop_eq_getElem_cons hj]; simp [List.getD_eq_getElem?_getD, hj]
  rw [e1, e2, mP]
theorem pM_down {i : Nat} (hi : i < a.length) (j : Nat) : pM s a b i j ≤ s + pM s a b (i + 1) j := by
  by_cases hj : j < b.length
  · rw [pM_mid hi hj]; omega
  · rw [pM_edge i j (by omega), pM_edge (i + 1) j (by omega), show a.length - i = a.length - (i + 1) + 1 by omega, Int.natCast_add, Int.mul_add]; omega
theorem pM_right (i : Nat) {j : Nat} (hj : j < b.length) : pM s a b i j ≤ s + pM s a b i (j + 1) := by
  by_cases hi : i < a.length
  · rw [pM_mid hi hj]; omega
  · rw [pM_end j i (by omega), pM_end (j + 1) i (by omega), show b.length - j = b.length - (j + 1) + 1 by omega, Int.natCast_add, Int.mul_add]; omega
/-- What a price is made of, in the program's way: some options, the least of them. -/
theorem pM_opt {i j : Nat} (h : i < a.length ∨ j < b.length) : pM s a b i j = s + pM s a b (i + 1) j ∧ i < a.length ∨ pM s a b i j = s + pM s a b i (j + 1) ∧ j < b.length ∨ pM s a b i j = farM (a.getD i 0) (b.getD j 0) + pM s a b (i + 1) (j + 1) ∧ i < a.length ∧ j < b.length := by
  by_cases hi : i < a.length
  · by_cases hj : j < b.length
    · rw [pM_mid hi hj]; omega
    · left
      refine ⟨?_, hi⟩
      rw [pM_edge i j (by omega), pM_edge (i + 1) j (by omega), show a.length - i = a.length - (i + 1) + 1 by omega, Int.natCast_add, Int.mul_add]; omega
  · right; left
    have hj : j < b.length := by omega
    refine ⟨?_, hj⟩
    rw [pM_end j i (by omega), pM_end (j + 1) i (by omega), show b.length - j = b.length - (j + 1) + 1 by omega, Int.natCast_add, Int.mul_add]; omega
/-- A struck time is where the alignment goes on. -/
def hitM (s : Int) (a b : List Int) (i j x : Nat) : Prop := pM s a b i j = s * ((x : Int) - j) + farM (a.getD i 0) (b.getD x 0) + pM s a b (i + 1) (x + 1)
theorem hit_some {i : Nat} (hi : i < a.length) : ∀ (f j : Nat), b.length - j ≤ f → j ≤ b.length → ¬ pM s a b i j = s + pM s a b (i + 1) j → ∃ x, j ≤ x ∧ x < b.length ∧ hitM s a b i j x
  | f, j, hf, hj, hn => by
    by_cases hlt : j < b.length
    · rcases pM_opt (s := s) (a := a) (b := b) (i := i) (j := j) (.inl hi) with h | h | h
      · exact absurd h.1 hn
      · cases f with
        | zero => omega
        | succ f =>
          have key : ¬ pM s a b i (j + 1) = s + pM s a b (i + 1) (j + 1) := by
            intro e
            apply hn
            have h1 := pM_right (s := s) (a := a) (b := b) (i + 1) hlt
            have h2 := pM_down (s := s) (b := b) hi j
            omega
          obtain ⟨x, h1, h2, h3⟩ := hit_some hi f (j + 1) (by omega) (by omega) key
          refine ⟨x, by omega, h2, ?_⟩
          unfold hitM at h3 ⊢
          rw [h.1, h3, show (x : Int) - (j : Int) = ((x : Int) - ((j + 1 : Nat) : Int)) + 1 by omega, Int.mul_add]; omega
      · exact ⟨j, Nat.le_refl _, hlt, by unfold hitM; rw [h.1]; simp⟩
    · exfalso; apply hn
      rw [pM_edge i j (by omega), pM_edge (i + 1) j (by omega), show a.length - i = a.length - (i + 1) + 1 by omega, Int.natCast_add, Int.mul_add]; omega
open Classical in
/-- The first place from x on where something holds. -/
noncomputable def fstM (p : Nat → Prop) : Nat → Nat → Nat
  | 0, x => x
  | f + 1, x => if p x then x else fstM p f (x + 1)
theorem fstM_eq {p : Nat → Prop} : ∀ {f x y : Nat}, x ≤ y → y < x + f → p y → (∀ z, x ≤ z → z < y → ¬ p z) → fstM p f x = y
  | 0, x, y, h1, h2, _, _ => by omega
  | f + 1, x, y, h1, h2, hp, hn => by
    simp only [fstM]
    by_cases e : p x
    · rw [if_pos e]
      by_cases hxy : x = y
      · exact hxy
      · exact absurd e (hn x (Nat.le_refl _) (by omega))
    · rw [if_neg e]
      exact fstM_eq (by have : x ≠ y := fun h => e (h ▸ hp); omega) (by omega) hp (fun z h3 h4 => hn z (by omega) h4)
end
open Classical in
/-- What the alignment says of the first k ideal times, and where it goes on. -/
noncomputable def ofM (s : Int) (a b : List Int) : Nat → List Int × Nat
  | 0 => ([], 0)
  | i + 1 => if pM s a b i (ofM s a b i).2 = s + pM s a b (i + 1) (ofM s a b i).2 then ((ofM s a b i).1 ++ [-1], (ofM s a b i).2)
    else ((ofM s a b i).1 ++ [((fstM (hitM s a b i (ofM s a b i).2) (b.length + 1) (ofM s a b i).2 : Nat) : Int)], fstM (hitM s a b i (ofM s a b i).2) (b.length + 1) (ofM s a b i).2 + 1)
section
variable {s : Int} {a b : List Int}
theorem ofM_miss {i : Nat} (h : pM s a b i (ofM s a b i).2 = s + pM s a b (i + 1) (ofM s a b i).2) : ofM s a b (i + 1) = ((ofM s a b i).1 ++ [-1], (ofM s a b i).2) := by
  simp only [ofM]; rw [if_pos h]
theorem ofM_hit {i y : Nat} (h : ¬ pM s a b i (ofM s a b i).2 = s + pM s a b (i + 1) (ofM s a b i).2) (h1 : (ofM s a b i).2 ≤ y) (h2 : y < b.length) (hp : hitM s a b i (ofM s a b i).2 y) (hn : ∀ z, (ofM s a b i).2 ≤ z → z < y → ¬ hitM s a b i (ofM s a b i).2 z) :
    ofM s a b (i + 1) = ((ofM s a b i).1 ++ [(y : Int)], y + 1) := by
  have e := fstM_eq (p := hitM s a b i (ofM s a b i).2) (f := b.length + 1) h1 (by omega) hp hn
  simp only [ofM]; rw [if_neg h, e]
theorem hit_first {p : Nat → Prop} : ∀ (f j x : Nat), x < j + f → j ≤ x → p x → ∃ y, j ≤ y ∧ y ≤ x ∧ p y ∧ ∀ z, j ≤ z → z < y → ¬ p z
  | 0, j, x, h, h2, _ => by omega
  | f + 1, j, x, h, h2, hp => by
    by_cases e : p j
    · exact ⟨j, Nat.le_refl _, h2, e, fun z h3 h4 => by omega⟩
    · have hne : j ≠ x := fun e2 => e (e2 ▸ hp)
      obtain ⟨y, h3, h4, h5, h6⟩ := hit_first f (j + 1) x (by omega) (by omega) hp
      refine ⟨y, by omega, h4, h5, fun z h7 h8 => ?_⟩
      by_cases ez : z = j
      · rw [ez]; exact e
      · exact h6 z (by omega) h8
theorem ofM_inv : ∀ i, i ≤ a.length → (ofM s a b i).2 ≤ b.length ∧ (ofM s a b i).1.length = i ∧ ∀ x ∈ (ofM s a b i).1, -1 ≤ x ∧ x < b.length := by
  intro i
  induction i with
  | zero => intro _; exact ⟨Nat.zero_le _, rfl, by simp [ofM]⟩
  | succ i ih =>
    intro hi
    obtain ⟨h1, h2, h3⟩ := ih (by omega)
    by_cases h : pM s a b i (ofM s a b i).2 = s + pM s a b (i + 1) (ofM s a b i).2
    · rw [ofM_miss h]
      refine ⟨h1, by simp [h2], fun x hx => ?_⟩
      rcases List.mem_append.1 hx with hx | hx
      · exact h3 x hx
      · rw [List.mem_singleton.1 hx]; omega
    · obtain ⟨x, hx1, hx2, hx3⟩ := hit_some (b := b) (show i < a.length by omega) (b.length - (ofM s a b i).2) (ofM s a b i).2 (Nat.le_refl _) h1 h
      obtain ⟨y, hy1, hy2, hy3, hy4⟩ := hit_first (p := hitM s a b i (ofM s a b i).2) (b.length + 1) _ x (by omega) hx1 hx3
      rw [ofM_hit h hy1 (by omega) hy3 hy4]
      refine ⟨by simp only; omega, by simp [h2], fun z hz => ?_⟩
      rcases List.mem_append.1 hz with hz | hz
      · exact h3 z hz
      · rw [List.mem_singleton.1 hz]; omega
/-- Prices are not large. -/
theorem mP_bd (h : 0 ≤ s) : ∀ (a b : List Int), 0 ≤ mP s a b ∧ mP s a b ≤ s * ((a.length + b.length : Nat) : Int)
  | [], b => by
    simp only [mP, List.length_nil, Nat.zero_add]
    exact ⟨Int.mul_nonneg h (by omega), Int.le_refl _⟩
  | x :: a, [] => by
    simp only [mP, List.length_nil, Nat.add_zero]
    exact ⟨Int.mul_nonneg h (by omega), Int.le_refl _⟩
  | x :: a, y :: b => by
    have h1 := mP_bd h a (y :: b)
    have h2 := mP_bd h (x :: a) b
    have h3 := mP_bd h a b
    have h4 := farM_nn x y
    rw [mP]
    have e : s * (((x :: a).length + (y :: b).length : Nat) : Int) = s + s * ((a.length + (y :: b).length : Nat) : Int) := by
      rw [show (x :: a).length + (y :: b).length = (a.length + (y :: b).length) + 1 by simp; omega, Int.natCast_add, Int.mul_add]; omega
    omega
termination_by a b => a.length + b.length
theorem pM_bd (h : 0 ≤ s) (i j : Nat) : 0 ≤ pM s a b i j ∧ pM s a b i j ≤ s * ((a.length + b.length : Nat) : Int) := by
  have := mP_bd h (a.drop i) (b.drop j)
  have h2 : s * (((a.drop i).length + (b.drop j).length : Nat) : Int) ≤ s * ((a.length + b.length : Nat) : Int) := Int.mul_le_mul_of_nonneg_left (by simp; omega) h
  unfold pM; omega
end
end Go.Proofs.Ytglnehinmdmgmaa
