/-
  The pairs that stand the wrong way round, and an exchange of neighbours: plain.
-/
import Derived.Test.YtdecjijldcbnjaaBase
set_option linter.unusedVariables false
namespace Go.Proofs.Ytdecjijldcbnjaa.InvT
/-- How many ahead of n are above v. -/
def above (p : Nat → Int) (v : Int) : Nat → Nat
  | 0 => 0
  | n + 1 => above p v n + if p n > v then 1 else 0
/-- The pairs that stand the wrong way round. -/
def inv (p : Nat → Int) : Nat → Nat
  | 0 => 0
  | n + 1 => inv p n + above p (p n) n
theorem above_congr {p q : Nat → Int} {v : Int} : ∀ {n}, (∀ j, j < n → q j = p j) → above q v n = above p v n
  | 0, _ => rfl
  | n + 1, h => by simp only [above]; rw [above_congr (fun j hj => h j (by omega)), h n (by omega)]
theorem inv_congr {p q : Nat → Int} : ∀ {n}, (∀ j, j < n → q j = p j) → inv q n = inv p n
  | 0, _ => rfl
  | n + 1, h => by simp only [inv]; rw [inv_congr (fun j hj => h j (by omega)), h n (by omega), above_congr (fun j hj => h j (by omega))]
theorem above_swap {p q : Nat → Int} {i : Nat} {v : Int} : ∀ n, i + 1 < n → (∀ j, j < n → j ≠ i → j ≠ i + 1 → q j = p j) → q i = p (i + 1) → q (i + 1) = p i → above q v n = above p v n
  | 0, h, _, _, _ => by omega
  | n + 1, h, h1, h2, h3 => by
    by_cases e : i + 1 = n
    · subst e
      simp only [above]
      rw [h2, h3, above_congr (p := p) (fun j hj => h1 j (by omega) (by omega) (by omega))]
      omega
    · simp only [above]
      rw [above_swap n (by omega) (fun j hj => h1 j (by omega)) h2 h3, h1 n (by omega) (by omega) (by omega)]
theorem inv_swap {p q : Nat → Int} {i : Nat} : ∀ n, i + 1 < n → (∀ j, j < n → j ≠ i → j ≠ i + 1 → q j = p j) → q i = p (i + 1) → q (i + 1) = p i → p i > p (i + 1) → inv p n = inv q n + 1
  | 0, h, _, _, _, _ => by omega
  | n + 1, h, h1, h2, h3, h4 => by
    by_cases e : i + 1 = n
    · subst e
      simp only [inv, above]
      have a := inv_congr (p := p) (q := q) (n := i) (fun j hj => h1 j (by omega) (by omega) (by omega))
      have b := fun v => above_congr (p := p) (q := q) (v := v) (n := i) (fun j hj => h1 j (by omega) (by omega) (by omega))
      rw [a, b, b, h2, h3, if_pos h4, if_neg (by omega)]
      omega
    · simp only [inv]
      rw [inv_swap n (by omega) (fun j hj => h1 j (by omega)) h2 h3 h4, h1 n (by omega) (by omega) (by omega), above_swap n (by omega) (fun j hj => h1 j (by omega)) h2 h3]
      omega
theorem inv_zero {p : Nat → Int} : ∀ n, (∀ j, j + 1 < n → p j ≤ p (j + 1)) → inv p n = 0 := by
  intro n
  induction n with
  | zero => intro _; rfl
  | succ n ih =>
    intro h
    simp only [inv]
    rw [ih (fun j hj => h j (by omega))]
    have mono : ∀ d k, k + d = n → p k ≤ p n := by
      intro d
      induction d with
      | zero => intro k hk; rw [show k = n by omega]; exact Int.le_refl _
      | succ d ihd => intro k hk; exact Int.le_trans (h k (by omega)) (ihd (k + 1) (by omega))
    have : ∀ m, m ≤ n → above p (p n) m = 0 := by
      intro m
      induction m with
      | zero => intro _; rfl
      | succ m ihm =>
        intro hm
        simp only [above]
        rw [ihm (by omega), if_neg (by have := mono (n - m) m (by omega); omega)]
    rw [this n (Nat.le_refl _)]
end Go.Proofs.Ytdecjijldcbnjaa.InvT
