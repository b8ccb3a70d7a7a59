/-
  Contracts of chapter 1: products and inverses of rows.
-/
import Derived.Test.YtpedfjcidbopiaaL1
namespace Go.Proofs.Ytpedfjcidbopiaa
open Go.RowKit
set_option linter.unusedVariables false
set_option linter.unusedSimpArgs false
set_option maxRecDepth 100000

theorem byte_info : (Try.prog.info? 5).map (fun i => (i.zero, i.size, i.bytes)) = some (some (.int .u8 0), 1, 1) := by kernel_rfl

/-- The product of two rows. -/
def timesL (a b : ByteArray) : List Int := (List.range b.size).map fun i : Nat => bat a (bat b i - 49)
def timesS (a b : ByteArray) : ByteArray := mkS (timesL a b)
theorem size_times (a b : ByteArray) : (timesS a b).size = b.size := by unfold timesS timesL; rw [size_mkS]; simp
theorem bat_times (a b : ByteArray) (i : Nat) (h : i < b.size) : bat (timesS a b) i = bat a (bat b i - 49) := by
  unfold timesS
  have hl : i < (timesL a b).length := by simpa [timesL] using h
  have e : (timesL a b)[i] = bat a (bat b i - 49) := by simp [timesL]
  rw [bat_mkS _ i hl (by rw [e]; exact bat_lo _ _) (by rw [e]; exact bat_hi _ _), e]

/-- The inverse of a row: at each place the place of the bell there. -/
def placeAt (a : ByteArray) (v : Int) : Nat → Int
  | 0 => 0
  | n + 1 => if bat a n = v then n + 1 else placeAt a v n
/-- The place of a bell (0: none). -/
def placeS (a : ByteArray) (bell : Int) : Int := placeAt a (48 + bell) a.size
theorem placeAt_le (a : ByteArray) (v : Int) (n : Nat) : 0 ≤ placeAt a v n ∧ placeAt a v n ≤ n := by
  induction n with
  | zero => simp [placeAt]
  | succ n ih => unfold placeAt; split <;> omega
theorem placeAt_hit (a : ByteArray) (v : Int) (n i : Nat) (hi : i < n) (h : bat a i = v) (hd : ∀ j : Nat, j < n → bat a j = v → j = i) : placeAt a v n = i + 1 := by
  induction n with
  | zero => omega
  | succ n ih =>
    unfold placeAt
    by_cases e : bat a n = v
    · rw [if_pos e]; have := hd n (by omega) e; omega
    · rw [if_neg e]
      exact ih (by rcases Nat.lt_or_eq_of_le (Nat.le_of_lt_succ hi) with h' | rfl; exact h'; exact absurd h e) (fun j hj hv => hd j (by omega) hv)
theorem placeAt_none (a : ByteArray) (v : Int) (n : Nat) (h : ∀ j : Nat, j < n → bat a j ≠ v) : placeAt a v n = 0 := by
  induction n with
  | zero => rfl
  | succ n ih => unfold placeAt; rw [if_neg (h n (by omega))]; exact ih (fun j hj => h j (by omega))
theorem isRow.inj {a : ByteArray} (h : isRow a) {i j : Nat} (hi : i < a.size) (hj : j < a.size) (e : bat a i = bat a j) : i = j := by
  rcases Nat.lt_trichotomy i j with h' | h' | h'
  · exact absurd e (h.2.2.2 i j h' hj)
  · exact h'
  · exact absurd e.symm (h.2.2.2 j i h' hi)
theorem isRow.place {a : ByteArray} (h : isRow a) {i : Nat} (hi : i < a.size) : placeS a (bat a i - 48) = i + 1 := by
  unfold placeS
  exact placeAt_hit a _ a.size i hi (by omega) (fun j hj e => h.inj hj hi (by omega))
/-- An injective map of the first n numbers into themselves hits each. -/
theorem hit_all (n : Nat) : ∀ (f : Nat → Nat), (∀ i, i < n → f i < n) → (∀ i j, i < n → j < n → f i = f j → i = j) → ∀ v, v < n → ∃ i, i < n ∧ f i = v := by
  induction n with
  | zero => intro f _ _ v hv; omega
  | succ n ih =>
    intro f hf hi v hv
    by_cases hn : ∃ i, i < n + 1 ∧ f i = v
    · exact hn
    · exfalso
      -- f misses v: squeeze it
      let g : Nat → Nat := fun i => if f i < v then f i else f i - 1
      have hne : ∀ i, i < n + 1 → f i ≠ v := fun i h e => hn ⟨i, h, e⟩
      have hg : ∀ i, i < n + 1 → g i < n := fun i h => by
        have := hf i h; have := hne i h; simp only [g]; split <;> omega
      have hgi : ∀ i j, i < n + 1 → j < n + 1 → g i = g j → i = j := fun i j h1 h2 e => by
        have := hne i h1; have := hne j h2
        apply hi i j h1 h2
        simp only [g] at e
        split at e <;> split at e <;> omega
      obtain ⟨i, h1, h2⟩ := ih g (fun i h => hg i (by omega)) (fun i j h1 h2 e => hgi i j (by omega) (by omega) e) (g n) (hg n (by omega))
      have := hgi i n (by omega) (by omega) h2
      omega
theorem isRow.hit {a : ByteArray} (h : isRow a) {v : Int} (h1 : 49 ≤ v) (h2 : v < 49 + a.size) : ∃ i : Nat, i < a.size ∧ bat a i = v := by
  obtain ⟨i, hi, e⟩ := hit_all a.size (fun i => (bat a i - 49).toNat) (fun i hi => by have := h.2.2.1 i hi; omega)
    (fun i j hi hj e => h.inj hi hj (by have := h.2.2.1 i hi; have := h.2.2.1 j hj; omega)) (v - 49).toNat (by omega)
  exact ⟨i, hi, by have := h.2.2.1 i hi; omega⟩

def turnL (a : ByteArray) : List Int := (List.range a.size).map fun p : Nat => 48 + placeS a ((p : Int) + 1)
def turnS (a : ByteArray) : ByteArray := mkS (turnL a)
theorem size_turn (a : ByteArray) : (turnS a).size = a.size := by unfold turnS turnL; rw [size_mkS]; simp
theorem bat_turn (a : ByteArray) (ha : a.size ≤ 8) (p : Nat) (h : p < a.size) : bat (turnS a) p = 48 + placeS a ((p : Int) + 1) := by
  unfold turnS
  have hl : p < (turnL a).length := by simpa [turnL] using h
  have e : (turnL a)[p] = 48 + placeS a ((p : Int) + 1) := by simp [turnL]
  have := placeAt_le a (48 + ((p : Int) + 1)) a.size
  have e2 : placeS a ((p : Int) + 1) = placeAt a (48 + ((p : Int) + 1)) a.size := rfl
  rw [bat_mkS _ p hl (by rw [e, e2]; omega) (by rw [e, e2]; omega), e]

/-- What stands in the cells behind k stores of the inverse. -/
def turnAt (a : ByteArray) (z : Nat → Int) (k : Nat) (p : Nat) : Int :=
  if placeAt a (49 + p) k = 0 then z p else 48 + placeAt a (49 + p) k
theorem turnAt_step {a : ByteArray} (z : Nat → Int) (k q : Nat) (hq : bat a k = 49 + q) (p : Nat) :
    (if p = q then 49 + (k : Int) else turnAt a z k p) = turnAt a z (k + 1) p := by
  unfold turnAt
  by_cases e : p = q
  · subst e
    rw [if_pos rfl]
    have : placeAt a (49 + (p : Int)) (k + 1) = k + 1 := by unfold placeAt; rw [if_pos hq]
    rw [this, if_neg (by omega)]; omega
  · rw [if_neg e]
    have : placeAt a (49 + (p : Int)) (k + 1) = placeAt a (49 + (p : Int)) k := by
      conv => lhs; unfold placeAt
      rw [if_neg (by rw [hq]; omega)]
    rw [this]
theorem turnAt_end {a : ByteArray} (h : isRow a) (z : Nat → Int) (p : Nat) (hp : p < a.size) : turnAt a z a.size p = 48 + placeS a ((p : Int) + 1) := by
  obtain ⟨i, hi, e⟩ := h.hit (v := 49 + p) (by omega) (by omega)
  have e1 : placeAt a (49 + (p : Int)) a.size = i + 1 := placeAt_hit a _ a.size i hi e (fun j hj e' => h.inj hj hi (by omega))
  unfold turnAt placeS
  rw [e1, if_neg (by omega), show (48 : Int) + ((p : Int) + 1) = 49 + p from by omega, e1]

end Go.Proofs.Ytpedfjcidbopiaa
