import Derived.Test.YtglnehinmdmgmaaMBlowsInL00
import Derived.Test.YtglnehinmdmgmaaMBlowsInL06
import Derived.Test.YtglnehinmdmgmaaMBlowsInL04
import Derived.Test.YtglnehinmdmgmaaMBlowsInL05
import Derived.Test.YtglnehinmdmgmaaMBlowsInL07
/-
  No number has a smaller weighted sum of distances than the weighted median: plain.
-/
namespace Go.Proofs.Ytglnehinmdmgmaa
set_option linter.unusedVariables false
set_option linter.unusedSimpArgs false

def absV (x : Int) : Int := if x < 0 then -x else x
/-- The weighted sum of the distances from x. -/
def farOf (vs ws : List Int) (x : Int) (k : Nat) : Int := sumF (fun i => ws.getD i 0 * absV (vs.getD i 0 - x)) (List.range k)
end Go.Proofs.Ytglnehinmdmgmaa

/-
  Contracts: all numbers of a list within bounds; a number among the first of a list (both sides).
-/
namespace Go.Proofs.Ytglnehinmdmgmaa
open Go.RowKit
set_option linter.unusedVariables false
set_option linter.unusedSimpArgs false
set_option maxRecDepth 100000

def allIn (l : List Int) (lo hi : Int) : Prop := ∀ s ∈ l, inB s lo hi
def hasUpTo (l : List Int) (m : Nat) (n : Int) : Prop := ∃ (j : Nat) (h : j < l.length), j < m ∧ l[j] = n


end Go.Proofs.Ytglnehinmdmgmaa

/-
  Contracts: valid values and weights; sums; the weighted median of the reference.
-/
namespace Go.Proofs.Ytglnehinmdmgmaa
open Go.RowKit
set_option linter.unusedVariables false
set_option linter.unusedSimpArgs false
set_option maxRecDepth 100000

def valP (vs ws : List Int) : Prop := (vs.length ≤ 400 ∧ allIn vs (-10000000) 10000000) ∧ 0 < vs.length ∧ ws.length = vs.length ∧ allIn ws 1 100
theorem allIn_get {l : List Int} {lo hi : Int} (h : allIn l lo hi) {k : Nat} (hk : k < l.length) : lo ≤ l[k] ∧ l[k] ≤ hi := h _ (List.getElem_mem hk)
theorem allIn_getD {l : List Int} {lo hi : Int} (h : allIn l lo hi) {k : Nat} (hk : k < l.length) : lo ≤ l.getD k 0 ∧ l.getD k 0 ≤ hi := by rw [getD_get hk]; exact allIn_get h hk
end Go.Proofs.Ytglnehinmdmgmaa

/-
  Contracts of chapter 1: products and inverses of rows.
-/
namespace Go.Proofs.Ytglnehinmdmgmaa
open Go.RowKit
set_option linter.unusedVariables false
set_option linter.unusedSimpArgs false
set_option maxRecDepth 100000

/-- The product of two rows. -/
def timesL (a b : ByteArray) : List Int := (List.range b.size).map fun i : Nat => bat a (bat b i - 49)
def timesS (a b : ByteArray) : ByteArray := mkS (timesL a b)
/-- The inverse of a row: at each place the place of the bell there. -/
def placeAt (a : ByteArray) (v : Int) : Nat → Int
  | 0 => 0
  | n + 1 => if bat a n = v then n + 1 else placeAt a v n
/-- The place of a bell (0: none). -/
def placeS (a : ByteArray) (bell : Int) : Int := placeAt a (48 + bell) a.size
theorem placeAt_le (a : ByteArray) (v : Int) (n : Nat) : 0 ≤ placeAt a v n ∧ placeAt a v n ≤ n := by
  induction n with
  | zero => simp [placeAt]
  | succ n ih => unfold placeAt; split <;> omega
theorem placeAt_hit (a : ByteArray) (v : Int) (n i : Nat) (hi : i < n) (h : bat a i = v) (hd : ∀ j : Nat, j < n → bat a j = v → j = i) : placeAt a v n = i + 1 := by
  induction n with
  | zero => omega
  | succ n ih =>
    unfold placeAt
    by_cases e : bat a n = v
    · rw [if_pos e]; have := hd n (by omega) e; omega
    · rw [if_neg e]
      exact ih (by rcases Nat.lt_or_eq_of_le (Nat.le_of_lt_succ hi) with h' | rfl; exact h'; exact absurd h e) (fun j hj hv => hd j (by omega) hv)
theorem placeAt_none (a : ByteArray) (v : Int) (n : Nat) (h : ∀ j : Nat, j < n → bat a j ≠ v) : placeAt a v n = 0 := by
  induction n with
  | zero => rfl
  | succ n ih => unfold placeAt; rw [if_neg (h n (by omega))]; exact ih (fun j hj => h j (by omega))
theorem isRow.inj {a : ByteArray} (h : isRow a) {i j : Nat} (hi : i < a.size) (hj : j < a.size) (e : bat a i = bat a j) : i = j := by
  rcases Nat.lt_trichotomy i j with h' | h' | h'
  · exact absurd e (h.2.2.2 i j h' hj)
  · exact h'
  · exact absurd e.symm (h.2.2.2 j i h' hi)
theorem isRow.place {a : ByteArray} (h : isRow a) {i : Nat} (hi : i < a.size) : placeS a (bat a i - 48) = i + 1 := by
  unfold placeS
  exact placeAt_hit a _ a.size i hi (by omega) (fun j hj e => h.inj hj hi (by omega))
def turnL (a : ByteArray) : List Int := (List.range a.size).map fun p : Nat => 48 + placeS a ((p : Int) + 1)
def turnS (a : ByteArray) : ByteArray := mkS (turnL a)
/-- What stands in the cells behind k stores of the inverse. -/
def turnAt (a : ByteArray) (z : Nat → Int) (k : Nat) (p : Nat) : Int :=
  if placeAt a (49 + p) k = 0 then z p else 48 + placeAt a (49 + p) k
end Go.Proofs.Ytglnehinmdmgmaa

/-
  Contracts of chapter 1, the reference's side: products and inverses of rows; two rows of one stage.
-/
namespace Go.Proofs.Ytglnehinmdmgmaa
open Go.RowKit
set_option linter.unusedVariables false
set_option linter.unusedSimpArgs false
set_option maxRecDepth 100000

theorem l1At_k (s : ByteArray) (k : Nat) (p : Int) (w : World) (hp : p = k + 1) (h2 : k < s.size) (hs : s.size ≤ 1000000) (h3 : 48 ≤ bat s k) :
    Calls Try.prog 41 #[.string s, .int .i64 p] w fun e w' => e = .returned (.int .i64 (bat s k - 48)) ∧ w = w' := by
  have e : p - 1 = k := by omega
  have := l1At_any s p w (by omega) (by omega) (by omega) (by rw [e]; exact h3)
  rw [e] at this; exact this

/-- Two rows of one stage. -/
def two (a b : ByteArray) : Prop := isRow a ∧ isRow b ∧ a.size = b.size
end Go.Proofs.Ytglnehinmdmgmaa