import Derived.Test.YtbfhfnejppfehaaMSlipsL05
import Derived.Test.YtbfhfnejppfehaaMSlipsL06
import Derived.Deep.CutRange
import Derived.Test.YtbfhfnejppfehaaMSlipsL01
import Derived.Test.YtbfhfnejppfehaaMSlipsL03
import Derived.Test.YtbfhfnejppfehaaMSlipsL02
/-
  The reader of choices: values with weights.
-/
namespace Go.Proofs.Ytbfhfnejppfehaa
open Go.RowKit
set_option linter.unusedVariables false
set_option linter.unusedSimpArgs false
set_option maxRecDepth 100000

theorem Grow.keptBy {α : Type} {enc : α → List Value} {w w' : World} {base : Nat} {e : TypeId} {size : Nat} {v : Value} {l : List α} {o : Option Nat} (h : Grow w base e size enc v l) (hg : w.grownBy w' o) (hne : ∀ g, v.ownBlock = some g → some g ≠ o) : Grow w' base e size enc v l := by
  have hlt := h.block_lt
  refine ⟨h.1, ?_⟩
  rcases h.2 with ⟨h1, h2⟩ | ⟨g, cap, cur, h1, h2, h3, h4⟩
  · exact .inl ⟨h1, h2⟩
  · have e1 : v.ownBlock = some g := by rw [h1]; rfl
    exact .inr ⟨g, cap, cur, h1, h2, (hg.block g (hlt g e1) (hne g e1)).trans h3, h4⟩
theorem Grow.turn {α : Type} {enc : α → List Value} {w w' : World} {base : Nat} {e : TypeId} {size : Nat} {v : Value} {l : List α} {g0 : Nat} (h : Grow w base e size enc v l) (hg : Turn g0 w w') (hb : g0 < base) : Grow w' base e size enc v l := by
  have hlt := h.block_lt
  refine ⟨h.1, ?_⟩
  rcases h.2 with ⟨h1, h2⟩ | ⟨g, cap, cur, h1, h2, h3, h4⟩
  · exact .inl ⟨h1, h2⟩
  · have e1 : v.ownBlock = some g := by rw [h1]; rfl
    exact .inr ⟨g, cap, cur, h1, h2, (hg.block g (hlt g e1) (by omega)).trans h3, h4⟩
theorem Turn.thenB {g : Nat} {a b c : World} (h : Turn g a b) (k : Below a.heap.size b c) : Turn g a c :=
  ⟨k.os.trans h.os, k.tape.trans h.tape, k.output.trans h.output, Nat.le_trans h.size k.size, fun i hi hr => (k.block i hi).trans (h.block i hi hr)⟩
/-- Two slices of the call's own lie apart. -/
def Apart (a b : Value) : Prop := ∀ g, a.ownBlock = some g → some g ≠ b.ownBlock
theorem Apart.swap {a b : Value} (h : Apart a b) : Apart b a := fun g hg e => h g (e.symm.trans rfl) hg.symm
theorem Apart.grow {a b a' : Value} {m : Nat} (h : Apart a b) (hb : ∀ g, b.ownBlock = some g → g < m) (ha : a'.ownBlock = a.ownBlock ∨ a'.ownBlock = some (m + 1)) : Apart a' b := by
  intro g hg e
  rcases ha with ha | ha
  · exact h g (ha ▸ hg) e
  · rw [ha] at hg
    have := hb g e.symm
    injection hg with hg
    omega
theorem RdL.tail1 {w : World} {b g o : Nat} {y : Int} {l : List Int} (h : RdL w b (some ⟨g, o, none⟩) 1 encInt (y :: l)) : RdL w b (some ⟨g, o + 1, none⟩) 1 encInt l := by
  rcases h with h | ⟨g', off, hA, hg, hc⟩
  · cases h
  · injection hA with hA; injection hA with h1 h2
    subst h1 h2
    refine .inr ⟨g, o + 1, rfl, hg, fun i hi j u hu => ?_⟩
    have := hc (i + 1) (by simpa using hi) j u (by simpa using hu)
    rw [show o + 1 + (i * 1 + j) = o + ((i + 1) * 1 + j) by omega]
    exact this
theorem RdL.set0 {w : World} {b g : Nat} {x y : Int} {l : List Int} (h : RdL w b (some ⟨g, 0, none⟩) 1 encInt (y :: l)) : RdL (w.setCell ⟨g, 0, none⟩ (.int .i64 x)) b (some ⟨g, 0, none⟩) 1 encInt (x :: l) := by
  rcases h with h | ⟨g', off, hA, hg, hc⟩
  · cases h
  · injection hA with hA; injection hA with h1 h2
    subst h1 h2
    refine .inr ⟨g, 0, rfl, hg, fun i hi j u hu => ?_⟩
    have hj : j = 0 := by
      have := (List.getElem?_eq_some_iff.1 hu).1
      simp [encInt] at this; omega
    subst hj
    cases i with
    | zero =>
      have h0 := hc 0 (by simp) 0 _ rfl
      simp [encInt] at hu h0
      subst hu
      exact World.cell?_setCell_same _ _ _ (by simpa using h0)
    | succ i =>
      have h0 := hc (i + 1) (by simpa using hi) 0 u (by simpa using hu)
      rw [World.cell?_setCell_other _ _ _ _ (fun e => by injection e with _ e; omega)]
      exact h0
theorem RdL.setOther {w : World} {b : Nat} {A : Option Addr} {l : List Int} {p : Addr} {u : Value} (h : RdL w b A 1 encInt l) (hne : ∀ g off, A = some ⟨g, off, none⟩ → g ≠ p.block) : RdL (w.setCell p u) b A 1 encInt l := by
  rcases h with h | ⟨g, off, rfl, hg, hc⟩
  · exact .inl h
  · exact .inr ⟨g, off, rfl, hg, fun i hi j v hv => (World.cell?_setCell_other _ _ _ _ (fun e => hne g off rfl (congrArg Addr.block e).symm)).trans (hc i hi j v hv)⟩
theorem RdL.turn {w w' : World} {b g : Nat} {A : Option Addr} {l : List Int} (h : RdL w b A 1 encInt l) (ht : Turn g w w') (hb : b ≤ w.heap.size) (hne : ∀ q off, A = some ⟨q, off, none⟩ → q ≠ g) : RdL w' b A 1 encInt l := by
  rcases h with h | ⟨q, off, rfl, hg, hc⟩
  · exact .inl h
  · exact .inr ⟨q, off, rfl, hg, fun i hi j v hv => (ht.cell (p := ⟨q, _, none⟩) (Nat.lt_of_lt_of_le hg hb) (hne q off rfl)).trans (hc i hi j v hv)⟩
theorem Grow.lo {α : Type} {enc : α → List Value} {w : World} {base base' : Nat} {e : TypeId} {size : Nat} {v : Value} {l : List α} (h : Grow w base e size enc v l) (hb : base' ≤ base) : Grow w base' e size enc v l := by
  refine ⟨h.1, ?_⟩
  rcases h.2 with h1 | ⟨g, cap, cur, h1, h2, h3⟩
  · exact .inl h1
  · exact .inr ⟨g, cap, cur, h1, Nat.le_trans hb h2, h3⟩
theorem frozen_of_turn {g b : Nat} {w w' : World} (h : Turn g w w') (hb : b < w.heap.size) (hne : b ≠ g) (i : Nat) : w'.frozen? ⟨b, i, none⟩ = w.frozen? ⟨b, i, none⟩ := by
  have := h.block b hb (by omega)
  simp only [World.frozen?, this]
end Go.Proofs.Ytbfhfnejppfehaa

/-
  Contracts: words, notes, calls and touches as texts (both sides).
-/
namespace Go.Proofs.Ytbfhfnejppfehaa
open Go.RowKit
set_option linter.unusedVariables false
set_option linter.unusedSimpArgs false
set_option maxRecDepth 100000

theorem within_any (n lo hi : Int) (w : World) :
    Calls Try.prog 66 #[.int .i64 n, .int .i64 lo, .int .i64 hi] w fun e w' => e = .returned (.bool (B (inB n lo hi))) ∧ w = w' := by
  by_cases h1 : lo ≤ n <;> by_cases h2 : n ≤ hi
  all_goals
    go_enter Try.func66, Try.ntmps66
    go_wp2
    go_ret
    first | exact ⟨ret_t ⟨h1, h2⟩, rfl⟩ | exact ⟨ret_f (fun x => by have := x.1; have := x.2; omega), rfl⟩
theorem isBell_any (n b : Int) (w : World) :
    Calls Try.prog 65 #[.int .i64 n, .int .i64 b] w fun e w' => e = .returned (.bool (B (inB b 1 n))) ∧ w = w' := by
  by_cases h1 : 1 ≤ b <;> by_cases h2 : b ≤ n
  all_goals
    go_enter Try.func65, Try.ntmps65
    go_wp2
    go_ret
    first | exact ⟨ret_t ⟨h1, h2⟩, rfl⟩ | exact ⟨ret_f (fun x => by have := x.1; have := x.2; omega), rfl⟩

/-! ### A text whose bytes are all of a kind -/
def allB (p : Int → Prop) (s : ByteArray) : Prop := ∀ i : Nat, i < s.size → p (bat s i)
def wordByte (b : Int) : Prop := 97 ≤ b ∧ b ≤ 122
def isWordP (s : ByteArray) : Prop := allB wordByte s ∧ 1 ≤ s.size ∧ s.size ≤ 10
def noteByte (b : Int) : Prop := (97 ≤ b ∧ b ≤ 122) ∨ (48 ≤ b ∧ b ≤ 57) ∨ b = 46 ∨ b = 45
def isNoteP (s : ByteArray) : Prop := allB noteByte s ∧ s.size ≤ 20
def callByte (b : Int) : Prop := b = 112 ∨ b = 98 ∨ b = 115









/-! ### calls and touches -/
theorem extract_one (s : ByteArray) (k : Nat) (h : k < s.size) : (s.extract k (k + 1)).toList = [s.data.toList[k]'(by have := size_len s; omega)] := by
  rw [ByteArray.toList_eq, ByteArray.data_extract, Array.toList_extract]
  have h2 : k < s.data.toList.length := h
  rw [List.extract_eq_take_drop, List.drop_eq_getElem_cons h2]
  simp
theorem bat_elem (s : ByteArray) (k : Nat) (h : k < s.data.toList.length) : bat s k = ((s.data.toList[k]).toNat : Int) := by
  unfold bat; rw [Int.toNat_natCast, List.getD_eq_getElem?_getD, List.getElem?_eq_getElem h]; rfl
/-- A text of one letter that is a call. -/
def isCallP (s : ByteArray) : Prop := s.toList = [112] ∨ s.toList = [98] ∨ s.toList = [115]
theorem isCall_ext (s : ByteArray) (k : Nat) (h : k < s.size) : isCallP (s.extract k (k + 1)) ↔ callByte (bat s k) := by
  unfold isCallP callByte
  rw [extract_one s k h, bat_elem s k h]
  generalize s.data.toList[k]'(by have := size_len s; omega) = c
  have h1 : ∀ d : UInt8, ([c] = [d]) ↔ (c.toNat : Int) = (d.toNat : Int) := fun d => by
    constructor
    · intro h; injection h with h; rw [h]
    · intro h; rw [show c = d from UInt8.toNat_inj.1 (by omega)]
  rw [h1, h1, h1]
  rfl

def areCallsP (s : ByteArray) : Prop := allB callByte s
def touchP (s : ByteArray) : Prop := areCallsP s ∧ 1 ≤ s.size ∧ s.size ≤ 60
end Go.Proofs.Ytbfhfnejppfehaa

/-
  Contracts: all numbers of a list within bounds; a number among the first of a list (both sides).
-/
namespace Go.Proofs.Ytbfhfnejppfehaa
open Go.RowKit
set_option linter.unusedVariables false
set_option linter.unusedSimpArgs false
set_option maxRecDepth 100000

def allIn (l : List Int) (lo hi : Int) : Prop := ∀ s ∈ l, inB s lo hi
def hasUpTo (l : List Int) (m : Nat) (n : Int) : Prop := ∃ (j : Nat) (h : j < l.length), j < m ∧ l[j] = n


end Go.Proofs.Ytbfhfnejppfehaa

/-
  Contracts of chapter 1: products and inverses of rows.
-/
namespace Go.Proofs.Ytbfhfnejppfehaa
open Go.RowKit
set_option linter.unusedVariables false
set_option linter.unusedSimpArgs false
set_option maxRecDepth 100000

theorem byte_info : (Try.prog.info? 5).map (fun i => (i.zero, i.size, i.bytes)) = some (some (.int .u8 0), 1, 1) := by kernel_rfl

/-- The product of two rows. -/
def timesL (a b : ByteArray) : List Int := (List.range b.size).map fun i : Nat => bat a (bat b i - 49)
def timesS (a b : ByteArray) : ByteArray := mkS (timesL a b)
theorem size_times (a b : ByteArray) : (timesS a b).size = b.size := by unfold timesS timesL; rw [size_mkS]; simp
theorem bat_times (a b : ByteArray) (i : Nat) (h : i < b.size) : bat (timesS a b) i = bat a (bat b i - 49) := by
  unfold timesS
  have hl : i < (timesL a b).length := by simpa [timesL] using h
  have e : (timesL a b)[i] = bat a (bat b i - 49) := by simp [timesL]
  rw [bat_mkS _ i hl (by rw [e]; exact bat_lo _ _) (by rw [e]; exact bat_hi _ _), e]

/-- The inverse of a row: at each place the place of the bell there. -/
def placeAt (a : ByteArray) (v : Int) : Nat → Int
  | 0 => 0
  | n + 1 => if bat a n = v then n + 1 else placeAt a v n
/-- The place of a bell (0: none). -/
def placeS (a : ByteArray) (bell : Int) : Int := placeAt a (48 + bell) a.size
theorem placeAt_le (a : ByteArray) (v : Int) (n : Nat) : 0 ≤ placeAt a v n ∧ placeAt a v n ≤ n := by
  induction n with
  | zero => simp [placeAt]
  | succ n ih => unfold placeAt; split <;> omega
theorem placeAt_hit (a : ByteArray) (v : Int) (n i : Nat) (hi : i < n) (h : bat a i = v) (hd : ∀ j : Nat, j < n → bat a j = v → j = i) : placeAt a v n = i + 1 := by
  induction n with
  | zero => omega
  | succ n ih =>
    unfold placeAt
    by_cases e : bat a n = v
    · rw [if_pos e]; have := hd n (by omega) e; omega
    · rw [if_neg e]
      exact ih (by rcases Nat.lt_or_eq_of_le (Nat.le_of_lt_succ hi) with h' | rfl; exact h'; exact absurd h e) (fun j hj hv => hd j (by omega) hv)
theorem placeAt_none (a : ByteArray) (v : Int) (n : Nat) (h : ∀ j : Nat, j < n → bat a j ≠ v) : placeAt a v n = 0 := by
  induction n with
  | zero => rfl
  | succ n ih => unfold placeAt; rw [if_neg (h n (by omega))]; exact ih (fun j hj => h j (by omega))
theorem isRow.inj {a : ByteArray} (h : isRow a) {i j : Nat} (hi : i < a.size) (hj : j < a.size) (e : bat a i = bat a j) : i = j := by
  rcases Nat.lt_trichotomy i j with h' | h' | h'
  · exact absurd e (h.2.2.2 i j h' hj)
  · exact h'
  · exact absurd e.symm (h.2.2.2 j i h' hi)
theorem isRow.place {a : ByteArray} (h : isRow a) {i : Nat} (hi : i < a.size) : placeS a (bat a i - 48) = i + 1 := by
  unfold placeS
  exact placeAt_hit a _ a.size i hi (by omega) (fun j hj e => h.inj hj hi (by omega))
/-- An injective map of the first n numbers into themselves hits each. -/
theorem hit_all (n : Nat) : ∀ (f : Nat → Nat), (∀ i, i < n → f i < n) → (∀ i j, i < n → j < n → f i = f j → i = j) → ∀ v, v < n → ∃ i, i < n ∧ f i = v := by
  induction n with
  | zero => intro f _ _ v hv; omega
  | succ n ih =>
    intro f hf hi v hv
    by_cases hn : ∃ i, i < n + 1 ∧ f i = v
    · exact hn
    · exfalso
      -- f misses v: squeeze it
      let g : Nat → Nat := fun i => if f i < v then f i else f i - 1
      have hne : ∀ i, i < n + 1 → f i ≠ v := fun i h e => hn ⟨i, h, e⟩
      have hg : ∀ i, i < n + 1 → g i < n := fun i h => by
        have := hf i h; have := hne i h; simp only [g]; split <;> omega
      have hgi : ∀ i j, i < n + 1 → j < n + 1 → g i = g j → i = j := fun i j h1 h2 e => by
        have := hne i h1; have := hne j h2
        apply hi i j h1 h2
        simp only [g] at e
        split at e <;> split at e <;> omega
      obtain ⟨i, h1, h2⟩ := ih g (fun i h => hg i (by omega)) (fun i j h1 h2 e => hgi i j (by omega) (by omega) e) (g n) (hg n (by omega))
      have := hgi i n (by omega) (by omega) h2
      omega
theorem isRow.hit {a : ByteArray} (h : isRow a) {v : Int} (h1 : 49 ≤ v) (h2 : v < 49 + a.size) : ∃ i : Nat, i < a.size ∧ bat a i = v := by
  obtain ⟨i, hi, e⟩ := hit_all a.size (fun i => (bat a i - 49).toNat) (fun i hi => by have := h.2.2.1 i hi; omega)
    (fun i j hi hj e => h.inj hi hj (by have := h.2.2.1 i hi; have := h.2.2.1 j hj; omega)) (v - 49).toNat (by omega)
  exact ⟨i, hi, by have := h.2.2.1 i hi; omega⟩

def turnL (a : ByteArray) : List Int := (List.range a.size).map fun p : Nat => 48 + placeS a ((p : Int) + 1)
def turnS (a : ByteArray) : ByteArray := mkS (turnL a)
theorem size_turn (a : ByteArray) : (turnS a).size = a.size := by unfold turnS turnL; rw [size_mkS]; simp
theorem bat_turn (a : ByteArray) (ha : a.size ≤ 8) (p : Nat) (h : p < a.size) : bat (turnS a) p = 48 + placeS a ((p : Int) + 1) := by
  unfold turnS
  have hl : p < (turnL a).length := by simpa [turnL] using h
  have e : (turnL a)[p] = 48 + placeS a ((p : Int) + 1) := by simp [turnL]
  have := placeAt_le a (48 + ((p : Int) + 1)) a.size
  have e2 : placeS a ((p : Int) + 1) = placeAt a (48 + ((p : Int) + 1)) a.size := rfl
  rw [bat_mkS _ p hl (by rw [e, e2]; omega) (by rw [e, e2]; omega), e]

/-- What stands in the cells behind k stores of the inverse. -/
def turnAt (a : ByteArray) (z : Nat → Int) (k : Nat) (p : Nat) : Int :=
  if placeAt a (49 + p) k = 0 then z p else 48 + placeAt a (49 + p) k
theorem turnAt_step {a : ByteArray} (z : Nat → Int) (k q : Nat) (hq : bat a k = 49 + q) (p : Nat) :
    (if p = q then 49 + (k : Int) else turnAt a z k p) = turnAt a z (k + 1) p := by
  unfold turnAt
  by_cases e : p = q
  · subst e
    rw [if_pos rfl]
    have : placeAt a (49 + (p : Int)) (k + 1) = k + 1 := by unfold placeAt; rw [if_pos hq]
    rw [this, if_neg (by omega)]; omega
  · rw [if_neg e]
    have : placeAt a (49 + (p : Int)) (k + 1) = placeAt a (49 + (p : Int)) k := by
      conv => lhs; unfold placeAt
      rw [if_neg (by rw [hq]; omega)]
    rw [this]
theorem turnAt_end {a : ByteArray} (h : isRow a) (z : Nat → Int) (p : Nat) (hp : p < a.size) : turnAt a z a.size p = 48 + placeS a ((p : Int) + 1) := by
  obtain ⟨i, hi, e⟩ := h.hit (v := 49 + p) (by omega) (by omega)
  have e1 : placeAt a (49 + (p : Int)) a.size = i + 1 := placeAt_hit a _ a.size i hi e (fun j hj e' => h.inj hj hi (by omega))
  unfold turnAt placeS
  rw [e1, if_neg (by omega), show (48 : Int) + ((p : Int) + 1) = 49 + p from by omega, e1]

end Go.Proofs.Ytbfhfnejppfehaa

/-
  Contracts of chapter 1, the reference's side: products and inverses of rows; two rows of one stage.
-/
namespace Go.Proofs.Ytbfhfnejppfehaa
open Go.RowKit
set_option linter.unusedVariables false
set_option linter.unusedSimpArgs false
set_option maxRecDepth 100000

theorem l1At_k (s : ByteArray) (k : Nat) (p : Int) (w : World) (hp : p = k + 1) (h2 : k < s.size) (hs : s.size ≤ 1000000) (h3 : 48 ≤ bat s k) :
    Calls Try.prog 110 #[.string s, .int .i64 p] w fun e w' => e = .returned (.int .i64 (bat s k - 48)) ∧ w = w' := by
  have e : p - 1 = k := by omega
  have := l1At_any s p w (by omega) (by omega) (by omega) (by rw [e]; exact h3)
  rw [e] at this; exact this

theorem take_snoc {l : List Int} {k : Nat} (h : k < l.length) : l.take (k + 1) = l.take k ++ [l[k]] := List.take_succ_eq_append_getElem h
theorem mkS_snoc (l : List Int) (s : ByteArray) (v : Int) (hs : s.size = 1) (hv : bat s 0 = v) : mkS l ++ s = mkS (l ++ [v]) := by
  refine str_ext (by rw [size_app, size_mkS, size_mkS, hs]; simp) fun i hi => ?_
  rw [size_app, size_mkS, hs] at hi
  have h1 := bat_lo s 0
  have h2 := bat_hi s 0
  by_cases h : i < l.length
  · rw [bat_append_l _ _ _ (by rw [size_mkS]; exact h)]
    unfold bat mkS
    simp [List.getElem?_append_left, h]
  · obtain rfl : i = l.length := by omega
    have := bat_append_r (mkS l) s 0
    rw [size_mkS] at this
    rw [show (l.length : Nat) = l.length + 0 from rfl, this]
    rw [bat_mkS _ _ (by simp) (by simp; omega) (by simp; omega)]
    simp; exact hv

set_option maxHeartbeats 800000 in
theorem l1Times_any (a b : ByteArray) (w : World) (hb : b.size ≤ 1000000) (ha : a.size ≤ 1000000) (h : ∀ i : Nat, i < b.size → 49 ≤ bat b i ∧ bat b i < 49 + a.size) :
    Calls Try.prog 176 #[.string a, .string b] w fun e w' => e = .returned (.string (timesS a b)) ∧ w = w' := by
  have H := Lib.hid h
  clear h
  go_enter Try.func176, Try.ntmps176
  go_wp2
  go_loop [5, 6] (fun s i => ∃ (k : Nat) (o : ByteArray), k ≤ b.size ∧ i = .int .i64 (k + 1) ∧ s = .string o ∧ o.size ≤ k ∧ Hid (o = mkS ((timesL a b).take k))) (fun _ i => b.size + 1 - (intOf i).toNat)
  case atStart => exact ⟨0, ⟨#[]⟩, by omega, by rfl, rfl, by decide, rfl⟩
  case round =>
    obtain ⟨k, o, hk, rfl, rfl, ho, he⟩ := hrel
    by_cases hlt : k < b.size
    · obtain ⟨h1, h2⟩ := H.out k hlt
      have hy := bat_hi b k
      go_wp2_with (go_at_call 110; refine (l1At_k b k _ _ (by omega) hlt hb (by omega)).mono ?_; rintro e w' ⟨rfl, rfl⟩)
      go_round
      case rel =>
        have hsz : (a.extract ((bat b k - 48).toNat - 1) (bat b k - 48).toNat).size = 1 := by rw [size_ext]; omega
        refine ⟨k + 1, _, by omega, by go_num, rfl, by rw [size_app, hsz]; omega, ?_⟩
        have hl : k < (timesL a b).length := by simp [timesL]; omega
        show _ = _
        rw [take_snoc hl, he.out]
        refine mkS_snoc _ _ _ hsz ?_
        have := bat_ext a ((bat b k - 48).toNat - 1) (bat b k - 48).toNat 0 (by omega)
        rw [show ((0 : Nat) : Int) = 0 from rfl] at this
        rw [this]
        have e : (((bat b k - 48).toNat - 1 + 0 : Nat) : Int) = bat b k - 49 := by omega
        rw [e]; simp [timesL]
      case measure => simp [intOf]; omega
    · go_wp2
      go_ret
      exact ⟨by rw [he.out, List.take_of_length_le (by simp [timesL]; omega)]; rfl, rfl⟩

/-- Two rows of one stage. -/
def two (a b : ByteArray) : Prop := isRow a ∧ isRow b ∧ a.size = b.size
theorem l1Row_t (s : ByteArray) (w : World) (h : isRow s) : Calls Try.prog 107 #[.string s] w fun e w' => e = .returned (.bool true) ∧ ∃ n, w' = w.drewN n := by
  have := l1Row_any s w; rw [B_t h] at this; exact this
theorem l1Row_f (s : ByteArray) (w : World) (h : ¬ isRow s) : Calls Try.prog 107 #[.string s] w fun e w' => e = .returned (.bool false) ∧ ∃ n, w' = w.drewN n := by
  have := l1Row_any s w; rw [B_f h] at this; exact this
end Go.Proofs.Ytbfhfnejppfehaa
/-
  Words of our own that know no program: a whole list appended; an own list of integers written.
-/
namespace Go.Proofs.Ytbfhfnejppfehaa
open Go.RowKit
set_option linter.unusedVariables false
set_option linter.unusedSimpArgs false

theorem flat_inv {α : Type} {enc : α → List Value} {size : Nat} (henc : ∀ x, (enc x).length = size) : ∀ (l : List α) (j : Nat) (u : Value), (flat enc l)[j]? = some u → ∃ (i : Nat) (hi : i < l.length) (k : Nat), j = i * size + k ∧ (enc l[i])[k]? = some u
  | [], j, u, h => by simp [flat] at h
  | x :: l, j, u, h => by
    simp only [flat] at h
    by_cases hj : j < (enc x).length
    · rw [List.getElem?_append_left hj] at h
      exact ⟨0, by simp, j, by simp, by simpa using h⟩
    · rw [List.getElem?_append_right (by omega)] at h
      obtain ⟨i, hi, k, e, hk⟩ := flat_inv henc l _ u h
      rw [henc] at e hj
      exact ⟨i + 1, by simpa using hi, k, by rw [Nat.succ_mul]; omega, by simpa using hk⟩
section
variable {P : Program} {ops : Array Oper} {rest : List Oper} {o : Oper} {a : Act} {Q : Exit → Act → World → Prop} {w : World}
/-- 'l = append(l, ys...)': ys reads as a list that is not empty. -/
theorem wpList_pushAll {α : Type} (hgd : o.guard = none) (s x : Operand) (t : TypeId) (ho : o.op = .call { callee := .builtin .append, args := #[s, x], argTypes := #[t, t] })
    (base : Nat) (e : TypeId) (z : Value) (size bytes : Nat) (enc : α → List Value)
    (ht : P.underlying t = some (.slice e)) (hinfo : (P.info? e).map (fun i => (i.zero, i.size, i.bytes)) = some (some z, size, bytes)) (hzs : z.cells.size = size) (hsz : 0 < size)
    (v : Value) (l ys : List α) (A : Option Addr) (c b : Nat) (hs : a.eval s = v) (hx : a.eval x = .slice A ys.length c) (hr : RdL w b A size enc ys) (hne : 0 < ys.length)
    (hown : Grow w base e size enc v l) (henc : ∀ x, (enc x).length = size) (h1 : ∀ x, ∀ u ∈ enc x, u.oneCell' = true)
    (hn : l.length + ys.length ≤ 1000000000) (hb : bytes ≤ 1000) (hbase : base ≤ w.heap.size)
    (h : ∀ v' w', Grow w' base e size enc v' (l ++ ys) → Below base w w' → w.grownBy w' v.ownBlock → wpList P ops Q rest (a.put o.dst v') w') :
    wpList P ops Q (o :: rest) a w := by
  obtain ⟨i, hi, hzz⟩ := Option.map_eq_some_iff.1 hinfo
  simp only [Prod.mk.injEq] at hzz
  obtain ⟨hz, hs', hb'⟩ := hzz
  have hmul : (l.length + ys.length) * bytes ≤ 1000000000 * 1000 := Nat.mul_le_mul hn hb
  obtain ⟨g, off, hA, _, _⟩ := hr.at (k := 0) hne
  subst hA
  refine wpList_append_own (P := P) _ hgd s x t ho base e i z size bytes ht hi hz hs' hb' hzs hsz v l.length (flat enc l) hs hown ⟨g, off, none⟩ ys.length c (flat enc ys) hx (flat_len henc ys)
    (fun j u hu => by
      obtain ⟨i, hi, k, rfl, hk⟩ := flat_inv henc ys j u hu
      obtain ⟨g', off', hA', _, hcell⟩ := hr.at hi
      simp only [Option.some.injEq, Addr.mk.injEq, and_true] at hA'
      obtain ⟨rfl, rfl⟩ := hA'
      have e : (⟨g, off, none⟩ : Addr).add (i * size + k) = ⟨g, off + (i * size + k), none⟩ := by unfold Addr.add; split <;> simp_all
      rw [e]; exact hcell k u hk) (fun u hu => by
      obtain ⟨j, hj⟩ := List.getElem?_of_mem hu
      obtain ⟨i, hi, k, _, hk⟩ := flat_inv henc ys j u hj
      exact h1 _ u (List.mem_of_getElem? hk)) (by unfold maxLen; omega) (by omega) hbase ?_
  intro v' w' hown' hg _
  have hr : ∀ k, v.ownBlock = some k → base ≤ k := fun k hk => by
    rcases hown.2 with ⟨rfl, _⟩ | ⟨g, cap, cur, rfl, hbg, _⟩
    · simp [Value.ownBlock] at hk
    · simp [Value.ownBlock] at hk; omega
  refine h v' w' ?_ ?_ hg
  · unfold Grow
    rw [List.length_append, flat_append]
    exact hown'
  · exact (Below.refl base w).grown hg hbase hr
end
theorem Grow.capN {α : Type} {w : World} {base : Nat} {e : TypeId} {size : Nat} {enc : α → List Value} {l : List α} {A : Option Addr} {n c : Nat} (h : Grow w base e size enc (.slice A n c) l) : n ≤ c := by
  rcases h.2 with ⟨h1, h2⟩ | ⟨g, cap, cur, h1, h2, h3, h4, h5, _⟩
  · injection h1 with _ e1 e2; omega
  · injection h1 with _ e1 e2; omega
section
variable {w : World} {b c g : Nat} {l : List Int}
theorem OwnL.some_of {A : Option Addr} (h : OwnL w b c A 1 encInt l) (hl : 0 < l.length) : ∃ g, A = some ⟨g, 0, none⟩ ∧ b ≤ g ∧ g < c ∧ g < w.heap.size := by
  obtain ⟨g, f, hA, h1, h2, h3⟩ := h.cells hl
  exact ⟨g, hA, h1, h2, h3.lt⟩
theorem OwnL.cellInt (h : OwnL w b c (some ⟨g, 0, none⟩) 1 encInt l) (k : Nat) (hk : k < l.length) : w.cell? ⟨g, k, none⟩ = some (.int .i64 l[k]) ∧ w.frozen? ⟨g, k, none⟩ = false := by
  rcases h with h | ⟨g', f, hA, h1, h2, h3, h4⟩
  · subst h; simp at hk
  · simp only [Option.some.injEq, Addr.mk.injEq, and_true] at hA
    subst hA
    have := h4 k hk 0 _ rfl
    have hc := h3.cell (i := k) (by omega)
    rw [Nat.mul_one, Nat.add_zero] at this
    rw [this] at hc
    exact ⟨hc, h3.free (by omega)⟩
theorem OwnL.setInt (h : OwnL w b c (some ⟨g, 0, none⟩) 1 encInt l) (k : Nat) (hk : k < l.length) (v : Int) : OwnL (w.setCell ⟨g, k, none⟩ (.int .i64 v)) b c (some ⟨g, 0, none⟩) 1 encInt (l.set k v) := by
  rcases h with h | ⟨g', f, hA, h1, h2, h3, h4⟩
  · subst h; simp at hk
  · simp only [Option.some.injEq, Addr.mk.injEq, and_true] at hA
    subst hA
    refine .inr ⟨g, _, rfl, h1, h2, by rw [List.length_set]; exact h3.set (i := k) (by omega) _, fun i hi j u hu => ?_⟩
    have hj : j = 0 := by have := (List.getElem?_eq_some_iff.1 hu).1; simp [encInt] at this; exact this
    subst hj
    by_cases e : i = k
    · subst e
      rw [List.getElem_set_self] at hu
      rw [Nat.mul_one, Nat.add_zero, upd_same]
      simpa [encInt] using hu
    · rw [List.getElem_set_ne (by omega)] at hu
      rw [Nat.mul_one, Nat.add_zero, upd_other _ _ _ _ (by omega)]
      have := h4 i (by simpa using hi) 0 u hu
      rw [Nat.mul_one, Nat.add_zero] at this
      exact this
end
end Go.Proofs.Ytbfhfnejppfehaa
