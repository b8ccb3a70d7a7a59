import Derived.Test.YtglnehinmdmgmaaGreatMErrorsL00
import Derived.Sort.Statements
import Derived.Test.YtglnehinmdmgmaaGreatMErrorsL04
import Derived.Test.YtglnehinmdmgmaaGreatMErrorsL05
/-
  The weighted median, in plain words: the least value up to which half of the weight lies.
-/
namespace Go.Proofs.YtglnehinmdmgmaaGreat
set_option linter.unusedVariables false
set_option linter.unusedSimpArgs false

def sumF {α : Type} (f : α → Int) : List α → Int
  | [] => 0
  | x :: l => f x + sumF f l
section
variable {α : Type}
theorem sumF_append (f : α → Int) (l m : List α) : sumF f (l ++ m) = sumF f l + sumF f m := by
  induction l with
  | nil => simp [sumF]
  | cons x l ih => simp [sumF, ih]; omega
theorem sumF_one (f : α → Int) (x : α) : sumF f [x] = f x := by simp [sumF]
end
theorem sumF_range_succ (f : Nat → Int) (k : Nat) : sumF f (List.range (k + 1)) = sumF f (List.range k) + f k := by
  rw [List.range_succ, sumF_append, sumF_one]
/-! ### The median -/
/-- The weight of the first k values that are not above v. -/
def wTo (vs ws : List Int) (v : Int) (k : Nat) : Int := sumF (fun i => if vs.getD i 0 ≤ v then ws.getD i 0 else 0) (List.range k)
def wAll (ws : List Int) (k : Nat) : Int := sumF (fun i => ws.getD i 0) (List.range k)
/-- Half of the weight lies up to v. -/
def halfTo (vs ws : List Int) (v : Int) : Prop := wAll ws vs.length ≤ 2 * wTo vs ws v vs.length
def isMed (vs ws : List Int) (v : Int) : Prop := v ∈ vs ∧ halfTo vs ws v ∧ ∀ u ∈ vs, halfTo vs ws u → v ≤ u
noncomputable def medOf (vs ws : List Int) : Int := @dite _ (∃ v, isMed vs ws v) (Classical.propDecidable _) (fun h => h.choose) (fun _ => 0)
theorem getD_get {l : List Int} {i : Nat} (h : i < l.length) : l.getD i 0 = l[i] := by
  rw [List.getD_eq_getElem?_getD, List.getElem?_eq_getElem h]; rfl
end Go.Proofs.YtglnehinmdmgmaaGreat

/-
  The least alignment of least cost, in plain words (no program).
-/
namespace Go.Proofs.YtglnehinmdmgmaaGreat
set_option linter.unusedVariables false
set_option linter.unusedSimpArgs false

/-- How far two numbers lie apart. -/
def farM (a b : Int) : Int := if a - b < 0 then b - a else a - b
theorem farM_nn (a b : Int) : 0 ≤ farM a b := by unfold farM; split <;> omega
/-- The least cost of aligning two lists. -/
def mP (s : Int) : List Int → List Int → Int
  | [], b => s * b.length
  | x :: a, [] => s * (x :: a).length
  | x :: a, y :: b => min (min (s + mP s a (y :: b)) (s + mP s (x :: a) b)) (farM x y + mP s a b)
termination_by a b => a.length + b.length
/-- The same, by places. -/
def pM (s : Int) (a b : List Int) (i j : Nat) : Int := mP s (a.drop i) (b.drop j)
section
variable {s : Int} {a b : List Int}
theorem pM_end (j : Nat) (i : Nat) (h : a.length ≤ i) : pM s a b i j = s * ((b.length - j : Nat) : Int) := by
  unfold pM; rw [List.drop_of_length_le h]; simp [mP]
theorem pM_edge (i : Nat) (j : Nat) (h : b.length ≤ j) : pM s a b i j = s * ((a.length - i : Nat) : Int) := by
  unfold pM; rw [List.drop_of_length_le h]
  cases e : a.drop i with
  | nil => have := congrArg List.length e; simp at this; simp [mP, show a.length - i = 0 by omega]
  | cons x l => have := congrArg List.length e; simp only [List.length_drop] at this; rw [mP, ← this]
theorem pM_mid {i j : Nat} (hi : i < a.length) (hj : j < b.length) : pM s a b i j = min (min (s + pM s a b (i + 1) j) (s + pM s a b i (j + 1))) (farM (a.getD i 0) (b.getD j 0) + pM s a b (i + 1) (j + 1)) := by
  unfold pM
  have e1 : a.drop i = a.getD i 0 :: a.drop (i + 1) := by rw [List.drop_eq_getElem_cons hi]; simp [List.getD_eq_getElem?_getD, hi]
  have e2 : b.drop j = b.getD j 0 :: b.drop (j + 1) := by rw [List.drop_eq_getElem_cons hj]; simp [List.getD_eq_getElem?_getD, hj]
  rw [e1, e2, mP]
theorem pM_down {i : Nat} (hi : i < a.length) (j : Nat) : pM s a b i j ≤ s + pM s a b (i + 1) j := by
  by_cases hj : j < b.length
  · rw [pM_mid hi hj]; omega
  · rw [pM_edge i j (by omega), pM_edge (i + 1) j (by omega), show a.length - i = a.length - (i + 1) + 1 by omega, Int.natCast_add, Int.mul_add]; omega
theorem pM_right (i : Nat) {j : Nat} (hj : j < b.length) : pM s a b i j ≤ s + pM s a b i (j + 1) := by
  by_cases hi : i < a.length
  · rw [pM_mid hi hj]; omega
  · rw [pM_end j i (by omega), pM_end (j + 1) i (by omega), show b.length - j = b.length - (j + 1) + 1 by omega, Int.natCast_add, Int.mul_add]; omega
/-- What a price is made of, in the program's way: some options, the least of them. -/
theorem pM_opt {i j : Nat} (h : i < a.length ∨ j < b.length) : pM s a b i j = s + pM s a b (i + 1) j ∧ i < a.length ∨ pM s a b i j = s + pM s a b i (j + 1) ∧ j < b.length ∨ pM s a b i j = farM (a.getD i 0) (b.getD j 0) + pM s a b (i + 1) (j + 1) ∧ i < a.length ∧ j < b.length := by
  by_cases hi : i < a.length
  · by_cases hj : j < b.length
    · rw [pM_mid hi hj]; omega
    · left
      refine ⟨?_, hi⟩
      rw [pM_edge i j (by omega), pM_edge (i + 1) j (by omega), show a.length - i = a.length - (i + 1) + 1 by omega, Int.natCast_add, Int.mul_add]; omega
  · right; left
    have hj : j < b.length := by omega
    refine ⟨?_, hj⟩
    rw [pM_end j i (by omega), pM_end (j + 1) i (by omega), show b.length - j = b.length - (j + 1) + 1 by omega, Int.natCast_add, Int.mul_add]; omega
/-- A struck time is where the alignment goes on. -/
def hitM (s : Int) (a b : List Int) (i j x : Nat) : Prop := pM s a b i j = s * ((x : Int) - j) + farM (a.getD i 0) (b.getD x 0) + pM s a b (i + 1) (x + 1)
theorem hit_some {i : Nat} (hi : i < a.length) : ∀ (f j : Nat), b.length - j ≤ f → j ≤ b.length → ¬ pM s a b i j = s + pM s a b (i + 1) j → ∃ x, j ≤ x ∧ x < b.length ∧ hitM s a b i j x
  | f, j, hf, hj, hn => by
    by_cases hlt : j < b.length
    · rcases pM_opt (s := s) (a := a) (b := b) (i := i) (j := j) (.inl hi) with h | h | h
      · exact absurd h.1 hn
      · cases f with
        | zero => omega
        | succ f =>
          have key : ¬ pM s a b i (j + 1) = s + pM s a b (i + 1) (j + 1) := by
            intro e
            apply hn
            have h1 := pM_right (s := s) (a := a) (b := b) (i + 1) hlt
            have h2 := pM_down (s := s) (b := b) hi j
            omega
          obtain ⟨x, h1, h2, h3⟩ := hit_some hi f (j + 1) (by omega) (by omega) key
          refine ⟨x, by omega, h2, ?_⟩
          unfold hitM at h3 ⊢
          rw [h.1, h3, show (x : Int) - (j : Int) = ((x : Int) - ((j + 1 : Nat) : Int)) + 1 by omega, Int.mul_add]; omega
      · exact ⟨j, Nat.le_refl _, hlt, by unfold hitM; rw [h.1]; simp⟩
    · exfalso; apply hn
      rw [pM_edge i j (by omega), pM_edge (i + 1) j (by omega), show a.length - i = a.length - (i + 1) + 1 by omega, Int.natCast_add, Int.mul_add]; omega
open Classical in
/-- The first place from x on where something holds. -/
noncomputable def fstM (p : Nat → Prop) : Nat → Nat → Nat
  | 0, x => x
  | f + 1, x => if p x then x else fstM p f (x + 1)
theorem fstM_eq {p : Nat → Prop} : ∀ {f x y : Nat}, x ≤ y → y < x + f → p y → (∀ z, x ≤ z → z < y → ¬ p z) → fstM p f x = y
  | 0, x, y, h1, h2, _, _ => by omega
  | f + 1, x, y, h1, h2, hp, hn => by
    simp only [fstM]
    by_cases e : p x
    · rw [if_pos e]
      by_cases hxy : x = y
      · exact hxy
      · exact absurd e (hn x (Nat.le_refl _) (by omega))
    · rw [if_neg e]
      exact fstM_eq (by have : x ≠ y := fun h => e (h ▸ hp); omega) (by omega) hp (fun z h3 h4 => hn z (by omega) h4)
end
open Classical in
/-- What the alignment says of the first k ideal times, and where it goes on. -/
noncomputable def ofM (s : Int) (a b : List Int) : Nat → List Int × Nat
  | 0 => ([], 0)
  | i + 1 => if pM s a b i (ofM s a b i).2 = s + pM s a b (i + 1) (ofM s a b i).2 then ((ofM s a b i).1 ++ [-1], (ofM s a b i).2)
    else ((ofM s a b i).1 ++ [((fstM (hitM s a b i (ofM s a b i).2) (b.length + 1) (ofM s a b i).2 : Nat) : Int)], fstM (hitM s a b i (ofM s a b i).2) (b.length + 1) (ofM s a b i).2 + 1)
section
variable {s : Int} {a b : List Int}
theorem ofM_miss {i : Nat} (h : pM s a b i (ofM s a b i).2 = s + pM s a b (i + 1) (ofM s a b i).2) : ofM s a b (i + 1) = ((ofM s a b i).1 ++ [-1], (ofM s a b i).2) := by
  simp only [ofM]; rw [if_pos h]
theorem ofM_hit {i y : Nat} (h : ¬ pM s a b i (ofM s a b i).2 = s + pM s a b (i + 1) (ofM s a b i).2) (h1 : (ofM s a b i).2 ≤ y) (h2 : y < b.length) (hp : hitM s a b i (ofM s a b i).2 y) (hn : ∀ z, (ofM s a b i).2 ≤ z → z < y → ¬ hitM s a b i (ofM s a b i).2 z) :
    ofM s a b (i + 1) = ((ofM s a b i).1 ++ [(y : Int)], y + 1) := by
  have e := fstM_eq (p := hitM s a b i (ofM s a b i).2) (f := b.length + 1) h1 (by omega) hp hn
  simp only [ofM]; rw [if_neg h, e]
theorem hit_first {p : Nat → Prop} : ∀ (f j x : Nat), x < j + f → j ≤ x → p x → ∃ y, j ≤ y ∧ y ≤ x ∧ p y ∧ ∀ z, j ≤ z → z < y → ¬ p z
  | 0, j, x, h, h2, _ => by omega
  | f + 1, j, x, h, h2, hp => by
    by_cases e : p j
    · exact ⟨j, Nat.le_refl _, h2, e, fun z h3 h4 => by omega⟩
    · have hne : j ≠ x := fun e2 => e (e2 ▸ hp)
      obtain ⟨y, h3, h4, h5, h6⟩ := hit_first f (j + 1) x (by omega) (by omega) hp
      refine ⟨y, by omega, h4, h5, fun z h7 h8 => ?_⟩
      by_cases ez : z = j
      · rw [ez]; exact e
      · exact h6 z (by omega) h8
theorem ofM_inv : ∀ i, i ≤ a.length → (ofM s a b i).2 ≤ b.length ∧ (ofM s a b i).1.length = i ∧ ∀ x ∈ (ofM s a b i).1, -1 ≤ x ∧ x < b.length := by
  intro i
  induction i with
  | zero => intro _; exact ⟨Nat.zero_le _, rfl, by simp [ofM]⟩
  | succ i ih =>
    intro hi
    obtain ⟨h1, h2, h3⟩ := ih (by omega)
    by_cases h : pM s a b i (ofM s a b i).2 = s + pM s a b (i + 1) (ofM s a b i).2
    · rw [ofM_miss h]
      refine ⟨h1, by simp [h2], fun x hx => ?_⟩
      rcases List.mem_append.1 hx with hx | hx
      · exact h3 x hx
      · rw [List.mem_singleton.1 hx]; omega
    · obtain ⟨x, hx1, hx2, hx3⟩ := hit_some (b := b) (show i < a.length by omega) (b.length - (ofM s a b i).2) (ofM s a b i).2 (Nat.le_refl _) h1 h
      obtain ⟨y, hy1, hy2, hy3, hy4⟩ := hit_first (p := hitM s a b i (ofM s a b i).2) (b.length + 1) _ x (by omega) hx1 hx3
      rw [ofM_hit h hy1 (by omega) hy3 hy4]
      refine ⟨by simp only; omega, by simp [h2], fun z hz => ?_⟩
      rcases List.mem_append.1 hz with hz | hz
      · exact h3 z hz
      · rw [List.mem_singleton.1 hz]; omega
/-- Prices are not large. -/
theorem mP_bd (h : 0 ≤ s) : ∀ (a b : List Int), 0 ≤ mP s a b ∧ mP s a b ≤ s * ((a.length + b.length : Nat) : Int)
  | [], b => by
    simp only [mP, List.length_nil, Nat.zero_add]
    exact ⟨Int.mul_nonneg h (by omega), Int.le_refl _⟩
  | x :: a, [] => by
    simp only [mP, List.length_nil, Nat.add_zero]
    exact ⟨Int.mul_nonneg h (by omega), Int.le_refl _⟩
  | x :: a, y :: b => by
    have h1 := mP_bd h a (y :: b)
    have h2 := mP_bd h (x :: a) b
    have h3 := mP_bd h a b
    have h4 := farM_nn x y
    rw [mP]
    have e : s * (((x :: a).length + (y :: b).length : Nat) : Int) = s + s * ((a.length + (y :: b).length : Nat) : Int) := by
      rw [show (x :: a).length + (y :: b).length = (a.length + (y :: b).length) + 1 by simp; omega, Int.natCast_add, Int.mul_add]; omega
    omega
termination_by a b => a.length + b.length
theorem pM_bd (h : 0 ≤ s) (i j : Nat) : 0 ≤ pM s a b i j ∧ pM s a b i j ≤ s * ((a.length + b.length : Nat) : Int) := by
  have := mP_bd h (a.drop i) (b.drop j)
  have h2 : s * (((a.drop i).length + (b.drop j).length : Nat) : Int) ≤ s * ((a.length + b.length : Nat) : Int) := Int.mul_le_mul_of_nonneg_left (by simp; omega) h
  unfold pM; omega
end
end Go.Proofs.YtglnehinmdmgmaaGreat

/-
  Beats and the ideal times of blows: in plain words, and the contracts of both sides.
-/
namespace Go.Proofs.YtglnehinmdmgmaaGreat
open Go.RowKit
set_option linter.unusedVariables false
set_option linter.unusedSimpArgs false
set_option maxRecDepth 100000

/-- The ideal time of a blow. -/
def blowV (st gap hand n r p : Int) : Int := st + gap * (n * r + p - 1) + hand * (r / 2)
theorem mul_bd {a b A B : Int} (h0 : 0 ≤ a) (h1 : a ≤ A) (h2 : 0 ≤ b) (h3 : b ≤ B) : 0 ≤ a * b ∧ a * b ≤ A * B :=
  ⟨Int.mul_nonneg h0 h2, Int.mul_le_mul h1 h3 h2 (by omega)⟩

theorem blowAt_any (st gap hand n p : Int) (r : Nat) (w : World) (hs : 0 ≤ st ∧ st ≤ 1000000) (hg : 0 ≤ gap ∧ gap ≤ 2000) (hh : 0 ≤ hand ∧ hand ≤ 2000) (hn : 3 ≤ n ∧ n ≤ 8) (hr : r ≤ 800) (hp : 1 ≤ p ∧ p ≤ 8) :
    Calls Tryz.prog 30 #[.agg #[.int .i64 st, .int .i64 gap, .int .i64 hand], .int .i64 n, .int .i64 (r : Int), .int .i64 p] w fun e w' => e = .returned (.int .i64 (blowV st gap hand n r p)) ∧ w' = w.alloc (.cells #[.int .i64 st, .int .i64 gap, .int .i64 hand] 33) := by
  obtain ⟨hs1, hs2⟩ := hs
  obtain ⟨hg1, hg2⟩ := hg
  obtain ⟨hh1, hh2⟩ := hh
  obtain ⟨hn1, hn2⟩ := hn
  obtain ⟨hp1, hp2⟩ := hp
  obtain ⟨m1, m2⟩ := mul_bd (a := n) (b := (r : Int)) (A := 8) (B := 800) (by omega) hn2 (by omega) (by omega)
  obtain ⟨m3, m4⟩ := mul_bd (a := gap) (b := n * (r : Int) + p - 1) (A := 2000) (B := 6407) (by omega) hg2 (by omega) (by omega)
  obtain ⟨m5, m6⟩ := mul_bd (a := hand) (b := (r : Int) / 2) (A := 2000) (B := 400) (by omega) hh2 (by omega) (by omega)
  go_enter Tryz.func30, Tryz.ntmps30
  go_wp2
  go_ret
  exact ⟨rfl, rfl⟩
theorem l21Blow_any (st gap hand n p : Int) (r : Nat) (w : World) (hs : 0 ≤ st ∧ st ≤ 1000000) (hg : 0 ≤ gap ∧ gap ≤ 2000) (hh : 0 ≤ hand ∧ hand ≤ 2000) (hn : 3 ≤ n ∧ n ≤ 8) (hr : r ≤ 800) (hp : 1 ≤ p ∧ p ≤ 8) :
    Calls Tryz.prog 32 #[.agg #[.int .i64 st, .int .i64 gap, .int .i64 hand], .int .i64 n, .int .i64 (r : Int), .int .i64 p] w fun e w' => e = .returned (.int .i64 (blowV st gap hand n r p)) ∧ w' = w.alloc (.cells #[.int .i64 st, .int .i64 gap, .int .i64 hand] 33) := by
  obtain ⟨hs1, hs2⟩ := hs
  obtain ⟨hg1, hg2⟩ := hg
  obtain ⟨hh1, hh2⟩ := hh
  obtain ⟨hn1, hn2⟩ := hn
  obtain ⟨hp1, hp2⟩ := hp
  obtain ⟨m1, m2⟩ := mul_bd (a := n) (b := (r : Int)) (A := 8) (B := 800) (by omega) hn2 (by omega) (by omega)
  obtain ⟨m3, m4⟩ := mul_bd (a := gap) (b := n * (r : Int) + p - 1) (A := 2000) (B := 6407) (by omega) hg2 (by omega) (by omega)
  obtain ⟨m5, m6⟩ := mul_bd (a := hand) (b := (r : Int) / 2) (A := 2000) (B := 400) (by omega) hh2 (by omega) (by omega)
  go_enter Tryz.func32, Tryz.ntmps32
  go_wp2
  go_ret
  exact ⟨rfl, rfl⟩

/-- A valid beat. -/
def beatP (t : Int × Int × Int) : Prop := inB t.1 0 1000000 ∧ inB t.2.1 1 2000 ∧ inB t.2.2 0 2000

theorem goodBeat_any (t : Int × Int × Int) (w : World) : Calls Tryz.prog 29 #[.agg #[.int .i64 t.1, .int .i64 t.2.1, .int .i64 t.2.2]] w fun e w' => e = .returned (.bool (B (beatP t))) ∧ Below w.heap.size w w' := by
  obtain ⟨a, b, c⟩ := t
  show Calls _ _ #[.agg #[.int .i64 a, .int .i64 b, .int .i64 c]] _ fun e w' => e = .returned (.bool (B (inB a 0 1000000 ∧ inB b 1 2000 ∧ inB c 0 2000))) ∧ _
  by_cases h_0 : inB a 0 1000000
  rotate_left
  · have H := Lib.hid h_0
    have e_0 := B_f h_0
    clear h_0
    go_enter Tryz.func29, Tryz.ntmps29
    go_wp2_with (go_at_call 20; refine (within_any _ _ _ _).mono ?_; rintro e w' ⟨rfl, rfl⟩)
    go_ret
    exact ⟨ret_f (fun x => H.out x.1), (Below.refl _ _).alloc (Nat.le_refl _) _⟩
  have H_0 := Lib.hid h_0
  have e_0 := B_t h_0
  clear h_0
  by_cases h_1 : inB b 1 2000
  rotate_left
  · have H := Lib.hid h_1
    have e_1 := B_f h_1
    clear h_1
    go_enter Tryz.func29, Tryz.ntmps29
    go_wp2_with (go_at_call 20; refine (within_any _ _ _ _).mono ?_; rintro e w' ⟨rfl, rfl⟩)
    go_ret
    exact ⟨ret_f (fun x => H.out x.2.1), (Below.refl _ _).alloc (Nat.le_refl _) _⟩
  have H_1 := Lib.hid h_1
  have e_1 := B_t h_1
  clear h_1
  by_cases h_2 : inB c 0 2000
  rotate_left
  · have H := Lib.hid h_2
    have e_2 := B_f h_2
    clear h_2
    go_enter Tryz.func29, Tryz.ntmps29
    go_wp2_with (go_at_call 20; refine (within_any _ _ _ _).mono ?_; rintro e w' ⟨rfl, rfl⟩)
    go_ret
    exact ⟨ret_f (fun x => H.out x.2.2), (Below.refl _ _).alloc (Nat.le_refl _) _⟩
  have H_2 := Lib.hid h_2
  have e_2 := B_t h_2
  clear h_2
  go_enter Tryz.func29, Tryz.ntmps29
  go_wp2_with (go_at_call 20; refine (within_any _ _ _ _).mono ?_; rintro e w' ⟨rfl, rfl⟩)
  go_ret
  exact ⟨ret_t ⟨H_0.out, H_1.out, H_2.out⟩, (Below.refl _ _).alloc (Nat.le_refl _) _⟩

theorem l21Beat_any (t : Int × Int × Int) (w : World) : Calls Tryz.prog 31 #[.agg #[.int .i64 t.1, .int .i64 t.2.1, .int .i64 t.2.2]] w fun e w' => e = .returned (.bool (B (beatP t))) ∧ Below w.heap.size w w' := by
  obtain ⟨a, b, c⟩ := t
  show Calls _ _ #[.agg #[.int .i64 a, .int .i64 b, .int .i64 c]] _ fun e w' => e = .returned (.bool (B (inB a 0 1000000 ∧ inB b 1 2000 ∧ inB c 0 2000))) ∧ _
  by_cases h_0 : inB a 0 1000000
  rotate_left
  · have H := Lib.hid h_0
    have e_0 := B_f h_0
    clear h_0
    go_enter Tryz.func31, Tryz.ntmps31
    go_wp2_with (go_at_call 53; refine (l1In_any _ _ _ _).mono ?_; rintro e w' ⟨rfl, rfl⟩)
    go_ret
    exact ⟨ret_f (fun x => H.out x.1), (Below.refl _ _).alloc (Nat.le_refl _) _⟩
  have H_0 := Lib.hid h_0
  have e_0 := B_t h_0
  clear h_0
  by_cases h_1 : inB b 1 2000
  rotate_left
  · have H := Lib.hid h_1
    have e_1 := B_f h_1
    clear h_1
    go_enter Tryz.func31, Tryz.ntmps31
    go_wp2_with (go_at_call 53; refine (l1In_any _ _ _ _).mono ?_; rintro e w' ⟨rfl, rfl⟩)
    go_ret
    exact ⟨ret_f (fun x => H.out x.2.1), (Below.refl _ _).alloc (Nat.le_refl _) _⟩
  have H_1 := Lib.hid h_1
  have e_1 := B_t h_1
  clear h_1
  by_cases h_2 : inB c 0 2000
  rotate_left
  · have H := Lib.hid h_2
    have e_2 := B_f h_2
    clear h_2
    go_enter Tryz.func31, Tryz.ntmps31
    go_wp2_with (go_at_call 53; refine (l1In_any _ _ _ _).mono ?_; rintro e w' ⟨rfl, rfl⟩)
    go_ret
    exact ⟨ret_f (fun x => H.out x.2.2), (Below.refl _ _).alloc (Nat.le_refl _) _⟩
  have H_2 := Lib.hid h_2
  have e_2 := B_t h_2
  clear h_2
  go_enter Tryz.func31, Tryz.ntmps31
  go_wp2_with (go_at_call 53; refine (l1In_any _ _ _ _).mono ?_; rintro e w' ⟨rfl, rfl⟩)
  go_ret
  exact ⟨ret_t ⟨H_0.out, H_1.out, H_2.out⟩, (Below.refl _ _).alloc (Nat.le_refl _) _⟩

end Go.Proofs.YtglnehinmdmgmaaGreat

/-
  Contracts: lists of rows (both sides); two lists of rows of one length and stage.
-/
namespace Go.Proofs.YtglnehinmdmgmaaGreat
open Go.RowKit
set_option linter.unusedVariables false
set_option linter.unusedSimpArgs false
set_option maxRecDepth 100000

/-- The size of a list's first row. -/
def sz0 (l : List ByteArray) : Nat := match l with | [] => 0 | x :: _ => x.size
theorem sz0_eq (l : List ByteArray) (h : 0 < l.length) : sz0 l = l[0].size := by
  cases l with
  | nil => simp at h
  | cons x l => rfl
/-- A list of rows of one stage. -/
def rowsP (l : List ByteArray) : Prop := l.length ≤ 800 ∧ ∀ (i : Nat) (hi : i < l.length), isRow l[i] ∧ l[i].size = sz0 l


set_option maxHeartbeats 800000 in
theorem goodRows_any (l : List ByteArray) (A : Option Addr) (c : Nat) (w : World) (h : RdL w w.heap.size A 1 encString l) (hl : l.length ≤ 1048576) (hs : ∀ x ∈ l, String_small 1048576 x) :
    Calls Tryz.prog 18 #[.slice A l.length c] w fun e w' => e = .returned (.bool (B (rowsP l))) ∧ w = w' := by
  by_cases hn : 800 < l.length
  · go_enter Tryz.func18, Tryz.ntmps18
    go_wp2
    go_ret
    exact ⟨ret_f (fun x => by have := x.1; omega), rfl⟩
  go_enter Tryz.func18, Tryz.ntmps18
  go_wp2
  go_loop [10] (fun i => ∃ k : Nat, k ≤ l.length ∧ i = .int .i64 k ∧ (∀ (j : Nat) (hj : j < l.length), j < k → isRow l[j] ∧ l[j].size = sz0 l)) (fun i => l.length - (intOf i).toNat)
  case atStart => exact ⟨0, by omega, by rfl, by omega⟩
  case round =>
    obtain ⟨k, hk, rfl, hp⟩ := hrel
    have Hp := Lib.hid hp
    clear hp
    by_cases hlt : k < l.length
    · obtain ⟨g, off, hA, hg, hcell⟩ := h.at hlt
      obtain ⟨g', off', hA', hg', hcell'⟩ := h.at (k := 0) (by omega)
      subst hA
      simp only [Option.some.injEq, Addr.mk.injEq, and_true] at hA'
      obtain ⟨rfl, rfl⟩ := hA'
      have r0 : w.cell? ⟨g, off + k, none⟩ = some (.string l[k]) := by have := hcell 0 _ rfl; rw [Nat.mul_one] at this; exact this
      have q0 : w.cell? ⟨g, off, none⟩ = some (.string l[0]) := hcell' 0 _ rfl
      have es := sz0_eq l (by omega)
      clear hcell hcell' h
      obtain ⟨x, hx⟩ : ∃ x, Hid (l[k] = x) := ⟨l[k], Lib.hid rfl⟩
      obtain ⟨y, hy⟩ : ∃ y, Hid (l[0] = y) := ⟨l[0], Lib.hid rfl⟩
      rw [hx.out] at r0
      rw [hy.out] at q0 es
      have Es := Lib.hid es
      clear es
      have hxy : (x.size : Int) ≤ 1048576 ∧ (y.size : Int) ≤ 1048576 := ⟨by rw [← hx.out]; exact hs _ (List.getElem_mem _), by rw [← hy.out]; exact hs _ (List.getElem_mem _)⟩
      by_cases hc : isRowOf y.size x
      · have e1 := B_t hc
        have Hc := Lib.hid hc
        clear hc hs
        go_wp2_with (go_at_call 49; refine (isRowOf_any _ _ _).mono ?_; rintro e w' ⟨rfl, rfl⟩)
        go_round
        case rel =>
          refine ⟨k + 1, by omega, by go_num, fun j hj hj1 => ?_⟩
          rcases Nat.lt_or_eq_of_le (Nat.le_of_lt_succ hj1) with h' | rfl
          · exact Hp.out j hj h'
          · rw [hx.out, Es.out]; exact ⟨Hc.out.2, by have := Hc.out.1; omega⟩
        case measure => simp [intOf]; omega
      · have e1 := B_f hc
        have Hc := Lib.hid hc
        clear hc hs
        go_wp2_with (go_at_call 49; refine (isRowOf_any _ _ _).mono ?_; rintro e w' ⟨rfl, rfl⟩)
        go_ret
        refine ⟨ret_f (fun h => Hc.out ?_), rfl⟩
        have := h.2 k hlt
        rw [hx.out, Es.out] at this
        exact ⟨by omega, this.1⟩
    · obtain rfl : k = l.length := by omega
      go_wp2
      go_ret
      exact ⟨ret_t ⟨by omega, fun i hi => Hp.out i hi hi⟩, rfl⟩
set_option maxHeartbeats 1600000 in
theorem l6Rows_any (l : List ByteArray) (A : Option Addr) (c : Nat) (w : World) (h : RdL w w.heap.size A 1 encString l) (hl : l.length ≤ 1048576) (hs : ∀ x ∈ l, String_small 1048576 x) :
    Calls Tryz.prog 23 #[.slice A l.length c] w fun e w' => e = .returned (.bool (B (rowsP l))) ∧ ∃ n, w' = w.drewN n := by
  go_enter Tryz.func23, Tryz.ntmps23
  go_wp2
  go_loopw [7] (fun i wr => ∃ k : Nat, k ≤ l.length ∧ i = .int .i64 k ∧ (∀ (j : Nat) (hj : j < l.length), j < k → isRow l[j] ∧ l[j].size = sz0 l) ∧ ∃ n, wr = w.drewN n) (fun i _ => l.length - (intOf i).toNat)
  case atStart => exact ⟨0, by omega, by rfl, by omega, 0, rfl⟩
  case round =>
    obtain ⟨k, hk, rfl, hp, n, rfl⟩ := hrel
    have Hp := Lib.hid hp
    clear hp
    by_cases hlt : k < l.length
    · obtain ⟨g, off, hA, hg, hcell⟩ := h.at hlt
      obtain ⟨g', off', hA', hg', hcell'⟩ := h.at (k := 0) (by omega)
      subst hA
      simp only [Option.some.injEq, Addr.mk.injEq, and_true] at hA'
      obtain ⟨rfl, rfl⟩ := hA'
      have r0 : w.cell? ⟨g, off + k, none⟩ = some (.string l[k]) := by have := hcell 0 _ rfl; rw [Nat.mul_one] at this; exact this
      have q0 : w.cell? ⟨g, off, none⟩ = some (.string l[0]) := hcell' 0 _ rfl
      have es := sz0_eq l (by omega)
      clear hcell hcell' h
      obtain ⟨x, hx⟩ : ∃ x, Hid (l[k] = x) := ⟨l[k], Lib.hid rfl⟩
      obtain ⟨y, hy⟩ : ∃ y, Hid (l[0] = y) := ⟨l[0], Lib.hid rfl⟩
      rw [hx.out] at r0
      rw [hy.out] at q0 es
      have Es := Lib.hid es
      clear es
      have hxy : (x.size : Int) ≤ 1048576 ∧ (y.size : Int) ≤ 1048576 := ⟨by rw [← hx.out]; exact hs _ (List.getElem_mem _), by rw [← hy.out]; exact hs _ (List.getElem_mem _)⟩
      obtain ⟨hx1, hy1⟩ := hxy
      by_cases hc : isRow x
      · have e1 := B_t hc
        have Hc := Lib.hid hc
        clear hc hs
        by_cases hz : x.size = y.size
        · have hzb : ((x.size : Int) != y.size) = false := by simp [hz]
          have Hz := Lib.hid hz
          clear hz
          go_wp2_with (go_at_call 52; refine (l1Row_any _ _).mono ?_; rintro e w' ⟨rfl, m, rfl⟩)
          go_roundw
          case rel =>
            refine ⟨k + 1, by omega, by go_num, fun j hj hj1 => ?_, _, rfl⟩
            rcases Nat.lt_or_eq_of_le (Nat.le_of_lt_succ hj1) with h' | rfl
            · exact Hp.out j hj h'
            · rw [hx.out, Es.out]; exact ⟨Hc.out, Hz.out⟩
          case measure => simp [intOf]; omega
        · have hzb : ((x.size : Int) != y.size) = true := by rw [bne_iff_ne]; omega
          have Hz := Lib.hid hz
          clear hz
          go_wp2_with (go_at_call 52; refine (l1Row_any _ _).mono ?_; rintro e w' ⟨rfl, m, rfl⟩)
          go_ret
          refine ⟨ret_f (fun h => Hz.out ?_), _, rfl⟩
          have := h.2 k hlt
          rw [hx.out, Es.out] at this
          exact this.2
      · have e1 := B_f hc
        have Hc := Lib.hid hc
        clear hc hs
        go_wp2_with (go_at_call 52; refine (l1Row_any _ _).mono ?_; rintro e w' ⟨rfl, m, rfl⟩)
        go_ret
        refine ⟨ret_f (fun h => Hc.out ?_), _, rfl⟩
        have := h.2 k hlt
        rw [hx.out] at this
        exact this.1
    · obtain rfl : k = l.length := by omega
      by_cases hn : l.length ≤ 800
      · go_wp2
        go_ret
        exact ⟨by rw [B_t (show rowsP l from ⟨hn, fun i hi => Hp.out i hi hi⟩)]; simp; omega, _, rfl⟩
      · go_wp2
        go_ret
        exact ⟨by rw [B_f (show ¬ rowsP l from fun x => hn x.1)]; simp; omega, _, rfl⟩
end Go.Proofs.YtglnehinmdmgmaaGreat
