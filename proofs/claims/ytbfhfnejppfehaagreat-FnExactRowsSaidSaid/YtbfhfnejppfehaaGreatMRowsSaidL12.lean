import Derived.Test.YtbfhfnejppfehaaGreatMRowsSaidL11
import Derived.Test.YtbfhfnejppfehaaGreatMRowsSaidL01
/-
  A band as a result: what it holds, where its slices lie; marks on it; NewBand of both sides.
-/
namespace Go.Proofs.YtbfhfnejppfehaaGreat
open Go.RowKit
set_option linter.unusedVariables false
set_option linter.unusedSimpArgs false
set_option maxRecDepth 100000

/-- What a band holds. -/
structure Bd where
  name : ByteArray
  stage : Int
  x : List ByteArray
  bob : ByteArray
  sing : ByteArray
  step : Int
  call : ByteArray
  tru : ByteArray
  rx : List Rgr
def Bd.zero : Bd := ⟨⟨#[]⟩, 0, [], ⟨#[]⟩, ⟨#[]⟩, 0, ⟨#[]⟩, ⟨#[]⟩, []⟩
/-- The value is that band; its slices lie in two ranges of blocks. -/
def BdAt (d : Bd) (v : Value) (lo hi : Nat) (w : World) : Prop :=
  ∃ A1 c1 A3 c3 gs, v = .agg #[.string d.name, .int .i64 d.stage, .slice A1 d.x.length c1, .string d.bob, .string d.sing, .int .i64 d.step, .string d.call, .string d.tru, .slice A3 d.rx.length c3] ∧ lo ≤ gs ∧ gs ≤ hi ∧ OwnL w lo gs A1 1 encString d.x ∧ OwnL w gs hi A3 2 Rgr.enc d.rx
theorem loc_bd (d : Bd) (v : Value) (lo hi : Nat) : GLoc ⟨lo, hi, fun w => BdAt d v lo hi w, true⟩ :=
  loc_ex fun _ => loc_ex fun _ => loc_ex fun _ => loc_ex fun _ => loc_ex fun gs => loc_imp fun _ => loc_imp fun h1 => loc_imp fun h2 => loc_and (loc_own (Nat.le_refl _) h2) (loc_own h1 (Nat.le_refl _))
theorem BdAt.later {d : Bd} {v : Value} {lo hi : Nat} {w w' : World} (h : BdAt d v lo hi w) (hb : Below w.heap.size w w') : BdAt d v lo hi w' := by
  obtain ⟨A1, c1, A3, c3, gs, hv, h1, h2, o1, o3⟩ := h
  exact ⟨A1, c1, A3, c3, gs, hv, h1, h2, o1.later hb, o3.later hb⟩
theorem BdAt.chg {d : Bd} {v : Value} {lo hi b c : Nat} {w w' : World} (h : BdAt d v lo hi w) (k : Chg b c w w') (hr : hi ≤ b ∨ c ≤ lo) : BdAt d v lo hi w' := by
  obtain ⟨A1, c1, A3, c3, gs, hv, h1, h2, o1, o3⟩ := h
  exact ⟨A1, c1, A3, c3, gs, hv, h1, h2, o1.chg k (by omega), o3.chg k (by omega)⟩
theorem BdAt.open {d : Bd} {A1 A3 : Option Addr} {c1 c3 lo hi : Nat} {w : World} (h : BdAt d (.agg #[.string d.name, .int .i64 d.stage, .slice A1 d.x.length c1, .string d.bob, .string d.sing, .int .i64 d.step, .string d.call, .string d.tru, .slice A3 d.rx.length c3]) lo hi w) : ∃ gs, lo ≤ gs ∧ gs ≤ hi ∧ OwnL w lo gs A1 1 encString d.x ∧ OwnL w gs hi A3 2 Rgr.enc d.rx := by
  obtain ⟨A1', c1', A3', c3', gs, hv, h1, h2, o1, o3⟩ := h
  obtain ⟨⟨rfl, rfl⟩, rfl, rfl⟩ : (A1 = A1' ∧ c1 = c1') ∧ A3 = A3' ∧ c3 = c3' := by simpa using hv
  exact ⟨gs, h1, h2, o1, o3⟩
def BdRet (d : Bd) (ok : Bool) (w : World) (e : Ending) (w' : World) : Prop := ∃ v, e = .returned (.tuple #[v, .bool ok]) ∧ BdAt d v w.heap.size w'.heap.size w' ∧ Below w.heap.size w w'
def BdOne (d : Bd) (w : World) (e : Ending) (w' : World) : Prop := ∃ v, e = .returned v ∧ BdAt d v w.heap.size w'.heap.size w' ∧ Below w.heap.size w w'
theorem BdAt.zero (lo hi : Nat) (w : World) (h : lo ≤ hi) : BdAt Bd.zero (.agg #[.string ⟨#[]⟩, .int .i64 0, .slice none 0 0, .string ⟨#[]⟩, .string ⟨#[]⟩, .int .i64 0, .string ⟨#[]⟩, .string ⟨#[]⟩, .slice none 0 0]) lo hi w :=
  ⟨none, 0, none, 0, lo, rfl, Nat.le_refl _, h, .inl rfl, .inl rfl⟩


end Go.Proofs.YtbfhfnejppfehaaGreat

/-
  Contracts of chapter 1: products and inverses of rows.
-/
namespace Go.Proofs.YtbfhfnejppfehaaGreat
open Go.RowKit
set_option linter.unusedVariables false
set_option linter.unusedSimpArgs false
set_option maxRecDepth 100000

theorem byte_info : (Tryz.prog.info? 5).map (fun i => (i.zero, i.size, i.bytes)) = some (some (.int .u8 0), 1, 1) := by kernel_rfl

/-- The product of two rows. -/
def timesL (a b : ByteArray) : List Int := (List.range b.size).map fun i : Nat => bat a (bat b i - 49)
def timesS (a b : ByteArray) : ByteArray := mkS (timesL a b)
theorem size_times (a b : ByteArray) : (timesS a b).size = b.size := by unfold timesS timesL; rw [size_mkS]; simp
theorem bat_times (a b : ByteArray) (i : Nat) (h : i < b.size) : bat (timesS a b) i = bat a (bat b i - 49) := by
  unfold timesS
  have hl : i < (timesL a b).length := by simpa [timesL] using h
  have e : (timesL a b)[i] = bat a (bat b i - 49) := by simp [timesL]
  rw [bat_mkS _ i hl (by rw [e]; exact bat_lo _ _) (by rw [e]; exact bat_hi _ _), e]

set_option maxHeartbeats 800000 in
theorem times_any (a b : ByteArray) (w : World) (hb : b.size ≤ 1000000) (h : ∀ i : Nat, i < b.size → 49 ≤ bat b i ∧ bat b i < 49 + a.size) :
    Calls Tryz.prog 163 #[.string a, .string b] w fun e w' => e = .returned (.string (timesS a b)) ∧ Below w.heap.size w w' := by
  have H := Lib.hid h
  clear h
  go_enter Tryz.func163, Tryz.ntmps163
  go_wp2_with (refine wpList_make_cells rfl 22 _ rfl 5 _ 1 rfl byte_info rfl .i64 b.size rfl (by omega) (by omega) ?_; intro w1 hc1 hb1 _)
  go_loopw [12] (fun i wr => ∃ k : Nat, k ≤ b.size ∧ i = .int .i64 k ∧ Cells wr w.heap.size b.size (fun j => if j < k then .int .u8 (bat a (bat b j - 49)) else .int .u8 0) ∧ Below w.heap.size w wr) (fun i _ => b.size - (intOf i).toNat)
  case atStart => exact ⟨0, by omega, by rfl, hc1.congr (fun i _ => by simp), hb1⟩
  case round =>
    obtain ⟨k, hk, rfl, hc, hbl⟩ := hrel
    by_cases hlt : k < b.size
    · obtain ⟨h1, h2⟩ := H.out k hlt
      have hx := bat_hi a (bat b k - 49)
      have hx0 := bat_lo a (bat b k - 49)
      have hy := bat_hi b k
      have hcell := hc.cell hlt
      have hfree := hc.free hlt
      have Hc := Lib.hid hc
      have Hbl := Lib.hid hbl
      clear hc hbl hc1 hb1
      go_wp2
      go_roundw
      case rel =>
        refine ⟨k + 1, by omega, by go_num, (Hc.out.set hlt _).congr fun j _ => ?_, Hbl.out.setCell (p := ⟨w.heap.size, k, none⟩) (Nat.le_refl _) _⟩
        by_cases e : j = k
        · subst e; rw [upd_same, if_pos (by omega)]
        · rw [upd_other _ _ _ _ e]
          by_cases hj : j < k
          · rw [if_pos hj, if_pos (by omega)]
          · rw [if_neg hj, if_neg (by omega)]
      case measure => simp [intOf]; omega
    · obtain rfl : k = b.size := by omega
      have hs := run_convert_bytes_arg (P := Tryz.prog) wr 22 5 rfl rfl w.heap.size 0 b.size b.size (timesL a b) (by simp [timesL]) (fun i hi => by
        have := hc.cell hi
        rw [if_pos hi] at this
        rw [Nat.zero_add, this]
        simp [timesL, hi]) 9 rfl
      have Hbl := Lib.hid hbl
      clear hc hbl hc1 hb1
      go_wp2
      go_ret
      exact ⟨rfl, Hbl.out⟩

/-- The inverse of a row: at each place the place of the bell there. -/
def placeAt (a : ByteArray) (v : Int) : Nat → Int
  | 0 => 0
  | n + 1 => if bat a n = v then n + 1 else placeAt a v n
/-- The place of a bell (0: none). -/
def placeS (a : ByteArray) (bell : Int) : Int := placeAt a (48 + bell) a.size
theorem placeAt_le (a : ByteArray) (v : Int) (n : Nat) : 0 ≤ placeAt a v n ∧ placeAt a v n ≤ n := by
  induction n with
  | zero => simp [placeAt]
  | succ n ih => unfold placeAt; split <;> omega
theorem placeAt_hit (a : ByteArray) (v : Int) (n i : Nat) (hi : i < n) (h : bat a i = v) (hd : ∀ j : Nat, j < n → bat a j = v → j = i) : placeAt a v n = i + 1 := by
  induction n with
  | zero => omega
  | succ n ih =>
    unfold placeAt
    by_cases e : bat a n = v
    · rw [if_pos e]; have := hd n (by omega) e; omega
    · rw [if_neg e]
      exact ih (by rcases Nat.lt_or_eq_of_le (Nat.le_of_lt_succ hi) with h' | rfl; exact h'; exact absurd h e) (fun j hj hv => hd j (by omega) hv)
theorem placeAt_none (a : ByteArray) (v : Int) (n : Nat) (h : ∀ j : Nat, j < n → bat a j ≠ v) : placeAt a v n = 0 := by
  induction n with
  | zero => rfl
  | succ n ih => unfold placeAt; rw [if_neg (h n (by omega))]; exact ih (fun j hj => h j (by omega))
theorem isRow.inj {a : ByteArray} (h : isRow a) {i j : Nat} (hi : i < a.size) (hj : j < a.size) (e : bat a i = bat a j) : i = j := by
  rcases Nat.lt_trichotomy i j with h' | h' | h'
  · exact absurd e (h.2.2.2 i j h' hj)
  · exact h'
  · exact absurd e.symm (h.2.2.2 j i h' hi)
theorem isRow.place {a : ByteArray} (h : isRow a) {i : Nat} (hi : i < a.size) : placeS a (bat a i - 48) = i + 1 := by
  unfold placeS
  exact placeAt_hit a _ a.size i hi (by omega) (fun j hj e => h.inj hj hi (by omega))
/-- An injective map of the first n numbers into themselves hits each. -/
theorem hit_all (n : Nat) : ∀ (f : Nat → Nat), (∀ i, i < n → f i < n) → (∀ i j, i < n → j < n → f i = f j → i = j) → ∀ v, v < n → ∃ i, i < n ∧ f i = v := by
  induction n with
  | zero => intro f _ _ v hv; omega
  | succ n ih =>
    intro f hf hi v hv
    by_cases hn : ∃ i, i < n + 1 ∧ f i = v
    · exact hn
    · exfalso
      -- f misses v: squeeze it
      let g : Nat → Nat := fun i => if f i < v then f i else f i - 1
      have hne : ∀ i, i < n + 1 → f i ≠ v := fun i h e => hn ⟨i, h, e⟩
      have hg : ∀ i, i < n + 1 → g i < n := fun i h => by
        have := hf i h; have := hne i h; simp only [g]; split <;> omega
      have hgi : ∀ i j, i < n + 1 → j < n + 1 → g i = g j → i = j := fun i j h1 h2 e => by
        have := hne i h1; have := hne j h2
        apply hi i j h1 h2
        simp only [g] at e
        split at e <;> split at e <;> omega
      obtain ⟨i, h1, h2⟩ := ih g (fun i h => hg i (by omega)) (fun i j h1 h2 e => hgi i j (by omega) (by omega) e) (g n) (hg n (by omega))
      have := hgi i n (by omega) (by omega) h2
      omega
theorem isRow.hit {a : ByteArray} (h : isRow a) {v : Int} (h1 : 49 ≤ v) (h2 : v < 49 + a.size) : ∃ i : Nat, i < a.size ∧ bat a i = v := by
  obtain ⟨i, hi, e⟩ := hit_all a.size (fun i => (bat a i - 49).toNat) (fun i hi => by have := h.2.2.1 i hi; omega)
    (fun i j hi hj e => h.inj hi hj (by have := h.2.2.1 i hi; have := h.2.2.1 j hj; omega)) (v - 49).toNat (by omega)
  exact ⟨i, hi, by have := h.2.2.1 i hi; omega⟩

def turnL (a : ByteArray) : List Int := (List.range a.size).map fun p : Nat => 48 + placeS a ((p : Int) + 1)
def turnS (a : ByteArray) : ByteArray := mkS (turnL a)
theorem size_turn (a : ByteArray) : (turnS a).size = a.size := by unfold turnS turnL; rw [size_mkS]; simp
theorem bat_turn (a : ByteArray) (ha : a.size ≤ 8) (p : Nat) (h : p < a.size) : bat (turnS a) p = 48 + placeS a ((p : Int) + 1) := by
  unfold turnS
  have hl : p < (turnL a).length := by simpa [turnL] using h
  have e : (turnL a)[p] = 48 + placeS a ((p : Int) + 1) := by simp [turnL]
  have := placeAt_le a (48 + ((p : Int) + 1)) a.size
  have e2 : placeS a ((p : Int) + 1) = placeAt a (48 + ((p : Int) + 1)) a.size := rfl
  rw [bat_mkS _ p hl (by rw [e, e2]; omega) (by rw [e, e2]; omega), e]

/-- What stands in the cells behind k stores of the inverse. -/
def turnAt (a : ByteArray) (z : Nat → Int) (k : Nat) (p : Nat) : Int :=
  if placeAt a (49 + p) k = 0 then z p else 48 + placeAt a (49 + p) k
theorem turnAt_step {a : ByteArray} (z : Nat → Int) (k q : Nat) (hq : bat a k = 49 + q) (p : Nat) :
    (if p = q then 49 + (k : Int) else turnAt a z k p) = turnAt a z (k + 1) p := by
  unfold turnAt
  by_cases e : p = q
  · subst e
    rw [if_pos rfl]
    have : placeAt a (49 + (p : Int)) (k + 1) = k + 1 := by unfold placeAt; rw [if_pos hq]
    rw [this, if_neg (by omega)]; omega
  · rw [if_neg e]
    have : placeAt a (49 + (p : Int)) (k + 1) = placeAt a (49 + (p : Int)) k := by
      conv => lhs; unfold placeAt
      rw [if_neg (by rw [hq]; omega)]
    rw [this]
theorem turnAt_end {a : ByteArray} (h : isRow a) (z : Nat → Int) (p : Nat) (hp : p < a.size) : turnAt a z a.size p = 48 + placeS a ((p : Int) + 1) := by
  obtain ⟨i, hi, e⟩ := h.hit (v := 49 + p) (by omega) (by omega)
  have e1 : placeAt a (49 + (p : Int)) a.size = i + 1 := placeAt_hit a _ a.size i hi e (fun j hj e' => h.inj hj hi (by omega))
  unfold turnAt placeS
  rw [e1, if_neg (by omega), show (48 : Int) + ((p : Int) + 1) = 49 + p from by omega, e1]

end Go.Proofs.YtbfhfnejppfehaaGreat

/-
  The row that a change makes of rounds, in plain words: pairs of neighbours that exchange.
-/
namespace Go.Proofs.YtbfhfnejppfehaaGreat
open Go.RowKit
set_option linter.unusedVariables false
set_option linter.unusedSimpArgs false

theorem nodupN_le : ∀ (l : List Nat) (n : Nat), l.Nodup → (∀ x ∈ l, x < n) → l.length ≤ n
  | l, 0, _, h => by
    cases l with
    | nil => simp
    | cons x l => have := h x (by simp); omega
  | l, n + 1, hn, h => by
    have h1 := nodupN_le (l.erase n) n (hn.erase n) (fun x hx => by
      have := (hn.mem_erase_iff).1 hx
      have := h x this.2; omega)
    have := List.length_erase (a := n) (l := l)
    split at this <;> omega
/-- A change lets a place stay. -/
def stays (c : ByteArray) (p : Nat) : Prop := ∃ i : Nat, i < c.size ∧ bat c i - 48 = (p : Int)
open Classical in
/-- The lower places of the pairs that exchange, from place p on. -/
noncomputable def swF (c : ByteArray) (n : Nat) : Nat → Nat → List Nat
  | 0, _ => []
  | f + 1, p => if p < n then (if stays c p then swF c n f (p + 1) else p :: swF c n f (p + 2)) else []
theorem swF_fuel (c : ByteArray) (n : Nat) : ∀ (f g p : Nat), n ≤ p + f → n ≤ p + g → swF c n f p = swF c n g p
  | 0, 0, p, _, _ => rfl
  | 0, g + 1, p, h, _ => by simp only [swF]; rw [if_neg (by omega)]
  | f + 1, 0, p, _, h => by simp only [swF]; rw [if_neg (by omega)]
  | f + 1, g + 1, p, h1, h2 => by
    simp only [swF]
    rw [swF_fuel c n f g (p + 1) (by omega) (by omega), swF_fuel c n f g (p + 2) (by omega) (by omega)]
noncomputable def swFrom (c : ByteArray) (n p : Nat) : List Nat := swF c n (n - p) p
noncomputable def swL (c : ByteArray) (n : Nat) : List Nat := swFrom c n 1
theorem swFrom_end {c : ByteArray} {n p : Nat} (h : n ≤ p) : swFrom c n p = [] := by
  unfold swFrom; rw [show n - p = 0 by omega]; rfl
theorem swFrom_stay {c : ByteArray} {n p : Nat} (h : p < n) (hs : stays c p) : swFrom c n p = swFrom c n (p + 1) := by
  unfold swFrom
  obtain ⟨f, hf⟩ : ∃ f, n - p = f + 1 := ⟨n - p - 1, by omega⟩
  rw [hf]; simp only [swF]; rw [if_pos h, if_pos hs]
  exact swF_fuel c n _ _ _ (by omega) (by omega)
theorem swFrom_swap {c : ByteArray} {n p : Nat} (h : p < n) (hs : ¬ stays c p) : swFrom c n p = p :: swFrom c n (p + 2) := by
  unfold swFrom
  obtain ⟨f, hf⟩ : ∃ f, n - p = f + 1 := ⟨n - p - 1, by omega⟩
  rw [hf]; simp only [swF]; rw [if_pos h, if_neg hs]
  rw [swF_fuel c n _ (n - (p + 2)) _ (by omega) (by omega)]
def Sep (L : List Nat) : Prop := L.Pairwise fun a b => a + 1 < b
theorem swFrom_ge (c : ByteArray) (n : Nat) : ∀ (f p : Nat), n ≤ p + f → ∀ q ∈ swFrom c n p, p ≤ q ∧ q < n
  | 0, p, h, q, hq => by rw [swFrom_end (by omega)] at hq; simp at hq
  | f + 1, p, h, q, hq => by
    by_cases hp : p < n
    · by_cases hs : stays c p
      · rw [swFrom_stay hp hs] at hq; have := swFrom_ge c n f (p + 1) (by omega) q hq; omega
      · rw [swFrom_swap hp hs] at hq
        rcases List.mem_cons.1 hq with rfl | hq
        · omega
        · have := swFrom_ge c n f (p + 2) (by omega) q hq; omega
    · rw [swFrom_end (by omega)] at hq; simp at hq
theorem swFrom_sep (c : ByteArray) (n : Nat) : ∀ (f p : Nat), n ≤ p + f → Sep (swFrom c n p)
  | 0, p, h => by rw [swFrom_end (by omega)]; exact List.Pairwise.nil
  | f + 1, p, h => by
    by_cases hp : p < n
    · by_cases hs : stays c p
      · rw [swFrom_stay hp hs]; exact swFrom_sep c n f (p + 1) (by omega)
      · rw [swFrom_swap hp hs]
        exact List.Pairwise.cons (fun q hq => by have := (swFrom_ge c n f (p + 2) (by omega) q hq).1; omega) (swFrom_sep c n f (p + 2) (by omega))
    · rw [swFrom_end (by omega)]; exact List.Pairwise.nil
theorem sep_no : ∀ {L : List Nat}, Sep L → ∀ {a : Nat}, a ∈ L → a + 1 ∈ L → False
  | [], _, a, h, _ => by simp at h
  | x :: L, hs, a, h1, h2 => by
    obtain ⟨hx, hL⟩ := List.pairwise_cons.1 hs
    rcases List.mem_cons.1 h1 with rfl | h1 <;> rcases List.mem_cons.1 h2 with h2 | h2
    · omega
    · have := hx _ h2; omega
    · have := hx _ h1; omega
    · exact sep_no hL h1 h2
/-- Where a place's bell goes. -/
def pt (L : List Nat) (p : Nat) : Nat := if p ∈ L then p + 1 else if 1 ≤ p ∧ p - 1 ∈ L then p - 1 else p
theorem pt_nil (p : Nat) : pt [] p = p := by simp [pt]
theorem pt_snoc {L : List Nat} {q : Nat} (h : ∀ r ∈ L, r + 1 < q) (p : Nat) (hp : 1 ≤ p) : pt (L ++ [q]) p = if p = q then q + 1 else if p = q + 1 then q else pt L p := by
  unfold pt
  simp only [List.mem_append, List.mem_singleton]
  by_cases e1 : p = q
  · subst e1; simp
  · rw [if_neg e1]
    by_cases e2 : p = q + 1
    · subst e2
      have : ¬ (q + 1 ∈ L) := fun hm => by have := h _ hm; omega
      rw [if_pos rfl, if_neg (by simp [this]), if_pos ⟨by omega, by right; omega⟩]; omega
    · rw [if_neg e2]
      have : ¬ p - 1 = q ∨ p = 0 := by omega
      by_cases m1 : p ∈ L
      · rw [if_pos (.inl m1), if_pos m1]
      · rw [if_neg (by simp [m1, e1]), if_neg m1]
        by_cases m2 : p - 1 ∈ L
        · rw [if_pos ⟨hp, .inl m2⟩, if_pos ⟨hp, m2⟩]
        · rw [if_neg (by rintro ⟨_, h | h⟩; exact m2 h; omega), if_neg (fun x => m2 x.2)]
theorem pt_invol {L : List Nat} (hs : Sep L) (p : Nat) : pt L (pt L p) = p := by
  unfold pt
  by_cases m1 : p ∈ L
  · rw [if_pos m1, if_neg (fun h => sep_no hs m1 h), if_pos ⟨by omega, by simpa using m1⟩]; omega
  · rw [if_neg m1]
    by_cases m2 : 1 ≤ p ∧ p - 1 ∈ L
    · rw [if_pos m2, if_pos m2.2]; omega
    · rw [if_neg m2, if_neg m1, if_neg m2]
theorem pt_bd {L : List Nat} {n : Nat} (h : ∀ r ∈ L, 1 ≤ r ∧ r < n) {p : Nat} (h1 : 1 ≤ p) (h2 : p ≤ n) : 1 ≤ pt L p ∧ pt L p ≤ n := by
  unfold pt
  by_cases m1 : p ∈ L
  · rw [if_pos m1]; have := h p m1; omega
  · rw [if_neg m1]
    by_cases m2 : 1 ≤ p ∧ p - 1 ∈ L
    · rw [if_pos m2]; have := h _ m2.2; omega
    · rw [if_neg m2]; omega
/-- The row that pairs make of rounds. -/
def ptL (L : List Nat) (n : Nat) : List Int := (List.range n).map fun i : Nat => ((48 + pt L (i + 1) : Nat) : Int)
def ptS (L : List Nat) (n : Nat) : ByteArray := mkS (ptL L n)
theorem ptL_len (L : List Nat) (n : Nat) : (ptL L n).length = n := by simp [ptL]
theorem ptS_size (L : List Nat) (n : Nat) : (ptS L n).size = n := by unfold ptS; rw [size_mkS, ptL_len]
theorem ptS_bat {L : List Nat} {n : Nat} (h : ∀ r ∈ L, 1 ≤ r ∧ r < n) (hn : n ≤ 8) {i : Nat} (hi : i < n) : bat (ptS L n) i = ((48 + pt L (i + 1) : Nat) : Int) := by
  have hb := pt_bd h (p := i + 1) (by omega) (by omega)
  have he : (ptL L n)[i]'(by rw [ptL_len]; exact hi) = ((48 + pt L (i + 1) : Nat) : Int) := by simp [ptL]
  unfold ptS
  rw [bat_mkS _ i (by rw [ptL_len]; exact hi) (by rw [he]; omega) (by rw [he]; omega), he]
theorem ptS_row {L : List Nat} {n : Nat} (h : ∀ r ∈ L, 1 ≤ r ∧ r < n) (hs : Sep L) (h3 : 3 ≤ n) (h8 : n ≤ 8) : isRow (ptS L n) := by
  refine ⟨by rw [ptS_size]; exact h3, by rw [ptS_size]; exact h8, fun i hi => ?_, fun i j hij hj => ?_⟩
  · rw [ptS_size] at hi ⊢
    rw [ptS_bat h h8 hi]
    have := pt_bd h (p := i + 1) (by omega) (by omega); omega
  · rw [ptS_size] at hj
    rw [ptS_bat h h8 (by omega), ptS_bat h h8 hj]
    intro e
    have e2 : pt L (i + 1) = pt L (j + 1) := by omega
    have := congrArg (pt L) e2
    rw [pt_invol hs, pt_invol hs] at this
    omega
/-- The place of a bell in that row. -/
theorem ptS_place {L : List Nat} {n : Nat} (h : ∀ r ∈ L, 1 ≤ r ∧ r < n) (hs : Sep L) (h3 : 3 ≤ n) (h8 : n ≤ 8) {p : Nat} (h1 : 1 ≤ p) (h2 : p ≤ n) : placeS (ptS L n) p = pt L p := by
  have hb := pt_bd h h1 h2
  obtain ⟨i, hi⟩ : ∃ i, pt L p = i + 1 := ⟨pt L p - 1, by omega⟩
  have := (ptS_row h hs h3 h8).place (i := i) (by rw [ptS_size]; omega)
  rw [ptS_bat h h8 (by omega), ← hi, pt_invol hs] at this
  have e : ((48 + p : Nat) : Int) - 48 = (p : Int) := by omega
  rw [e] at this
  omega
theorem swL_bd (c : ByteArray) (n : Nat) : ∀ r ∈ swL c n, 1 ≤ r ∧ r < n := swFrom_ge c n n 1 (by omega)
theorem swL_sep (c : ByteArray) (n : Nat) : Sep (swL c n) := swFrom_sep c n n 1 (by omega)
/-- The row that a change of stage n makes of rounds. -/
noncomputable def chgS (n : Nat) (c : ByteArray) : ByteArray := ptS (swL c n) n
/-- Where a change of stage n brings what is at a place. -/
noncomputable def mvP (n : Nat) (c : ByteArray) (p : Nat) : Nat := pt (swL c n) p
end Go.Proofs.YtbfhfnejppfehaaGreat
