import Derived.Test.YtkegbbndmfnolaaGreatDoorMHeardL00
import Derived.Test.YtkegbbndmfnolaaGreatDoorMHeardL01
import Derived.Test.YtkegbbndmfnolaaGreatDoorMHeardL03
import Derived.Test.YtkegbbndmfnolaaGreatDoorMHeardL05
import Derived.Test.YtkegbbndmfnolaaGreatDoorMHeardL02
import Derived.Test.YtkegbbndmfnolaaGreatDoorRows
import Derived.StillTailTactics
import Derived.Deep.RegionHeld3
/-
  Contracts of chapter 1: products and inverses of rows.
-/
namespace Go.Proofs.YtkegbbndmfnolaaGreatDoor
open Go.RowKit
set_option linter.unusedVariables false
set_option linter.unusedSimpArgs false
set_option maxRecDepth 100000

theorem byte_info : (Tryz.prog.info? 5).map (fun i => (i.zero, i.size, i.bytes)) = some (some (.int .u8 0), 1, 1) := by kernel_rfl

/-- The product of two rows. -/
def timesL (a b : ByteArray) : List Int := (List.range b.size).map fun i : Nat => bat a (bat b i - 49)
def timesS (a b : ByteArray) : ByteArray := mkS (timesL a b)
theorem size_times (a b : ByteArray) : (timesS a b).size = b.size := by unfold timesS timesL; rw [size_mkS]; simp
theorem bat_times (a b : ByteArray) (i : Nat) (h : i < b.size) : bat (timesS a b) i = bat a (bat b i - 49) := by
  unfold timesS
  have hl : i < (timesL a b).length := by simpa [timesL] using h
  have e : (timesL a b)[i] = bat a (bat b i - 49) := by simp [timesL]
  rw [bat_mkS _ i hl (by rw [e]; exact bat_lo _ _) (by rw [e]; exact bat_hi _ _), e]

set_option maxHeartbeats 800000 in
theorem times_any (a b : ByteArray) (w : World) (hb : b.size ≤ 1000000) (h : ∀ i : Nat, i < b.size → 49 ≤ bat b i ∧ bat b i < 49 + a.size) :
    Calls Tryz.prog 155 #[.string a, .string b] w fun e w' => e = .returned (.string (timesS a b)) ∧ Below w.heap.size w w' := by
  have H := Lib.hid h
  clear h
  go_enter Tryz.func155, Tryz.ntmps155
  go_wp2_with (refine wpList_make_cells rfl 22 _ rfl 5 _ 1 rfl byte_info rfl .i64 b.size rfl (by omega) (by omega) ?_; intro w1 hc1 hb1 _)
  go_loopw [12] (fun i wr => ∃ k : Nat, k ≤ b.size ∧ i = .int .i64 k ∧ Cells wr w.heap.size b.size (fun j => if j < k then .int .u8 (bat a (bat b j - 49)) else .int .u8 0) ∧ Below w.heap.size w wr) (fun i _ => b.size - (intOf i).toNat)
  case atStart => exact ⟨0, by omega, by rfl, hc1.congr (fun i _ => by simp), hb1⟩
  case round =>
    obtain ⟨k, hk, rfl, hc, hbl⟩ := hrel
    by_cases hlt : k < b.size
    · obtain ⟨h1, h2⟩ := H.out k hlt
      have hx := bat_hi a (bat b k - 49)
      have hx0 := bat_lo a (bat b k - 49)
      have hy := bat_hi b k
      have hcell := hc.cell hlt
      have hfree := hc.free hlt
      have Hc := Lib.hid hc
      have Hbl := Lib.hid hbl
      clear hc hbl hc1 hb1
      go_wp2
      go_roundw
      case rel =>
        refine ⟨k + 1, by omega, by go_num, (Hc.out.set hlt _).congr fun j _ => ?_, Hbl.out.setCell (p := ⟨w.heap.size, k, none⟩) (Nat.le_refl _) _⟩
        by_cases e : j = k
        · subst e; rw [upd_same, if_pos (by omega)]
        · rw [upd_other _ _ _ _ e]
          by_cases hj : j < k
          · rw [if_pos hj, if_pos (by omega)]
          · rw [if_neg hj, if_neg (by omega)]
      case measure => simp [intOf]; omega
    · obtain rfl : k = b.size := by omega
      have hs := run_convert_bytes_arg (P := Tryz.prog) wr 22 5 rfl rfl w.heap.size 0 b.size b.size (timesL a b) (by simp [timesL]) (fun i hi => by
        have := hc.cell hi
        rw [if_pos hi] at this
        rw [Nat.zero_add, this]
        simp [timesL, hi]) 9 rfl
      have Hbl := Lib.hid hbl
      clear hc hbl hc1 hb1
      go_wp2
      go_ret
      exact ⟨rfl, Hbl.out⟩

/-- The inverse of a row: at each place the place of the bell there. -/
def placeAt (a : ByteArray) (v : Int) : Nat → Int
  | 0 => 0
  | n + 1 => if bat a n = v then n + 1 else placeAt a v n
/-- The place of a bell (0: none). -/
def placeS (a : ByteArray) (bell : Int) : Int := placeAt a (48 + bell) a.size
theorem placeAt_hit (a : ByteArray) (v : Int) (n i : Nat) (hi : i < n) (h : bat a i = v) (hd : ∀ j : Nat, j < n → bat a j = v → j = i) : placeAt a v n = i + 1 := by
  induction n with
  | zero => omega
  | succ n ih =>
    unfold placeAt
    by_cases e : bat a n = v
    · rw [if_pos e]; have := hd n (by omega) e; omega
    · rw [if_neg e]
      exact ih (by rcases Nat.lt_or_eq_of_le (Nat.le_of_lt_succ hi) with h' | rfl; exact h'; exact absurd h e) (fun j hj hv => hd j (by omega) hv)
theorem isRow.inj {a : ByteArray} (h : isRow a) {i j : Nat} (hi : i < a.size) (hj : j < a.size) (e : bat a i = bat a j) : i = j := by
  rcases Nat.lt_trichotomy i j with h' | h' | h'
  · exact absurd e (h.2.2.2 i j h' hj)
  · exact h'
  · exact absurd e.symm (h.2.2.2 j i h' hi)
theorem isRow.place {a : ByteArray} (h : isRow a) {i : Nat} (hi : i < a.size) : placeS a (bat a i - 48) = i + 1 := by
  unfold placeS
  exact placeAt_hit a _ a.size i hi (by omega) (fun j hj e => h.inj hj hi (by omega))
/-- An injective map of the first n numbers into themselves hits each. -/
theorem hit_all (n : Nat) : ∀ (f : Nat → Nat), (∀ i, i < n → f i < n) → (∀ i j, i < n → j < n → f i = f j → i = j) → ∀ v, v < n → ∃ i, i < n ∧ f i = v := by
  induction n with
  | zero => intro f _ _ v hv; omega
  | succ n ih =>
    intro f hf hi v hv
    by_cases hn : ∃ i, i < n + 1 ∧ f i = v
    · exact hn
    · exfalso
      -- f misses v: squeeze it
      let g : Nat → Nat := fun i => if f i < v then f i else f i - 1
      have hne : ∀ i, i < n + 1 → f i ≠ v := fun i h e => hn ⟨i, h, e⟩
      have hg : ∀ i, i < n + 1 → g i < n := fun i h => by
        have := hf i h; have := hne i h; simp only [g]; split <;> omega
      have hgi : ∀ i j, i < n + 1 → j < n + 1 → g i = g j → i = j := fun i j h1 h2 e => by
        have := hne i h1; have := hne j h2
        apply hi i j h1 h2
        simp only [g] at e
        split at e <;> split at e <;> omega
      obtain ⟨i, h1, h2⟩ := ih g (fun i h => hg i (by omega)) (fun i j h1 h2 e => hgi i j (by omega) (by omega) e) (g n) (hg n (by omega))
      have := hgi i n (by omega) (by omega) h2
      omega
theorem isRow.hit {a : ByteArray} (h : isRow a) {v : Int} (h1 : 49 ≤ v) (h2 : v < 49 + a.size) : ∃ i : Nat, i < a.size ∧ bat a i = v := by
  obtain ⟨i, hi, e⟩ := hit_all a.size (fun i => (bat a i - 49).toNat) (fun i hi => by have := h.2.2.1 i hi; omega)
    (fun i j hi hj e => h.inj hi hj (by have := h.2.2.1 i hi; have := h.2.2.1 j hj; omega)) (v - 49).toNat (by omega)
  exact ⟨i, hi, by have := h.2.2.1 i hi; omega⟩

def turnL (a : ByteArray) : List Int := (List.range a.size).map fun p : Nat => 48 + placeS a ((p : Int) + 1)
def turnS (a : ByteArray) : ByteArray := mkS (turnL a)
/-- What stands in the cells behind k stores of the inverse. -/
def turnAt (a : ByteArray) (z : Nat → Int) (k : Nat) (p : Nat) : Int :=
  if placeAt a (49 + p) k = 0 then z p else 48 + placeAt a (49 + p) k
end Go.Proofs.YtkegbbndmfnolaaGreatDoor

/-
  Contracts of chapter 1, the reference's side: products and inverses of rows; two rows of one stage.
-/
namespace Go.Proofs.YtkegbbndmfnolaaGreatDoor
open Go.RowKit
set_option linter.unusedVariables false
set_option linter.unusedSimpArgs false
set_option maxRecDepth 100000

theorem l1At_k (s : ByteArray) (k : Nat) (p : Int) (w : World) (hp : p = k + 1) (h2 : k < s.size) (hs : s.size ≤ 1000000) (h3 : 48 ≤ bat s k) :
    Calls Tryz.prog 162 #[.string s, .int .i64 p] w fun e w' => e = .returned (.int .i64 (bat s k - 48)) ∧ w = w' := by
  have e : p - 1 = k := by omega
  have := l1At_any s p w (by omega) (by omega) (by omega) (by rw [e]; exact h3)
  rw [e] at this; exact this

theorem take_snoc {l : List Int} {k : Nat} (h : k < l.length) : l.take (k + 1) = l.take k ++ [l[k]] := List.take_succ_eq_append_getElem h
theorem mkS_snoc (l : List Int) (s : ByteArray) (v : Int) (hs : s.size = 1) (hv : bat s 0 = v) : mkS l ++ s = mkS (l ++ [v]) := by
  refine str_ext (by rw [size_app, size_mkS, size_mkS, hs]; simp) fun i hi => ?_
  rw [size_app, size_mkS, hs] at hi
  have h1 := bat_lo s 0
  have h2 := bat_hi s 0
  by_cases h : i < l.length
  · rw [bat_append_l _ _ _ (by rw [size_mkS]; exact h)]
    unfold bat mkS
    simp [List.getElem?_append_left, h]
  · obtain rfl : i = l.length := by omega
    have := bat_append_r (mkS l) s 0
    rw [size_mkS] at this
    rw [show (l.length : Nat) = l.length + 0 from rfl, this]
    rw [bat_mkS _ _ (by simp) (by simp; omega) (by simp; omega)]
    simp; exact hv

set_option maxHeartbeats 800000 in
theorem l1Times_any (a b : ByteArray) (w : World) (hb : b.size ≤ 1000000) (ha : a.size ≤ 1000000) (h : ∀ i : Nat, i < b.size → 49 ≤ bat b i ∧ bat b i < 49 + a.size) :
    Calls Tryz.prog 165 #[.string a, .string b] w fun e w' => e = .returned (.string (timesS a b)) ∧ w = w' := by
  have H := Lib.hid h
  clear h
  go_enter Tryz.func165, Tryz.ntmps165
  go_wp2
  go_loop [5, 6] (fun s i => ∃ (k : Nat) (o : ByteArray), k ≤ b.size ∧ i = .int .i64 (k + 1) ∧ s = .string o ∧ o.size ≤ k ∧ Hid (o = mkS ((timesL a b).take k))) (fun _ i => b.size + 1 - (intOf i).toNat)
  case atStart => exact ⟨0, ⟨#[]⟩, by omega, by rfl, rfl, by decide, rfl⟩
  case round =>
    obtain ⟨k, o, hk, rfl, rfl, ho, he⟩ := hrel
    by_cases hlt : k < b.size
    · obtain ⟨h1, h2⟩ := H.out k hlt
      have hy := bat_hi b k
      go_wp2_with (go_at_call 162; refine (l1At_k b k _ _ (by omega) hlt hb (by omega)).mono ?_; rintro e w' ⟨rfl, rfl⟩)
      go_round
      case rel =>
        have hsz : (a.extract ((bat b k - 48).toNat - 1) (bat b k - 48).toNat).size = 1 := by rw [size_ext]; omega
        refine ⟨k + 1, _, by omega, by go_num, rfl, by rw [size_app, hsz]; omega, ?_⟩
        have hl : k < (timesL a b).length := by simp [timesL]; omega
        show _ = _
        rw [take_snoc hl, he.out]
        refine mkS_snoc _ _ _ hsz ?_
        have := bat_ext a ((bat b k - 48).toNat - 1) (bat b k - 48).toNat 0 (by omega)
        rw [show ((0 : Nat) : Int) = 0 from rfl] at this
        rw [this]
        have e : (((bat b k - 48).toNat - 1 + 0 : Nat) : Int) = bat b k - 49 := by omega
        rw [e]; simp [timesL]
      case measure => simp [intOf]; omega
    · go_wp2
      go_ret
      exact ⟨by rw [he.out, List.take_of_length_le (by simp [timesL]; omega)]; rfl, rfl⟩

/-- Two rows of one stage. -/
def two (a b : ByteArray) : Prop := isRow a ∧ isRow b ∧ a.size = b.size
end Go.Proofs.YtkegbbndmfnolaaGreatDoor
/-
  Words of our own that know no program: a whole list appended; an own list of integers written.
-/
namespace Go.Proofs.YtkegbbndmfnolaaGreatDoor
open Go.RowKit
set_option linter.unusedVariables false
set_option linter.unusedSimpArgs false

theorem flat_inv {α : Type} {enc : α → List Value} {size : Nat} (henc : ∀ x, (enc x).length = size) : ∀ (l : List α) (j : Nat) (u : Value), (flat enc l)[j]? = some u → ∃ (i : Nat) (hi : i < l.length) (k : Nat), j = i * size + k ∧ (enc l[i])[k]? = some u
  | [], j, u, h => by simp [flat] at h
  | x :: l, j, u, h => by
    simp only [flat] at h
    by_cases hj : j < (enc x).length
    · rw [List.getElem?_append_left hj] at h
      exact ⟨0, by simp, j, by simp, by simpa using h⟩
    · rw [List.getElem?_append_right (by omega)] at h
      obtain ⟨i, hi, k, e, hk⟩ := flat_inv henc l _ u h
      rw [henc] at e hj
      exact ⟨i + 1, by simpa using hi, k, by rw [Nat.succ_mul]; omega, by simpa using hk⟩
section
variable {P : Program} {ops : Array Oper} {rest : List Oper} {o : Oper} {a : Act} {Q : Exit → Act → World → Prop} {w : World}
/-- 'l = append(l, ys...)': ys reads as a list that is not empty. -/
theorem wpList_pushAll {α : Type} (hgd : o.guard = none) (s x : Operand) (t : TypeId) (ho : o.op = .call { callee := .builtin .append, args := #[s, x], argTypes := #[t, t] })
    (base : Nat) (e : TypeId) (z : Value) (size bytes : Nat) (enc : α → List Value)
    (ht : P.underlying t = some (.slice e)) (hinfo : (P.info? e).map (fun i => (i.zero, i.size, i.bytes)) = some (some z, size, bytes)) (hzs : z.cells.size = size) (hsz : 0 < size)
    (v : Value) (l ys : List α) (A : Option Addr) (c b : Nat) (hs : a.eval s = v) (hx : a.eval x = .slice A ys.length c) (hr : RdL w b A size enc ys) (hne : 0 < ys.length)
    (hown : Grow w base e size enc v l) (henc : ∀ x, (enc x).length = size) (h1 : ∀ x, ∀ u ∈ enc x, u.oneCell' = true)
    (hn : l.length + ys.length ≤ 1000000000) (hb : bytes ≤ 1000) (hbase : base ≤ w.heap.size)
    (h : ∀ v' w', Grow w' base e size enc v' (l ++ ys) → Below base w w' → w.grownBy w' v.ownBlock → wpList P ops Q rest (a.put o.dst v') w') :
    wpList P ops Q (o :: rest) a w := by
  obtain ⟨i, hi, hzz⟩ := Option.map_eq_some_iff.1 hinfo
  simp only [Prod.mk.injEq] at hzz
  obtain ⟨hz, hs', hb'⟩ := hzz
  have hmul : (l.length + ys.length) * bytes ≤ 1000000000 * 1000 := Nat.mul_le_mul hn hb
  obtain ⟨g, off, hA, _, _⟩ := hr.at (k := 0) hne
  subst hA
  refine wpList_append_own (P := P) _ hgd s x t ho base e i z size bytes ht hi hz hs' hb' hzs hsz v l.length (flat enc l) hs hown ⟨g, off, none⟩ ys.length c (flat enc ys) hx (flat_len henc ys)
    (fun j u hu => by
      obtain ⟨i, hi, k, rfl, hk⟩ := flat_inv henc ys j u hu
      obtain ⟨g', off', hA', _, hcell⟩ := hr.at hi
      simp only [Option.some.injEq, Addr.mk.injEq, and_true] at hA'
      obtain ⟨rfl, rfl⟩ := hA'
      have e : (⟨g, off, none⟩ : Addr).add (i * size + k) = ⟨g, off + (i * size + k), none⟩ := by unfold Addr.add; split <;> simp_all
      rw [e]; exact hcell k u hk) (fun u hu => by
      obtain ⟨j, hj⟩ := List.getElem?_of_mem hu
      obtain ⟨i, hi, k, _, hk⟩ := flat_inv henc ys j u hj
      exact h1 _ u (List.mem_of_getElem? hk)) (by unfold maxLen; omega) (by omega) hbase ?_
  intro v' w' hown' hg _
  have hr : ∀ k, v.ownBlock = some k → base ≤ k := fun k hk => by
    rcases hown.2 with ⟨rfl, _⟩ | ⟨g, cap, cur, rfl, hbg, _⟩
    · simp [Value.ownBlock] at hk
    · simp [Value.ownBlock] at hk; omega
  refine h v' w' ?_ ?_ hg
  · unfold Grow
    rw [List.length_append, flat_append]
    exact hown'
  · exact (Below.refl base w).grown hg hbase hr
end
theorem Grow.capN {α : Type} {w : World} {base : Nat} {e : TypeId} {size : Nat} {enc : α → List Value} {l : List α} {A : Option Addr} {n c : Nat} (h : Grow w base e size enc (.slice A n c) l) : n ≤ c := by
  rcases h.2 with ⟨h1, h2⟩ | ⟨g, cap, cur, h1, h2, h3, h4, h5, _⟩
  · injection h1 with _ e1 e2; omega
  · injection h1 with _ e1 e2; omega
section
variable {w : World} {b c g : Nat} {l : List Int}
theorem OwnL.some_of {A : Option Addr} (h : OwnL w b c A 1 encInt l) (hl : 0 < l.length) : ∃ g, A = some ⟨g, 0, none⟩ ∧ b ≤ g ∧ g < c ∧ g < w.heap.size := by
  obtain ⟨g, f, hA, h1, h2, h3⟩ := h.cells hl
  exact ⟨g, hA, h1, h2, h3.lt⟩
theorem OwnL.cellInt (h : OwnL w b c (some ⟨g, 0, none⟩) 1 encInt l) (k : Nat) (hk : k < l.length) : w.cell? ⟨g, k, none⟩ = some (.int .i64 l[k]) ∧ w.frozen? ⟨g, k, none⟩ = false := by
  rcases h with h | ⟨g', f, hA, h1, h2, h3, h4⟩
  · subst h; simp at hk
  · simp only [Option.some.injEq, Addr.mk.injEq, and_true] at hA
    subst hA
    have := h4 k hk 0 _ rfl
    have hc := h3.cell (i := k) (by omega)
    rw [Nat.mul_one, Nat.add_zero] at this
    rw [this] at hc
    exact ⟨hc, h3.free (by omega)⟩
end
end Go.Proofs.YtkegbbndmfnolaaGreatDoor

/-
  The cycles of a row, as the reference makes them.
-/
namespace Go.Proofs.YtkegbbndmfnolaaGreatDoor
open Go.RowKit
open CycT (Cy Part Run)
set_option linter.unusedVariables false
set_option linter.unusedSimpArgs false
set_option maxRecDepth 100000

section
variable {P : Program} {ops : Array Oper} {rest : List Oper} {o : Oper} {a : Act} {Q : Exit → Act → World → Prop} {w : World}
/-- wpList_pushAll; the new slice's block is the old one's, or new. -/
theorem wpList_pushAllA {α : Type} (hgd : o.guard = none) (s x : Operand) (t : TypeId) (ho : o.op = .call { callee := .builtin .append, args := #[s, x], argTypes := #[t, t] })
    (base : Nat) (e : TypeId) (z : Value) (size bytes : Nat) (enc : α → List Value)
    (ht : P.underlying t = some (.slice e)) (hinfo : (P.info? e).map (fun i => (i.zero, i.size, i.bytes)) = some (some z, size, bytes)) (hzs : z.cells.size = size) (hsz : 0 < size)
    (v : Value) (l ys : List α) (A : Option Addr) (c b : Nat) (hs : a.eval s = v) (hx : a.eval x = .slice A ys.length c) (hr : RdL w b A size enc ys) (hne : 0 < ys.length)
    (hown : Grow w base e size enc v l) (henc : ∀ x, (enc x).length = size) (h1 : ∀ x, ∀ u ∈ enc x, u.oneCell' = true)
    (hn : l.length + ys.length ≤ 1000000000) (hb : bytes ≤ 1000) (hbase : base ≤ w.heap.size)
    (h : ∀ v' w', Grow w' base e size enc v' (l ++ ys) → Below base w w' → w.grownBy w' v.ownBlock → (v'.ownBlock = v.ownBlock ∨ v'.ownBlock = some w.heap.size) → wpList P ops Q rest (a.put o.dst v') w') :
    wpList P ops Q (o :: rest) a w := by
  obtain ⟨i, hi, hzz⟩ := Option.map_eq_some_iff.1 hinfo
  simp only [Prod.mk.injEq] at hzz
  obtain ⟨hz, hs', hb'⟩ := hzz
  have hmul : (l.length + ys.length) * bytes ≤ 1000000000 * 1000 := Nat.mul_le_mul hn hb
  obtain ⟨g, off, hA, _, _⟩ := hr.at (k := 0) hne
  subst hA
  refine wpList_append_own_at (P := P) _ hgd s x t ho base e i z size bytes ht hi hz hs' hb' hzs hsz v l.length (flat enc l) hs hown ⟨g, off, none⟩ ys.length c (flat enc ys) hx (flat_len henc ys)
    (fun j u hu => by
      obtain ⟨i, hi, k, rfl, hk⟩ := flat_inv henc ys j u hu
      obtain ⟨g', off', hA', _, hcell⟩ := hr.at hi
      simp only [Option.some.injEq, Addr.mk.injEq, and_true] at hA'
      obtain ⟨rfl, rfl⟩ := hA'
      have e : (⟨g, off, none⟩ : Addr).add (i * size + k) = ⟨g, off + (i * size + k), none⟩ := by unfold Addr.add; split <;> simp_all
      rw [e]; exact hcell k u hk) (fun u hu => by
      obtain ⟨j, hj⟩ := List.getElem?_of_mem hu
      obtain ⟨i, hi, k, _, hk⟩ := flat_inv henc ys j u hj
      exact h1 _ u (List.mem_of_getElem? hk)) (by unfold maxLen; omega) (by omega) hbase ?_
  intro v' w' hown' hg _ hblk
  have hr : ∀ k, v.ownBlock = some k → base ≤ k := fun k hk => by
    rcases hown.2 with ⟨rfl, _⟩ | ⟨g, cap, cur, rfl, hbg, _⟩
    · simp [Value.ownBlock] at hk
    · simp [Value.ownBlock] at hk; omega
  refine h v' w' ?_ ?_ hg hblk
  · unfold Grow
    rw [List.length_append, flat_append]
    exact hown'
  · exact (Below.refl base w).grown hg hbase hr
end
/-- The head of a slice. -/
structure Hd where
  A : Option Addr
  n : Nat
  c : Nat
def Hd.enc (h : Hd) : List Value := [.slice h.A h.n h.c]
/-- Where a row sends a place. -/
def rowF (a : ByteArray) (i : Nat) : Nat := (bat a i - 49).toNat
def up (l : List Nat) : List Int := l.map fun x : Nat => (x : Int) + 1
theorem rowF_lt {a : ByteArray} (h : isRow a) : ∀ i, i < a.size → rowF a i < a.size := fun i hi => by have := h.2.2.1 i hi; unfold rowF; omega
theorem rowF_inj {a : ByteArray} (h : isRow a) : ∀ i j, i < a.size → j < a.size → rowF a i = rowF a j → i = j := fun i j hi hj e => h.inj hi hj (by have := h.2.2.1 i hi; have := h.2.2.1 j hj; unfold rowF at e; omega)
theorem rowF_bat {a : ByteArray} (h : isRow a) {i : Nat} (hi : i < a.size) : bat a i - 48 = ((rowF a i : Nat) : Int) + 1 := by have := h.2.2.1 i hi; unfold rowF; omega
/-- The heads of the cycles' slices. -/
def HdsOf (hs : List Hd) (C : List Cy) : Prop := hs.map Hd.n = C.map fun c => c.2.length + 1
theorem HdsOf.len {hs : List Hd} {C : List Cy} (h : HdsOf hs C) : hs.length = C.length := by have := congrArg List.length h; simpa using this
def lenV : Value → Nat
  | .slice _ n _ => n
  | _ => 0
end Go.Proofs.YtkegbbndmfnolaaGreatDoor

/-
  Contracts: valid changes, methods and calls (both sides).
-/
namespace Go.Proofs.YtkegbbndmfnolaaGreatDoor
open Go.RowKit
set_option linter.unusedVariables false
set_option linter.unusedSimpArgs false
set_option maxRecDepth 100000

theorem dgL_len (c : ByteArray) : (dgL c).length = c.size := by simp [dgL]
theorem dgL_at (c : ByteArray) (i : Nat) (hi : i < (dgL c).length) : (dgL c)[i] = dg c i := by simp [dgL]
theorem apP_dg (n : Int) (c : ByteArray) : apP n (dgL c) ↔ 0 < c.size ∧ (c.size : Int) ≠ n ∧ dg c 0 % 2 ≠ 0 ∧ dg c (c.size - 1) % 2 = n % 2 ∧ dg c (c.size - 1) ≤ n ∧ ∀ i : Nat, i + 1 < c.size → dg c i < dg c (i + 1) ∧ (dg c (i + 1) - dg c i) % 2 ≠ 0 := by
  unfold apP
  constructor
  · rintro ⟨h, h1, h2, h3, h4, h5⟩
    simp only [dgL_at, dgL_len] at h h1 h2 h3 h4 h5
    exact ⟨h, h1, h2, h3, h4, h5⟩
  · rintro ⟨h, h1, h2, h3, h4, h5⟩
    refine ⟨by rw [dgL_len]; exact h, ?_⟩
    simp only [dgL_at, dgL_len]
    exact ⟨h1, h2, h3, h4, h5⟩
theorem change_iff {n : Int} {c : ByteArray} (h : inB n 3 8) : (0 < c.size ∧ (c.size : Int) ≤ n - 2 ∧ chainP n c) ↔ (digsP c ∧ apP n (dgL c)) := by
  obtain ⟨hn3, hn8⟩ := h
  rw [apP_dg]
  constructor
  · rintro ⟨h0, h1, h2, h3⟩
    have hs : ∀ i, i < c.size → 1 ≤ dg c i ∧ dg c i ≤ n := fun i hi => by
      have hb := steps_bound i (fun j hj => h2 j (by omega))
      obtain ⟨a1, a2, _⟩ := h2 i hi
      omega
    have hl : dgP c c.size = dg c (c.size - 1) := by
      obtain ⟨m, hm⟩ : ∃ m, c.size = m + 1 := ⟨c.size - 1, by omega⟩
      rw [hm]; rfl
    rw [hl] at h3
    have hz := h2 0 h0
    have hlast := hs (c.size - 1) (by omega)
    refine ⟨fun i hi => by have := hs i hi; unfold dg at this; omega, h0, by omega, ?_, by omega, hlast.2, fun i hi => ?_⟩
    · have := hz.2.2; simp only [dgP] at this; omega
    · obtain ⟨a1, _, a3⟩ := h2 (i + 1) hi
      exact ⟨a1, a3⟩
  · rintro ⟨hd, h0, h1, h2, h3, h4, h5⟩
    have hge : ∀ i : Nat, i < c.size → (i : Int) + 1 ≤ dg c i ∧ dg c i % 2 = ((i : Int) + 1) % 2 := fun i => by
      induction i with
      | zero => intro _; have := hd 0 h0; unfold dg at h2 ⊢; constructor <;> omega
      | succ i ih =>
        intro hi
        obtain ⟨a1, a2⟩ := ih (by omega)
        obtain ⟨a3, a4⟩ := h5 i hi
        push_cast
        constructor <;> omega
    have hle : ∀ m i : Nat, i + m = c.size - 1 → dg c i ≤ n := fun m => by
      induction m with
      | zero => intro i hi; rw [show i = c.size - 1 from by omega]; exact h4
      | succ m ih =>
        intro i hi
        have := ih (i + 1) (by omega)
        have := (h5 i (by omega)).1
        omega
    have hl := hge (c.size - 1) (by omega)
    have hlP : dgP c c.size = dg c (c.size - 1) := by
      obtain ⟨m, hm⟩ : ∃ m, c.size = m + 1 := ⟨c.size - 1, by omega⟩
      rw [hm]; rfl
    refine ⟨h0, by omega, fun i hi => ⟨?_, hle (c.size - 1 - i) i (by omega), ?_⟩, by rw [hlP]; omega⟩
    · cases i with
      | zero => have := (hge 0 h0).1; simp only [dgP]; omega
      | succ i => simp only [dgP]; exact (h5 i hi).1
    · cases i with
      | zero => simp only [dgP]; omega
      | succ i => simp only [dgP]; exact (h5 i hi).2
set_option maxHeartbeats 1600000 in
theorem goodChange_any (n : Int) (c : ByteArray) (w : World) (hc : c.size ≤ 1048576) :
    Calls Tryz.prog 127 #[.int .i64 n, .string c] w fun e w' => e = .returned (.bool (B (changeP n c))) ∧ Below w.heap.size w w' := by
  by_cases h1 : inB n 3 8
  · have hci := change_iff (c := c) h1
    obtain ⟨h11, h12⟩ := h1
    by_cases hd : c = dash
    · have hd2 : (c.toList == [45]) = true := by rw [hd, ByteArray.toList_eq]; rfl
      have Hd := Lib.hid hd
      clear hd hci
      by_cases hn : n % 2 = 0
      all_goals
        go_enter Tryz.func127, Tryz.ntmps127
        go_wp2_with (go_at_call 105; refine (isStage_t n _ h11 h12).mono ?_; rintro e w' ⟨rfl, rfl⟩)
        go_ret
        first
          | exact ⟨by rw [B_t (show changeP n c from ⟨⟨h11, h12⟩, .inl ⟨Hd.out, hn⟩⟩)]; simp [hn], Below.refl _ _⟩
          | exact ⟨by rw [B_f (show ¬ changeP n c from fun h => by
              rcases h.2 with ⟨_, h2⟩ | ⟨h2, _⟩
              · exact hn h2
              · exact h2 Hd.out)]; simp [hn], Below.refl _ _⟩
    · have hd2 := toList_dash hd
      have hch : Hid (changeP n c ↔ digsP c ∧ apP n (dgL c)) := Lib.hid ⟨fun h => by
        rcases h.2 with ⟨h2, _⟩ | ⟨_, h2⟩
        · exact absurd h2 hd
        · exact hci.1 h2, fun h => ⟨⟨h11, h12⟩, .inr ⟨hd, hci.2 h⟩⟩⟩
      clear hd hci
      by_cases hp : digsP c
      · have HP := Lib.hid hp
        have hel : Hid (∀ x ∈ dgL c, 1 ≤ x ∧ x ≤ 8) := Lib.hid (fun x hx => by
          obtain ⟨i, hi, rfl⟩ := List.getElem_of_mem hx
          rw [dgL_at]
          have := hp i (by rw [dgL_len] at hi; exact hi)
          unfold dg; omega)
        have hll : (dgL c).length ≤ 1048576 := by rw [dgL_len]; exact hc
        obtain ⟨L, hL⟩ : ∃ L, Hid (dgL c = L) := ⟨_, Lib.hid rfl⟩
        have hpt := fun W => places_t c W hc HP.out
        rw [hL.out] at hel hll hch hpt
        have Hpt := Lib.hid hpt
        clear hp hpt
        by_cases ha : apP n L
        all_goals
          first | have e2 := B_t ha | have e2 := B_f ha
          have Ha := Lib.hid ha
          clear ha
          go_enter Tryz.func127, Tryz.ntmps127
          go_wp2_with (first | (go_at_call 105; refine (isStage_t n _ h11 h12).mono ?_; rintro e w' ⟨rfl, rfl⟩) | (go_at_call 158; refine (Hpt.out _).mono ?_; rintro e w1 ⟨A, c2, rfl, ho, hb1⟩; have Ho := Lib.hid ho; clear ho) | (go_at_call 159; refine (arePlaces_any n L _ _ _ (Ho.out.rd encInt_len) hll ⟨by omega, h12⟩ hel.out).mono ?_; rintro e w2 ⟨rfl, hb2⟩))
          go_ret
          first
            | exact ⟨ret_t (hch.out.2 ⟨HP.out, Ha.out⟩), hb1.trans (hb2.mono hb1.size)⟩
            | exact ⟨ret_f (fun h => Ha.out (hch.out.1 h).2), hb1.trans (hb2.mono hb1.size)⟩
            | exact ⟨by show Ending.returned (Value.bool (B (apP n L))) = Ending.returned (Value.bool (B (changeP n c))); rw [B_t Ha.out, B_t (hch.out.2 ⟨HP.out, Ha.out⟩)], hb1.trans (hb2.mono hb1.size)⟩
            | exact ⟨by show Ending.returned (Value.bool (B (apP n L))) = Ending.returned (Value.bool (B (changeP n c))); rw [B_f Ha.out, B_f (fun h => Ha.out (hch.out.1 h).2)], hb1.trans (hb2.mono hb1.size)⟩
      · have HP := Lib.hid hp
        have hpf := fun W => places_f c W hc hp
        have Hpf := Lib.hid hpf
        clear hp hpf
        go_enter Tryz.func127, Tryz.ntmps127
        go_wp2_with (first | (go_at_call 105; refine (isStage_t n _ h11 h12).mono ?_; rintro e w' ⟨rfl, rfl⟩) | (go_at_call 158; refine (Hpf.out _).mono ?_; rintro e w1 ⟨rfl, hb1⟩))
        go_ret
        exact ⟨ret_f (fun h => HP.out (hch.out.1 h).1), hb1⟩
  · have h2 : Hid (n < 3 ∨ 8 < n) := Lib.hid (by unfold inB at h1; omega)
    have H1 := Lib.hid h1
    clear h1
    go_enter Tryz.func127, Tryz.ntmps127
    go_wp2_with (go_at_call 105; refine (isStage_f n _ h2.out).mono ?_; rintro e w' ⟨rfl, rfl⟩)
    go_ret
    exact ⟨ret_f (fun h => H1.out h.1), Below.refl _ _⟩
end Go.Proofs.YtkegbbndmfnolaaGreatDoor

/-
  Contracts of the helper functions that the laws use for lists of String.
-/
namespace Go.Proofs.YtkegbbndmfnolaaGreatDoor
open Go.RowKit Go.ChangeShapes Go.WideShapes
set_option linter.unusedVariables false
set_option linter.unusedSimpArgs false
set_option maxRecDepth 100000


def encString (x : ByteArray) : List Value := [.string x]
theorem encString_len (x : ByteArray) : (encString x).length = 1 := rfl
def String_small (lim : Int) (x : ByteArray) : Prop := (x.size : Int) ≤ lim
theorem String_info : (Tryz.prog.info? 9).map (fun i => (i.zero, i.size, i.bytes)) = some (some (.string ⟨#[]⟩), 1, 16) := by kernel_rfl

/-- What the marks make of a list of so many elements. -/
def markStringL (m q : Nat) : List ByteArray := (List.range m).map fun i : Nat => ((markT (q + i)) : ByteArray)
end Go.Proofs.YtkegbbndmfnolaaGreatDoor