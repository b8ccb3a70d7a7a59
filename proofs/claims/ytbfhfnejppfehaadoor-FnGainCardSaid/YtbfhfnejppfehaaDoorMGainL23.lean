import Derived.Test.YtbfhfnejppfehaaDoorMGainL22
import Derived.Test.YtbfhfnejppfehaaDoorMGainL08
/-
  The drawn arguments of CheckPlacing.
-/
namespace Go.Proofs.YtbfhfnejppfehaaDoor
open Go.RowKit
set_option linter.unusedVariables false
set_option linter.unusedSimpArgs false
set_option maxRecDepth 100000


theorem RdL.takeN {α : Type} {w : World} {b : Nat} {A : Option Addr} {size : Nat} {enc : α → List Value} {l : List α} (h : RdL w b A size enc l) (m : Nat) : RdL w b A size enc (l.take m) := by
  rcases h with h | ⟨g, off, hA, hg, hc⟩
  · exact .inl (by subst h; simp)
  · refine .inr ⟨g, off, hA, hg, fun i hi j u hu => hc i (by simp at hi; omega) j u ?_⟩
    rw [List.getElem_take] at hu; exact hu
theorem RdL.drop {α : Type} {w : World} {b : Nat} {A : Option Addr} {size : Nat} {enc : α → List Value} {l : List α} (h : RdL w b A size enc l) (k : Nat) : RdL w b (Option.map (fun x => x.add (k * size)) A) size enc (l.drop k) := by
  rcases h with h | ⟨g, off, rfl, hg, hc⟩
  · exact .inl (by subst h; simp)
  · refine .inr ⟨g, off + k * size, ?_, hg, fun i hi j u hu => ?_⟩
    · simp only [Option.map_some]; unfold Addr.add; split <;> simp_all
    · have hk : k + i < l.length := by simp at hi; omega
      have := hc (k + i) hk j u (by rw [List.getElem_drop] at hu; exact hu)
      rw [show off + k * size + (i * size + j) = off + ((k + i) * size + j) by rw [Nat.add_mul]; omega]
      exact this
/-- A reader of the rest of a list of bytes. -/
theorem Cur.rest {w : World} {A : Option Addr} {l : List Int} (h : RdL w w.heap.size A 1 encByte l) (hb : ∀ x ∈ l, 0 ≤ x ∧ x < 256) (hl : l.length ≤ 9223372036854775807) (k c c' : Nat) (t : TypeId) :
    Cur (w.alloc (.cells #[.slice (if c = k then A else Option.map (fun x => x.add k) A) (l.length - k) c', .int .i64 0, .int .u64 0] t)) w.heap.size 0 := by
  by_cases hc : c = k
  · rw [if_pos hc]
    have := Cur.new (c := c') (h.takeN (l.length - k)) (fun x hx => hb x (List.mem_of_mem_take hx)) (by simp; omega) t
    rw [List.length_take, Nat.min_eq_left (by omega)] at this
    exact this
  · rw [if_neg hc]
    have h2 := h.drop k
    rw [Nat.mul_one] at h2
    have := Cur.new (c := c') h2 (fun x hx => hb x (List.mem_of_mem_drop hx)) (by simp; omega) t
    rw [List.length_drop] at this
    exact this
theorem results_tmp4 {fn : Func} {t u v x : Tmp} (h : fn.results = #[.tmp t, .tmp u, .tmp v, .tmp x]) (tmps : Array Value) (P : Program) (w : World) :
    (results fn tmps).run P w = .ok (.tuple #[tmps.getD t undef, tmps.getD u undef, tmps.getD v undef, tmps.getD x undef]) w := by
  simp [results, h, Result.ok, pure, Sem.run]




end Go.Proofs.YtbfhfnejppfehaaDoor

/-
  Contracts of chapter 1: products and inverses of rows.
-/
namespace Go.Proofs.YtbfhfnejppfehaaDoor
open Go.RowKit
set_option linter.unusedVariables false
set_option linter.unusedSimpArgs false
set_option maxRecDepth 100000

theorem byte_info : (Tryd.prog.info? 5).map (fun i => (i.zero, i.size, i.bytes)) = some (some (.int .u8 0), 1, 1) := by kernel_rfl

/-- The product of two rows. -/
def timesL (a b : ByteArray) : List Int := (List.range b.size).map fun i : Nat => bat a (bat b i - 49)
def timesS (a b : ByteArray) : ByteArray := mkS (timesL a b)
theorem size_times (a b : ByteArray) : (timesS a b).size = b.size := by unfold timesS timesL; rw [size_mkS]; simp
theorem bat_times (a b : ByteArray) (i : Nat) (h : i < b.size) : bat (timesS a b) i = bat a (bat b i - 49) := by
  unfold timesS
  have hl : i < (timesL a b).length := by simpa [timesL] using h
  have e : (timesL a b)[i] = bat a (bat b i - 49) := by simp [timesL]
  rw [bat_mkS _ i hl (by rw [e]; exact bat_lo _ _) (by rw [e]; exact bat_hi _ _), e]

set_option maxHeartbeats 800000 in
theorem times_any (a b : ByteArray) (w : World) (hb : b.size ≤ 1000000) (h : ∀ i : Nat, i < b.size → 49 ≤ bat b i ∧ bat b i < 49 + a.size) :
    Calls Tryd.prog 146 #[.string a, .string b] w fun e w' => e = .returned (.string (timesS a b)) ∧ Below w.heap.size w w' := by
  have H := Lib.hid h
  clear h
  go_enter Tryd.func146, Tryd.ntmps146
  go_wp2_with (refine wpList_make_cells rfl 40 _ rfl 5 _ 1 rfl byte_info rfl .i64 b.size rfl (by omega) (by omega) ?_; intro w1 hc1 hb1 _)
  go_loopw [12] (fun i wr => ∃ k : Nat, k ≤ b.size ∧ i = .int .i64 k ∧ Cells wr w.heap.size b.size (fun j => if j < k then .int .u8 (bat a (bat b j - 49)) else .int .u8 0) ∧ Below w.heap.size w wr) (fun i _ => b.size - (intOf i).toNat)
  case atStart => exact ⟨0, by omega, by rfl, hc1.congr (fun i _ => by simp), hb1⟩
  case round =>
    obtain ⟨k, hk, rfl, hc, hbl⟩ := hrel
    by_cases hlt : k < b.size
    · obtain ⟨h1, h2⟩ := H.out k hlt
      have hx := bat_hi a (bat b k - 49)
      have hx0 := bat_lo a (bat b k - 49)
      have hy := bat_hi b k
      have hcell := hc.cell hlt
      have hfree := hc.free hlt
      have Hc := Lib.hid hc
      have Hbl := Lib.hid hbl
      clear hc hbl hc1 hb1
      go_wp2
      go_roundw
      case rel =>
        refine ⟨k + 1, by omega, by go_num, (Hc.out.set hlt _).congr fun j _ => ?_, Hbl.out.setCell (p := ⟨w.heap.size, k, none⟩) (Nat.le_refl _) _⟩
        by_cases e : j = k
        · subst e; rw [upd_same, if_pos (by omega)]
        · rw [upd_other _ _ _ _ e]
          by_cases hj : j < k
          · rw [if_pos hj, if_pos (by omega)]
          · rw [if_neg hj, if_neg (by omega)]
      case measure => simp [intOf]; omega
    · obtain rfl : k = b.size := by omega
      have hs := run_convert_bytes_arg (P := Tryd.prog) wr 40 5 rfl rfl w.heap.size 0 b.size b.size (timesL a b) (by simp [timesL]) (fun i hi => by
        have := hc.cell hi
        rw [if_pos hi] at this
        rw [Nat.zero_add, this]
        simp [timesL, hi]) 9 rfl
      have Hbl := Lib.hid hbl
      clear hc hbl hc1 hb1
      go_wp2
      go_ret
      exact ⟨rfl, Hbl.out⟩

/-- The inverse of a row: at each place the place of the bell there. -/
def placeAt (a : ByteArray) (v : Int) : Nat → Int
  | 0 => 0
  | n + 1 => if bat a n = v then n + 1 else placeAt a v n
/-- The place of a bell (0: none). -/
def placeS (a : ByteArray) (bell : Int) : Int := placeAt a (48 + bell) a.size
theorem placeAt_le (a : ByteArray) (v : Int) (n : Nat) : 0 ≤ placeAt a v n ∧ placeAt a v n ≤ n := by
  induction n with
  | zero => simp [placeAt]
  | succ n ih => unfold placeAt; split <;> omega
theorem placeAt_hit (a : ByteArray) (v : Int) (n i : Nat) (hi : i < n) (h : bat a i = v) (hd : ∀ j : Nat, j < n → bat a j = v → j = i) : placeAt a v n = i + 1 := by
  induction n with
  | zero => omega
  | succ n ih =>
    unfold placeAt
    by_cases e : bat a n = v
    · rw [if_pos e]; have := hd n (by omega) e; omega
    · rw [if_neg e]
      exact ih (by rcases Nat.lt_or_eq_of_le (Nat.le_of_lt_succ hi) with h' | rfl; exact h'; exact absurd h e) (fun j hj hv => hd j (by omega) hv)
theorem placeAt_none (a : ByteArray) (v : Int) (n : Nat) (h : ∀ j : Nat, j < n → bat a j ≠ v) : placeAt a v n = 0 := by
  induction n with
  | zero => rfl
  | succ n ih => unfold placeAt; rw [if_neg (h n (by omega))]; exact ih (fun j hj => h j (by omega))
theorem isRow.inj {a : ByteArray} (h : isRow a) {i j : Nat} (hi : i < a.size) (hj : j < a.size) (e : bat a i = bat a j) : i = j := by
  rcases Nat.lt_trichotomy i j with h' | h' | h'
  · exact absurd e (h.2.2.2 i j h' hj)
  · exact h'
  · exact absurd e.symm (h.2.2.2 j i h' hi)
theorem isRow.place {a : ByteArray} (h : isRow a) {i : Nat} (hi : i < a.size) : placeS a (bat a i - 48) = i + 1 := by
  unfold placeS
  exact placeAt_hit a _ a.size i hi (by omega) (fun j hj e => h.inj hj hi (by omega))
/-- An injective map of the first n numbers into themselves hits each. -/
theorem hit_all (n : Nat) : ∀ (f : Nat → Nat), (∀ i, i < n → f i < n) → (∀ i j, i < n → j < n → f i = f j → i = j) → ∀ v, v < n → ∃ i, i < n ∧ f i = v := by
  induction n with
  | zero => intro f _ _ v hv; omega
  | succ n ih =>
    intro f hf hi v hv
    by_cases hn : ∃ i, i < n + 1 ∧ f i = v
    · exact hn
    · exfalso
      -- f misses v: squeeze it
      let g : Nat → Nat := fun i => if f i < v then f i else f i - 1
      have hne : ∀ i, i < n + 1 → f i ≠ v := fun i h e => hn ⟨i, h, e⟩
      have hg : ∀ i, i < n + 1 → g i < n := fun i h => by
        have := hf i h; have := hne i h; simp only [g]; split <;> omega
      have hgi : ∀ i j, i < n + 1 → j < n + 1 → g i = g j → i = j := fun i j h1 h2 e => by
        have := hne i h1; have := hne j h2
        apply hi i j h1 h2
        simp only [g] at e
        split at e <;> split at e <;> omega
      obtain ⟨i, h1, h2⟩ := ih g (fun i h => hg i (by omega)) (fun i j h1 h2 e => hgi i j (by omega) (by omega) e) (g n) (hg n (by omega))
      have := hgi i n (by omega) (by omega) h2
      omega
theorem isRow.hit {a : ByteArray} (h : isRow a) {v : Int} (h1 : 49 ≤ v) (h2 : v < 49 + a.size) : ∃ i : Nat, i < a.size ∧ bat a i = v := by
  obtain ⟨i, hi, e⟩ := hit_all a.size (fun i => (bat a i - 49).toNat) (fun i hi => by have := h.2.2.1 i hi; omega)
    (fun i j hi hj e => h.inj hi hj (by have := h.2.2.1 i hi; have := h.2.2.1 j hj; omega)) (v - 49).toNat (by omega)
  exact ⟨i, hi, by have := h.2.2.1 i hi; omega⟩

def turnL (a : ByteArray) : List Int := (List.range a.size).map fun p : Nat => 48 + placeS a ((p : Int) + 1)
def turnS (a : ByteArray) : ByteArray := mkS (turnL a)
theorem size_turn (a : ByteArray) : (turnS a).size = a.size := by unfold turnS turnL; rw [size_mkS]; simp
theorem bat_turn (a : ByteArray) (ha : a.size ≤ 8) (p : Nat) (h : p < a.size) : bat (turnS a) p = 48 + placeS a ((p : Int) + 1) := by
  unfold turnS
  have hl : p < (turnL a).length := by simpa [turnL] using h
  have e : (turnL a)[p] = 48 + placeS a ((p : Int) + 1) := by simp [turnL]
  have := placeAt_le a (48 + ((p : Int) + 1)) a.size
  have e2 : placeS a ((p : Int) + 1) = placeAt a (48 + ((p : Int) + 1)) a.size := rfl
  rw [bat_mkS _ p hl (by rw [e, e2]; omega) (by rw [e, e2]; omega), e]

/-- What stands in the cells behind k stores of the inverse. -/
def turnAt (a : ByteArray) (z : Nat → Int) (k : Nat) (p : Nat) : Int :=
  if placeAt a (49 + p) k = 0 then z p else 48 + placeAt a (49 + p) k
theorem turnAt_step {a : ByteArray} (z : Nat → Int) (k q : Nat) (hq : bat a k = 49 + q) (p : Nat) :
    (if p = q then 49 + (k : Int) else turnAt a z k p) = turnAt a z (k + 1) p := by
  unfold turnAt
  by_cases e : p = q
  · subst e
    rw [if_pos rfl]
    have : placeAt a (49 + (p : Int)) (k + 1) = k + 1 := by unfold placeAt; rw [if_pos hq]
    rw [this, if_neg (by omega)]; omega
  · rw [if_neg e]
    have : placeAt a (49 + (p : Int)) (k + 1) = placeAt a (49 + (p : Int)) k := by
      conv => lhs; unfold placeAt
      rw [if_neg (by rw [hq]; omega)]
    rw [this]
theorem turnAt_end {a : ByteArray} (h : isRow a) (z : Nat → Int) (p : Nat) (hp : p < a.size) : turnAt a z a.size p = 48 + placeS a ((p : Int) + 1) := by
  obtain ⟨i, hi, e⟩ := h.hit (v := 49 + p) (by omega) (by omega)
  have e1 : placeAt a (49 + (p : Int)) a.size = i + 1 := placeAt_hit a _ a.size i hi e (fun j hj e' => h.inj hj hi (by omega))
  unfold turnAt placeS
  rw [e1, if_neg (by omega), show (48 : Int) + ((p : Int) + 1) = 49 + p from by omega, e1]

end Go.Proofs.YtbfhfnejppfehaaDoor

/-
  Contracts of chapter 1, the reference's side: products and inverses of rows; two rows of one stage.
-/
namespace Go.Proofs.YtbfhfnejppfehaaDoor
open Go.RowKit
set_option linter.unusedVariables false
set_option linter.unusedSimpArgs false
set_option maxRecDepth 100000

theorem l1At_k (s : ByteArray) (k : Nat) (p : Int) (w : World) (hp : p = k + 1) (h2 : k < s.size) (hs : s.size ≤ 1000000) (h3 : 48 ≤ bat s k) :
    Calls Tryd.prog 126 #[.string s, .int .i64 p] w fun e w' => e = .returned (.int .i64 (bat s k - 48)) ∧ w = w' := by
  have e : p - 1 = k := by omega
  have := l1At_any s p w (by omega) (by omega) (by omega) (by rw [e]; exact h3)
  rw [e] at this; exact this

theorem take_snoc {l : List Int} {k : Nat} (h : k < l.length) : l.take (k + 1) = l.take k ++ [l[k]] := List.take_succ_eq_append_getElem h
theorem mkS_snoc (l : List Int) (s : ByteArray) (v : Int) (hs : s.size = 1) (hv : bat s 0 = v) : mkS l ++ s = mkS (l ++ [v]) := by
  refine str_ext (by rw [size_app, size_mkS, size_mkS, hs]; simp) fun i hi => ?_
  rw [size_app, size_mkS, hs] at hi
  have h1 := bat_lo s 0
  have h2 := bat_hi s 0
  by_cases h : i < l.length
  · rw [bat_append_l _ _ _ (by rw [size_mkS]; exact h)]
    unfold bat mkS
    simp [List.getElem?_append_left, h]
  · obtain rfl : i = l.length := by omega
    have := bat_append_r (mkS l) s 0
    rw [size_mkS] at this
    rw [show (l.length : Nat) = l.length + 0 from rfl, this]
    rw [bat_mkS _ _ (by simp) (by simp; omega) (by simp; omega)]
    simp; exact hv

set_option maxHeartbeats 800000 in
theorem l1Times_any (a b : ByteArray) (w : World) (hb : b.size ≤ 1000000) (ha : a.size ≤ 1000000) (h : ∀ i : Nat, i < b.size → 49 ≤ bat b i ∧ bat b i < 49 + a.size) :
    Calls Tryd.prog 144 #[.string a, .string b] w fun e w' => e = .returned (.string (timesS a b)) ∧ w = w' := by
  have H := Lib.hid h
  clear h
  go_enter Tryd.func144, Tryd.ntmps144
  go_wp2
  go_loop [5, 6] (fun s i => ∃ (k : Nat) (o : ByteArray), k ≤ b.size ∧ i = .int .i64 (k + 1) ∧ s = .string o ∧ o.size ≤ k ∧ Hid (o = mkS ((timesL a b).take k))) (fun _ i => b.size + 1 - (intOf i).toNat)
  case atStart => exact ⟨0, ⟨#[]⟩, by omega, by rfl, rfl, by decide, rfl⟩
  case round =>
    obtain ⟨k, o, hk, rfl, rfl, ho, he⟩ := hrel
    by_cases hlt : k < b.size
    · obtain ⟨h1, h2⟩ := H.out k hlt
      have hy := bat_hi b k
      go_wp2_with (go_at_call 126; refine (l1At_k b k _ _ (by omega) hlt hb (by omega)).mono ?_; rintro e w' ⟨rfl, rfl⟩)
      go_round
      case rel =>
        have hsz : (a.extract ((bat b k - 48).toNat - 1) (bat b k - 48).toNat).size = 1 := by rw [size_ext]; omega
        refine ⟨k + 1, _, by omega, by go_num, rfl, by rw [size_app, hsz]; omega, ?_⟩
        have hl : k < (timesL a b).length := by simp [timesL]; omega
        show _ = _
        rw [take_snoc hl, he.out]
        refine mkS_snoc _ _ _ hsz ?_
        have := bat_ext a ((bat b k - 48).toNat - 1) (bat b k - 48).toNat 0 (by omega)
        rw [show ((0 : Nat) : Int) = 0 from rfl] at this
        rw [this]
        have e : (((bat b k - 48).toNat - 1 + 0 : Nat) : Int) = bat b k - 49 := by omega
        rw [e]; simp [timesL]
      case measure => simp [intOf]; omega
    · go_wp2
      go_ret
      exact ⟨by rw [he.out, List.take_of_length_le (by simp [timesL]; omega)]; rfl, rfl⟩

/-- Two rows of one stage. -/
def two (a b : ByteArray) : Prop := isRow a ∧ isRow b ∧ a.size = b.size
end Go.Proofs.YtbfhfnejppfehaaDoor
/-
  Contracts: the place of a bell in a row (both sides).
-/
namespace Go.Proofs.YtbfhfnejppfehaaDoor
open Go.RowKit
set_option linter.unusedVariables false
set_option linter.unusedSimpArgs false
set_option maxRecDepth 100000


set_option maxHeartbeats 800000 in
theorem placeOf_any (a : ByteArray) (b : Int) (w : World) (h : isRow a) (h0 : 0 ≤ b) (h9 : b ≤ 1000) :
    Calls Tryd.prog 109 #[.string a, .int .i64 b] w fun e w' => e = .returned (.int .i64 (placeS a b)) ∧ w = w' := by
  have h8 := h.2.1
  have H := Lib.hid h
  clear h
  go_enter Tryd.func109, Tryd.ntmps109
  go_wp2
  go_loop [8] (fun i => ∃ k : Nat, k ≤ a.size ∧ i = .int .i64 k ∧ ∀ j : Nat, j < k → bat a j ≠ 48 + b) (fun i => a.size - (intOf i).toNat)
  case atStart => exact ⟨0, by omega, by rfl, by omega⟩
  case round =>
    obtain ⟨k, hk, rfl, hn⟩ := hrel
    have Hn := Lib.hid hn
    clear hn
    by_cases hlt : k < a.size
    · have hb := H.out.2.2.1 k hlt
      have hy := bat_hi a k
      by_cases c : bat a k = 48 + b
      · have cb : (bat a k - 48 == b) = true := by simp <;> omega
        have C := Lib.hid c
        clear c
        go_wp2
        go_ret
        exact ⟨ret_int (by unfold placeS; rw [placeAt_hit a _ a.size k hlt C.out (fun j hj e => H.out.inj hj hlt (by have := C.out; omega))]), rfl⟩
      · have cb : (bat a k - 48 == b) = false := by simp <;> omega
        have C := Lib.hid c
        clear c
        go_wp2
        go_round
        case rel =>
          refine ⟨k + 1, by omega, by go_num, fun j hj => ?_⟩
          rcases Nat.lt_or_eq_of_le (Nat.le_of_lt_succ hj) with h' | rfl
          · exact Hn.out j h'
          · exact C.out
        case measure => simp [intOf]; omega
    · go_wp2
      go_ret
      obtain rfl : k = a.size := by omega
      exact ⟨ret_int (by unfold placeS; rw [placeAt_none a _ a.size Hn.out]), rfl⟩

set_option maxHeartbeats 800000 in
theorem l5Place_any (a : ByteArray) (b : Int) (w : World) (h : isRow a) (h0 : 0 ≤ b) (h9 : b ≤ 1000) :
    Calls Tryd.prog 101 #[.string a, .int .i64 b] w fun e w' => e = .returned (.int .i64 (placeS a b)) ∧ w = w' := by
  have h8 := h.2.1
  have H := Lib.hid h
  clear h
  go_enter Tryd.func101, Tryd.ntmps101
  go_wp2
  go_loop [5] (fun i => ∃ k : Nat, k ≤ a.size ∧ i = .int .i64 (k + 1) ∧ ∀ j : Nat, j < k → bat a j ≠ 48 + b) (fun i => a.size + 1 - (intOf i).toNat)
  case atStart => exact ⟨0, by omega, by rfl, by omega⟩
  case round =>
    obtain ⟨k, hk, rfl, hn⟩ := hrel
    have Hn := Lib.hid hn
    clear hn
    by_cases hlt : k < a.size
    · have hb := H.out.2.2.1 k hlt
      have hy := bat_hi a k
      by_cases c : bat a k = 48 + b
      · have cb : (bat a k - 48 == b) = true := by simp <;> omega
        have C := Lib.hid c
        clear c
        go_wp2_with (go_at_call 126; refine (l1At_k a k _ _ (by omega) hlt (by omega) (by omega)).mono ?_; rintro e w' ⟨rfl, rfl⟩)
        go_ret
        exact ⟨ret_int (by unfold placeS; rw [placeAt_hit a _ a.size k hlt C.out (fun j hj e => H.out.inj hj hlt (by have := C.out; omega))]), rfl⟩
      · have cb : (bat a k - 48 == b) = false := by simp <;> omega
        have C := Lib.hid c
        clear c
        go_wp2_with (go_at_call 126; refine (l1At_k a k _ _ (by omega) hlt (by omega) (by omega)).mono ?_; rintro e w' ⟨rfl, rfl⟩)
        go_round
        case rel =>
          refine ⟨k + 1, by omega, by go_num, fun j hj => ?_⟩
          rcases Nat.lt_or_eq_of_le (Nat.le_of_lt_succ hj) with h' | rfl
          · exact Hn.out j h'
          · exact C.out
        case measure => simp [intOf]; omega
    · go_wp2
      go_ret
      obtain rfl : k = a.size := by omega
      exact ⟨ret_int (by unfold placeS; rw [placeAt_none a _ a.size Hn.out]), rfl⟩
end Go.Proofs.YtbfhfnejppfehaaDoor
