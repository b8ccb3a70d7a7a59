import Derived.Test.YtkegbbndmfnolaaMBeatsL19
import Derived.Test.YtkegbbndmfnolaaMBeatsL22
import Derived.Test.YtkegbbndmfnolaaMBeatsL06
import Derived.Test.YtkegbbndmfnolaaMBeatsL08
/-
  How often a row is applied until it comes to rounds: plain law (840 serves for up to eight bells), and the contract of l1Order.
-/
namespace Go.Proofs.Ytkegbbndmfnolaa
open Go.RowKit
set_option linter.unusedVariables false
set_option linter.unusedSimpArgs false
set_option maxRecDepth 100000

def itF (f : Nat → Nat) : Nat → Nat → Nat
  | 0, i => i
  | k + 1, i => f (itF f k i)
theorem itF_comm (f : Nat → Nat) (i : Nat) : ∀ k, itF f k (f i) = f (itF f k i)
  | 0 => rfl
  | k + 1 => by show f (itF f k (f i)) = f (f (itF f k i)); rw [itF_comm f i k]
theorem itF_add (f : Nat → Nat) (b i : Nat) : ∀ a, itF f (a + b) i = itF f a (itF f b i)
  | 0 => by rw [Nat.zero_add]; rfl
  | a + 1 => by rw [show a + 1 + b = (a + b) + 1 by omega]; show f (itF f (a + b) i) = f (itF f a (itF f b i)); rw [itF_add f b i a]
theorem itF_lt {f : Nat → Nat} {n i : Nat} (hf : ∀ i, i < n → f i < n) (hi : i < n) : ∀ k, itF f k i < n
  | 0 => hi
  | k + 1 => hf _ (itF_lt hf hi k)
theorem itF_cancel {f : Nat → Nat} {n i d : Nat} (hf : ∀ i, i < n → f i < n) (hj : ∀ i j, i < n → j < n → f i = f j → i = j) (hi : i < n) : ∀ a, itF f (a + d) i = itF f a i → itF f d i = i
  | 0, h => by rw [Nat.zero_add] at h; exact h
  | a + 1, h => by
    rw [show a + 1 + d = (a + d) + 1 by omega] at h
    exact itF_cancel hf hj hi a (hj _ _ (itF_lt hf hi _) (itF_lt hf hi _) h)
theorem itF_mul {f : Nat → Nat} {i d : Nat} (h : itF f d i = i) : ∀ m, itF f (m * d) i = i
  | 0 => by rw [Nat.zero_mul]; rfl
  | m + 1 => by rw [Nat.add_mul, Nat.one_mul, itF_add, h]; exact itF_mul h m
theorem itF_orbit {f : Nat → Nat} {n i : Nat} (hf : ∀ i, i < n → f i < n) (hj : ∀ i j, i < n → j < n → f i = f j → i = j) (hi : i < n) : ∃ d, 1 ≤ d ∧ d ≤ n ∧ itF f d i = i := by
  refine Classical.byContradiction fun hn => ?_
  have hnd : ((List.range (n + 1)).map fun k => itF f k i).Nodup := by
    rw [List.Nodup, List.pairwise_iff_getElem]
    intro a b ha hb hab e
    simp only [List.length_map, List.length_range] at ha hb
    simp only [List.getElem_map, List.getElem_range] at e
    refine hn ⟨b - a, by omega, by omega, itF_cancel (d := b - a) hf hj hi a ?_⟩
    rw [show a + (b - a) = b by omega]; exact e.symm
  have := CycT.nodupN_le _ n hnd (fun x hx => by
    obtain ⟨k, _, rfl⟩ := List.mem_map.1 hx
    exact itF_lt hf hi k)
  simp only [List.length_map, List.length_range] at this
  omega
theorem itF_840 {f : Nat → Nat} {n i : Nat} (h8 : n ≤ 8) (hf : ∀ i, i < n → f i < n) (hj : ∀ i j, i < n → j < n → f i = f j → i = j) (hi : i < n) : itF f 840 i = i := by
  obtain ⟨d, h1, h2, h3⟩ := itF_orbit hf hj hi
  have key : ∀ d : Fin 9, 1 ≤ d.val → (840 / d.val) * d.val = 840 := by decide
  have := itF_mul h3 (840 / d)
  rw [key ⟨d, by omega⟩ h1] at this
  exact this
/-- A row applied to itself so often (and once more). -/
def powS (a : ByteArray) : Nat → ByteArray
  | 0 => a
  | k + 1 => timesS (powS a k) a
theorem powS_size (a : ByteArray) : ∀ k, (powS a k).size = a.size
  | 0 => rfl
  | k + 1 => size_times _ _
theorem powS_bat {a : ByteArray} (h : isRow a) : ∀ (k i : Nat), i < a.size → bat (powS a k) i = 49 + ((itF (rowF a) (k + 1) i : Nat) : Int)
  | 0, i, hi => by show bat a i = _; have := rowF_bat h hi; show _ = 49 + ((rowF a i : Nat) : Int); omega
  | k + 1, i, hi => by
    show bat (timesS (powS a k) a) i = _
    rw [bat_times _ _ _ hi]
    have e : bat a i - 49 = ((rowF a i : Nat) : Int) := by have := rowF_bat h hi; omega
    rw [e, powS_bat h k (rowF a i) (rowF_lt h i hi), itF_comm]
    rfl
theorem powS_840 {a : ByteArray} (h : isRow a) : powS a 839 = roundsS (a.size : Int) := by
  have h3 : 3 ≤ a.size := h.1
  have h8 : a.size ≤ 8 := h.2.1
  have hs : (roundsS (a.size : Int)).size = a.size := (row_rounds h3 h8).2
  refine str_ext (by rw [powS_size, hs]) fun i hi => ?_
  rw [powS_size] at hi
  rw [powS_bat h _ _ hi, rounds_bat hi h8, itF_840 h8 (fun i hi => rowF_lt h i hi) (fun i j hi hj e => rowF_inj h i j hi hj e) hi]
set_option maxHeartbeats 1600000 in
theorem l1Order_any (a : ByteArray) (w : World) (h : isRow a) :
    Calls Try.prog 135 #[.string a] w fun e w' => ∃ k : Nat, e = .returned (.int .i64 (k : Int)) ∧ 1 ≤ k ∧ k ≤ 840 ∧ Below w.heap.size w w' := by
  have h3 : 3 ≤ a.size := h.1
  have h8 : a.size ≤ 8 := h.2.1
  obtain ⟨R, hR⟩ : ∃ R, Hid (roundsS (a.size : Int) = R) := ⟨_, Lib.hid rfl⟩
  have hE : Hid (powS a 839 = R) := Lib.hid (by rw [← hR.out]; exact powS_840 h)
  have hrn : Hid (∀ w, Calls Try.prog 134 #[.int .i64 (a.size : Int)] w fun e w' => e = .returned (.string R) ∧ w = w') := Lib.hid (fun w => by rw [← hR.out]; exact l1Rounds_any (a.size : Int) w (by omega) (by omega))
  have htm : Hid (∀ (k : Nat) (W : World), Calls Try.prog 144 #[.string (powS a k), .string a] W fun e w' => e = .returned (.string (powS a (k + 1))) ∧ W = w') := Lib.hid (fun k W => l1Times_any (powS a k) a W (by omega) (by rw [powS_size]; omega) (fun i hi => by have := h.2.2.1 i hi; rw [powS_size]; exact this))
  have hpz : Hid (∀ k, (powS a k).size = a.size) := Lib.hid (powS_size a)
  clear h
  go_enter Try.func135, Try.ntmps135
  go_wp2
  go_loopw [3, 4] (fun k x wr => ∃ j : Nat, j < 840 ∧ k = .int .i64 ((j : Int) + 1) ∧ x = .string (powS a j) ∧ Below w.heap.size w wr) (fun k _ _ => 841 - (intOf k).toNat)
  case atStart => exact ⟨0, by omega, by go_num, by rfl, Below.refl _ _⟩
  case round =>
    obtain ⟨j, hj, rfl, rfl, hbl⟩ := hrel
    have HB := Lib.hid hbl
    have htm1 := Lib.hid (htm.out j)
    have hps := hpz.out j
    have hlast : Hid (powS a j ≠ R → j ≠ 839) := Lib.hid (fun e e2 => e (by rw [e2]; exact hE.out))
    clear hbl
    obtain ⟨T, hT⟩ : ∃ T, Hid (powS a j = T) := ⟨_, Lib.hid rfl⟩
    rw [hT.out] at htm1 hps hlast ⊢
    by_cases hc : T = R
    · have e2 := eqB_t hc
      clear hc
      go_wp2_with (first | (go_at_call 134; refine (hrn.out _).mono ?_; rintro e w1 ⟨rfl, rfl⟩) | fail)
      go_ret
      exact ⟨j + 1, by go_num, by omega, by omega, HB.out⟩
    · have hj2 := hlast.out hc
      have e2 := eqB_f hc
      clear hc
      go_wp2_with (first | (go_at_call 134; refine (hrn.out _).mono ?_; rintro e w1 ⟨rfl, rfl⟩) | (go_at_call 144; refine (htm1.out _).mono ?_; rintro e w1 ⟨rfl, rfl⟩) | fail)
      go_roundw
      case rel => exact ⟨j + 1, by omega, by go_num, by rfl, HB.out⟩
      case measure => simp [intOf]; omega
end Go.Proofs.Ytkegbbndmfnolaa
