/-
  A touch turned, reversed, its least turn: in plain words, and the contracts of both sides.
-/
import Derived.Test.YtdegbckoejddeaaWords
import Derived.Lib.MinMaxS
import Derived.Lib.OthersKept
namespace Go.Proofs.Ytdegbckoejddeaa
open Go.RowKit
set_option linter.unusedVariables false
set_option linter.unusedSimpArgs false
set_option maxRecDepth 100000

/-! ### Plain -/
theorem bl_asymm : ∀ x y : List UInt8, Op.bytesLess x y = true → Op.bytesLess y x = false
  | [], [], h => by simp [Op.bytesLess] at h
  | [], _ :: _, _ => rfl
  | _ :: _, [], h => by simp [Op.bytesLess] at h
  | a :: x, b :: y, h => by
    have ih := bl_asymm x y
    simp only [Op.bytesLess, Bool.or_eq_true, Bool.and_eq_true, decide_eq_true_eq, beq_iff_eq, Bool.or_eq_false_iff, decide_eq_false_iff_not, Bool.and_eq_false_imp] at h ih ⊢
    rcases h with h | ⟨rfl, h⟩
    · exact ⟨by rw [UInt8.lt_iff_toNat_lt] at h ⊢; omega, fun e => by subst e; rw [UInt8.lt_iff_toNat_lt] at h; omega⟩
    · exact ⟨by rw [UInt8.lt_iff_toNat_lt]; omega, fun _ => ih h⟩
theorem bl_eq : ∀ x y : List UInt8, Op.bytesLess x y = false → Op.bytesLess y x = false → x = y
  | [], [], _, _ => rfl
  | [], _ :: _, h, _ => by simp [Op.bytesLess] at h
  | _ :: _, [], _, h => by simp [Op.bytesLess] at h
  | a :: x, b :: y, h, h' => by
    have ih := bl_eq x y
    simp only [Op.bytesLess, Bool.or_eq_false_iff, decide_eq_false_iff_not, Bool.and_eq_false_imp, beq_iff_eq] at h h'
    have e : a = b := by
      apply UInt8.toNat_inj.1
      have h1 := h.1
      have h2 := h'.1
      rw [UInt8.lt_iff_toNat_lt] at h1 h2
      omega
    subst e
    rw [ih (h.2 rfl) (h'.2 rfl)]
theorem minS_less (a x : ByteArray) : Lib.minS a x = if Op.bytesLess x.toList a.toList = true then x else a := by
  unfold Lib.minS
  have e1 : (a.data.toList < x.data.toList) ↔ Op.bytesLess a.toList x.toList = true := by rw [bytesLess_eq, Lib.toList_data, Lib.toList_data]; simp
  by_cases h : Op.bytesLess x.toList a.toList = true
  · rw [if_pos h]
    have h1 := bl_asymm _ _ h
    by_cases h2 : a.data.toList < x.data.toList ∨ a.data.toList = x.data.toList
    · rcases h2 with h2 | h2
      · rw [e1, h1] at h2; cases h2
      · rw [if_pos (.inr h2)]
        exact ByteArray.ext (Array.ext' h2)
    · rw [if_neg h2]
  · rw [if_neg h]
    rw [if_pos]
    by_cases h2 : Op.bytesLess a.toList x.toList = true
    · exact .inl (e1.2 h2)
    · right
      have := bl_eq _ _ (by simpa using h2) (by simpa using h)
      rw [Lib.toList_data, Lib.toList_data] at this
      exact this
/-- A touch turned by so many calls. -/
def turnS (t : ByteArray) (n : Nat) : ByteArray := t.extract n t.size ++ t.extract 0 n
theorem turnS_size (t : ByteArray) (n : Nat) (h : n ≤ t.size) : (turnS t n).size = t.size := by unfold turnS; rw [size_app, size_ext, size_ext]; omega
def leastGo (t : ByteArray) : Nat → ByteArray
  | 0 => t
  | n + 1 => Lib.minS (leastGo t n) (turnS t n)
theorem leastGo_size (t : ByteArray) : ∀ n, n ≤ t.size → (leastGo t n).size = t.size
  | 0, _ => rfl
  | n + 1, h => by
    simp only [leastGo, minS_less]
    split
    · exact turnS_size t n (by omega)
    · exact leastGo_size t n (by omega)
/-- The first calls, the last of them first. -/
def revP (t : ByteArray) : Nat → ByteArray
  | 0 => ByteArray.empty
  | i + 1 => t.extract i (i + 1) ++ revP t i
theorem revP_size (t : ByteArray) : ∀ i, i ≤ t.size → (revP t i).size = i
  | 0, _ => rfl
  | i + 1, h => by rw [revP, size_app, size_ext, revP_size t i (by omega)]; omega
def backS (t : ByteArray) : ByteArray := revP t (t.size - 1) ++ t.extract (t.size - 1) t.size
theorem backS_size (t : ByteArray) (h : 1 ≤ t.size) : (backS t).size = t.size := by unfold backS; rw [size_app, size_ext, revP_size t _ (by omega)]; omega
/-- The least turn of a touch and of its reversal. -/
def leastB (t : ByteArray) : ByteArray := Lib.minS (leastGo t t.size) (leastGo (backS t) (backS t).size)
theorem bat_ext1 (t : ByteArray) (k i : Nat) (h : k < t.size) (hi : i < (t.extract k (k + 1)).size) : bat (t.extract k (k + 1)) i = bat t k := by
  rw [size_ext] at hi
  rw [bat_ext t k (k + 1) i (by omega)]
  have : k + i = k := by omega
  rw [this]
theorem revP_calls (t : ByteArray) (h : areCallsP t) : ∀ i, i ≤ t.size → areCallsP (revP t i)
  | 0, _ => fun i hi => absurd hi (by simp [revP])
  | k + 1, hk => fun i hi => by
    have hs : (t.extract k (k + 1)).size = 1 := by rw [size_ext]; omega
    rw [revP] at hi ⊢
    by_cases h0 : i < (t.extract k (k + 1)).size
    · rw [bat_append_l _ _ i h0, bat_ext1 t k i (by omega) h0]; exact h k (by omega)
    · obtain ⟨j, rfl⟩ : ∃ j, i = (t.extract k (k + 1)).size + j := ⟨i - (t.extract k (k + 1)).size, by omega⟩
      rw [bat_append_r]
      refine revP_calls t h k (by omega) j ?_
      rw [size_app] at hi; omega
theorem backS_calls (t : ByteArray) (h : areCallsP t) (h1 : 1 ≤ t.size) : areCallsP (backS t) := fun i hi => by
  unfold backS at hi ⊢
  have hs := revP_size t (t.size - 1) (by omega)
  by_cases h0 : i < (revP t (t.size - 1)).size
  · rw [bat_append_l _ _ i h0]; exact revP_calls t h _ (by omega) i h0
  · obtain ⟨j, rfl⟩ : ∃ j, i = (revP t (t.size - 1)).size + j := ⟨i - (revP t (t.size - 1)).size, by omega⟩
    rw [bat_append_r]
    rw [size_app, size_ext] at hi
    rw [bat_ext t _ _ j (by omega)]
    exact h _ (by omega)
theorem touch_back {t : ByteArray} (h : touchP t) : touchP (backS t) := ⟨backS_calls t h.1 h.2.1, by rw [backS_size t h.2.1]; exact h.2.1, by rw [backS_size t h.2.1]; exact h.2.2⟩
theorem ascii_of {t : ByteArray} (h : areCallsP t) (k : Nat) (hk : k < t.size) : (t[k]'hk).toNat < 128 := by
  have := h k hk
  have e : bat t k = ((t[k]'hk).toNat : Int) := by
    unfold bat
    rw [Int.toNat_natCast, List.getD_eq_getElem?_getD, List.getElem?_eq_getElem (by exact hk)]
    rfl
  rw [e] at this
  unfold callByte at this
  omega

/-! ### The program's -/
theorem backwards_any (t : ByteArray) (w : World) (h1 : 1 ≤ t.size) (h2 : t.size ≤ 60) :
    Calls Try.prog 170 #[.string t] w fun e w' => e = .returned (.string (backS t)) ∧ w = w' := by
  have hm1 : (t.size : Int) - 1 = ((t.size - 1 : Nat) : Int) := by omega
  go_enter Try.func170, Try.ntmps170
  go_wp2
  go_loop [3, 8] (fun s i => ∃ k : Nat, k + 1 ≤ t.size ∧ i = .int .i64 k ∧ s = .string (revP t k)) (fun _ i => t.size - (intOf i).toNat)
  case atStart => exact ⟨0, by omega, by rfl, rfl⟩
  case round =>
    obtain ⟨k, hk, rfl, rfl⟩ := hrel
    have hs1 : (revP t k).size ≤ 60 := by rw [revP_size t k (by omega)]; omega
    have hs2 : (t.extract k (k + 1)).size ≤ 1 := by rw [size_ext]; omega
    by_cases hlt : k + 1 < t.size
    · go_wp2
      go_round
      case rel => exact ⟨k + 1, by omega, by go_num, rfl⟩
      case measure => simp [intOf]; omega
    · have hs3 : (t.extract (t.size - 1) t.size).size ≤ 1 := by rw [size_ext]; omega
      obtain rfl : k = t.size - 1 := by omega
      go_wp2
      go_ret
      exact ⟨rfl, rfl⟩
theorem leastTurn_f (t : ByteArray) (w : World) (h1 : 1 ≤ t.size) (h2 : t.size ≤ 60) :
    Calls Try.prog 140 #[.string t, .bool false] w fun e w' => e = .returned (.string (leastGo t t.size)) ∧ Below w.heap.size w w' := by
  have hmx : ∀ (w : World) (ts : Array TypeId) (ty : TypeId) (x y : ByteArray), (Builtin.min_ ts ty #[.string x, .string y]).run Try.prog w = .ok (.string (Lib.minS x y)) w := Lib.run_min_strs
  go_enter Try.func140, Try.ntmps140
  go_wp2
  go_loopw [5, 10] (fun s i wr => ∃ k : Nat, k ≤ t.size ∧ i = .int .i64 k ∧ s = .string (leastGo t k) ∧ Below w.heap.size w wr) (fun _ i _ => t.size - (intOf i).toNat)
  case atStart => exact ⟨0, by omega, by rfl, rfl, Below.refl _ _⟩
  case round =>
    obtain ⟨k, hk, rfl, rfl, hbl⟩ := hrel
    have Hbl := Lib.hid hbl
    clear hbl
    by_cases hlt : k < t.size
    · have hs1 : (t.extract k t.size).size ≤ 60 := by rw [size_ext]; omega
      have hs2 : (t.extract 0 k).size ≤ 60 := by rw [size_ext]; omega
      go_wp2
      go_region
      go_wp2
      go_roundw
      case rel => exact ⟨k + 1, by omega, by go_num, rfl, Hbl.out.drew⟩
      case measure => simp [intOf]; omega
    · obtain rfl : k = t.size := by omega
      go_wp2
      go_ret
      exact ⟨rfl, Hbl.out⟩
theorem leastTurn_t (t : ByteArray) (w : World) (ht : touchP t) :
    Calls Try.prog 140 #[.string t, .bool true] w fun e w' => e = .returned (.string (leastB t)) ∧ Below w.heap.size w w' := by
  obtain ⟨_, h1, h2⟩ := ht
  have h3 : 1 ≤ (backS t).size := by rw [backS_size t h1]; exact h1
  have h4 : (backS t).size ≤ 60 := by rw [backS_size t h1]; exact h2
  have hmx : ∀ (w : World) (ts : Array TypeId) (ty : TypeId) (x y : ByteArray), (Builtin.min_ ts ty #[.string x, .string y]).run Try.prog w = .ok (.string (Lib.minS x y)) w := Lib.run_min_strs
  go_enter Try.func140, Try.ntmps140
  go_wp2
  go_loopw [5, 10] (fun s i wr => ∃ k : Nat, k ≤ t.size ∧ i = .int .i64 k ∧ s = .string (leastGo t k) ∧ Below w.heap.size w wr) (fun _ i _ => t.size - (intOf i).toNat)
  case atStart => exact ⟨0, by omega, by rfl, rfl, Below.refl _ _⟩
  case round =>
    obtain ⟨k, hk, rfl, rfl, hbl⟩ := hrel
    have Hbl := Lib.hid hbl
    clear hbl
    by_cases hlt : k < t.size
    · have hs1 : (t.extract k t.size).size ≤ 60 := by rw [size_ext]; omega
      have hs2 : (t.extract 0 k).size ≤ 60 := by rw [size_ext]; omega
      go_wp2
      go_region
      go_wp2
      go_roundw
      case rel => exact ⟨k + 1, by omega, by go_num, rfl, Hbl.out.drew⟩
      case measure => simp [intOf]; omega
    · obtain rfl : k = t.size := by omega
      go_wp2_with (first | (go_at_call 170; refine (backwards_any t _ h1 h2).mono ?_; rintro e w' ⟨rfl, rfl⟩) | (go_at_call 140; refine (leastTurn_f (backS t) _ h3 h4).mono ?_; rintro e w' ⟨rfl, hb2⟩))
      go_ret
      exact ⟨rfl, Hbl.out.trans (hb2.mono Hbl.out.size)⟩
/-! ### The reference's -/
theorem l9Turn_any (t : ByteArray) (k : Nat) (w : World) (hk : k ≤ t.size) (h2 : t.size ≤ 60) :
    Calls Try.prog 181 #[.string t, .int .i64 k] w fun e w' => e = .returned (.string (turnS t k)) ∧ ∃ n, w' = w.drewN n := by
  have hs1 : (t.extract k t.size).size ≤ 60 := by rw [size_ext]; omega
  have hs2 : (t.extract 0 k).size ≤ 60 := by rw [size_ext]; omega
  go_enter Try.func181, Try.ntmps181
  go_wp2
  go_region
  go_wp2
  go_ret
  exact ⟨rfl, 1, rfl⟩
theorem l9Reverse_any (t : ByteArray) (w : World) (h1 : 1 ≤ t.size) (h2 : t.size ≤ 60) :
    Calls Try.prog 180 #[.string t] w fun e w' => e = .returned (.string (backS t)) ∧ w = w' := by
  go_enter Try.func180, Try.ntmps180
  go_wp2
  go_loop [3, 4] (fun s i => ∃ (k : Nat) (o : ByteArray), k + 1 ≤ t.size ∧ i = .int .i64 ((k : Int) - 1) ∧ s = .string o ∧ o.size + k + 1 = t.size ∧ Hid (o ++ revP t k = revP t (t.size - 1))) (fun _ i => (intOf i + 1).toNat)
  case atStart => exact ⟨t.size - 1, ByteArray.empty, by omega, by congr 1; omega, rfl, by simp; omega, by show _ = _; simp⟩
  case round =>
    obtain ⟨k, o, hk, rfl, rfl, hso, ho⟩ := hrel
    have ho1 : o.size ≤ 60 := by omega
    have Hso := Lib.hid hso
    clear hso
    rcases Nat.eq_zero_or_pos k with h0 | hpos
    · subst h0
      have hs3 : (t.extract (t.size - 1) t.size).size ≤ 1 := by rw [size_ext]; omega
      have hm1 : (t.size : Int) - 1 = ((t.size - 1 : Nat) : Int) := by omega
      go_wp2
      go_ret
      refine ⟨ret_str ?_, rfl⟩
      unfold backS
      rw [← ho.out]
      simp [revP]
    · obtain ⟨j, rfl⟩ : ∃ j, k = j + 1 := ⟨k - 1, by omega⟩
      have e1 : ((j + 1 : Nat) : Int) - 1 = (j : Int) := by omega
      rw [e1]
      clear e1
      have hs3 : (t.extract j (j + 1)).size ≤ 1 := by rw [size_ext]; omega
      go_wp2
      go_round
      case rel => exact ⟨j, o ++ t.extract j (j + 1), by omega, rfl, rfl, by rw [size_app, size_ext]; have := Hso.out; omega, by show _ = _; rw [← ho.out]; simp [revP, ByteArray.append_assoc]⟩
      case measure => simp [intOf]
set_option maxHeartbeats 800000 in
theorem l9Least_any (t : ByteArray) (w : World) (ha : areCallsP t) (h2 : t.size ≤ 60) :
    Calls Try.prog 179 #[.string t] w fun e w' => e = .returned (.string (leastGo t t.size)) ∧ Below w.heap.size w w' := by
  have HA := Lib.hid ha
  clear ha
  have hk0 : Hid ((w.iter t 0).heap[w.heap.size]? = some (.stringIter t 0)) := Lib.hid (World.iter_heap w t 0)
  have hb0 : Hid (Below w.heap.size w (w.iter t 0)) := Lib.hid ((Below.refl _ w).alloc (Nat.le_refl _) _)
  go_enter Try.func179, Try.ntmps179
  go_wp2
  go_loopw [3] (fun s wr => ∃ k : Nat, k ≤ t.size ∧ s = .string (leastGo t k) ∧ Hid (wr.heap[w.heap.size]? = some (.stringIter t k)) ∧ Below w.heap.size w wr) (fun _ wr => t.size - wr.iterPos w.heap.size)
  case atStart => exact ⟨0, by omega, rfl, hk0, hb0.out⟩
  case round =>
    obtain ⟨k, hk, rfl, hit, hbl⟩ := hrel
    have Hbl := Lib.hid hbl
    clear hbl hk0 hb0
    by_cases hlt : k < t.size
    · have h128 := ascii_of HA.out k hlt
      have hnext : ∀ ty, (Instr.next (.pointer (some ⟨w.heap.size, 0, none⟩)) true ty).run Try.prog wr = _ := fun ty => Lib.run_next_ascii_at wr w.heap.size t k ty hit.out hlt h128
      have hk1 := Lib.hid (Lib.iterAt_heap wr w.heap.size t k (k + 1) hit.out)
      have hb1 : Hid (Below w.heap.size w (wr.iterAt w.heap.size t (k + 1))) := Lib.hid (Lib.below_iterAt Hbl.out (Nat.le_refl _) t (k + 1))
      have hmu : wr.iterPos w.heap.size = k := by simp [World.iterPos, hit.out]
      generalize wr.iterAt w.heap.size t (k + 1) = W1 at hnext hk1 hb1
      have hm := minS_less (leastGo t k) (turnS t k)
      by_cases hls : Op.bytesLess (turnS t k).toList (leastGo t k).toList = true
      · rw [if_pos hls] at hm
        have Hm := Lib.hid hm
        clear hm h128
        go_wp2_with (go_at_call 181; refine (l9Turn_any t k _ hk h2).mono ?_; rintro e w' ⟨rfl, n2, rfl⟩)
        go_roundw
        case rel => exact ⟨k + 1, by omega, by rw [leastGo, Hm.out], hk1, below_drewN hb1.out n2⟩
        case measure =>
          have hmu2 : (W1.drewN n2).iterPos w.heap.size = k + 1 := by have := hk1.out; simp [World.iterPos, this]
          rw [hmu, hmu2]; omega
      · rw [if_neg hls] at hm
        have hls2 : Op.bytesLess (turnS t k).toList (leastGo t k).toList = false := by simpa using hls
        have Hm := Lib.hid hm
        clear hm h128 hls
        go_wp2_with (go_at_call 181; refine (l9Turn_any t k _ hk h2).mono ?_; rintro e w' ⟨rfl, n2, rfl⟩)
        go_roundw
        case rel => exact ⟨k + 1, by omega, by rw [leastGo, Hm.out], hk1, below_drewN hb1.out n2⟩
        case measure =>
          have hmu2 : (W1.drewN n2).iterPos w.heap.size = k + 1 := by have := hk1.out; simp [World.iterPos, this]
          rw [hmu, hmu2]; omega
    · obtain rfl : k = t.size := by omega
      have hnext : ∀ ty, (Instr.next (.pointer (some ⟨w.heap.size, 0, none⟩)) true ty).run Try.prog wr = _ := fun ty => Lib.run_next_end_at wr w.heap.size t t.size ty hit.out hlt
      go_wp2
      go_ret
      exact ⟨rfl, Hbl.out⟩
set_option maxHeartbeats 800000 in
theorem sLeastTurn_t (t : ByteArray) (w : World) (ht : touchP t) :
    Calls Try.prog 169 #[.string t, .bool true] w fun e w' => e = .returned (.tuple #[.string (leastB t), .bool true]) ∧ Below w.heap.size w w' := by
  have e1 := B_t ht
  obtain ⟨ha, h1, h2⟩ := ht
  have h3 : (backS t).size ≤ 60 := by rw [backS_size t h1]; exact h2
  have HB := Lib.hid (backS_calls t ha h1)
  have HA := Lib.hid ha
  have hm := minS_less (leastGo t t.size) (leastGo (backS t) (backS t).size)
  clear ha
  by_cases hls : Op.bytesLess (leastGo (backS t) (backS t).size).toList (leastGo t t.size).toList = true
  · rw [if_pos hls] at hm
    have Hm := Lib.hid hm
    clear hm
    go_enter Try.func169, Try.ntmps169
    go_wp2_with (first | (go_at_call 105; refine (l9Good_any _ _ (by omega)).mono ?_; rintro e w' ⟨rfl, rfl⟩) | (go_at_call 180; refine (l9Reverse_any t _ h1 h2).mono ?_; rintro e w' ⟨rfl, rfl⟩) | (go_at_call 179; (with_reducible show Calls _ _ #[.string t] _ _); refine (l9Least_any t _ HA.out h2).mono ?_; rintro e w1 ⟨rfl, hb1⟩) | (go_at_call 179; refine (l9Least_any (backS t) _ HB.out h3).mono ?_; rintro e w2 ⟨rfl, hb2⟩))
    go_ret2
    exact ⟨by unfold leastB; rw [Hm.out]; rfl, hb1.trans (hb2.mono hb1.size)⟩
  · rw [if_neg hls] at hm
    have hls2 : Op.bytesLess (leastGo (backS t) (backS t).size).toList (leastGo t t.size).toList = false := by simpa using hls
    have Hm := Lib.hid hm
    clear hm hls
    go_enter Try.func169, Try.ntmps169
    go_wp2_with (first | (go_at_call 105; refine (l9Good_any _ _ (by omega)).mono ?_; rintro e w' ⟨rfl, rfl⟩) | (go_at_call 180; refine (l9Reverse_any t _ h1 h2).mono ?_; rintro e w' ⟨rfl, rfl⟩) | (go_at_call 179; (with_reducible show Calls _ _ #[.string t] _ _); refine (l9Least_any t _ HA.out h2).mono ?_; rintro e w1 ⟨rfl, hb1⟩) | (go_at_call 179; refine (l9Least_any (backS t) _ HB.out h3).mono ?_; rintro e w2 ⟨rfl, hb2⟩))
    go_ret2
    exact ⟨by unfold leastB; rw [Hm.out]; rfl, hb1.trans (hb2.mono hb1.size)⟩
end Go.Proofs.Ytdegbckoejddeaa
