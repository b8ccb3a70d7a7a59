import Derived.Test.YtkegbbndmfnolaaGreatDoorMHeardL04
import Derived.Deep.AppendLies
import Derived.Deep.RegionLaw
import Derived.Deep.CutRange
import Derived.Test.YtkegbbndmfnolaaGreatDoorMHeardL00
import Derived.Test.YtkegbbndmfnolaaGreatDoorMHeardL01
/-
  Words of our own that know no program: an append that tells which block it may have turned.
-/
namespace Go.Proofs.YtkegbbndmfnolaaGreatDoor
open Go.RowKit
set_option linter.unusedVariables false
set_option linter.unusedSimpArgs false

section
variable {P : Program} {ops : Array Oper} {rest : List Oper} {o : Oper} {a : Act} {Q : Exit → Act → World → Prop} {w : World}
/-- 'l = append(l, x)', as wpList_push; the new slice's block is the old one's, or new. -/
theorem wpList_pushA {α : Type} (hgd : o.guard = none) (s x : Operand) (t : TypeId) (ho : o.op = .call { callee := .builtin .append, args := #[s, x], argTypes := #[t, t] })
    (base : Nat) (e : TypeId) (z : Value) (size bytes : Nat) (enc : α → List Value)
    (ht : P.underlying t = some (.slice e)) (hinfo : (P.info? e).map (fun i => (i.zero, i.size, i.bytes)) = some (some z, size, bytes)) (hzs : z.cells.size = size) (hsz : 0 < size)
    {news : List Value} {e' : TypeId} {g : Nat} (v : Value) (l ys : List α) (c : Nat) (hs : a.eval s = v) (hx : a.eval x = .slice (some ⟨g, 0, none⟩) ys.length c) (hg0 : g = w.heap.size)
    (hown : Grow w base e size enc v l) (hne : news = flat enc ys) (henc : ∀ x, (enc x).length = size) (h1 : ∀ u ∈ news, u.oneCell' = true)
    (hn : l.length + ys.length ≤ 1000000000) (hb : bytes ≤ 1000) (hbase : base ≤ w.heap.size)
    (h : ∀ v' w', Grow w' base e size enc v' (l ++ ys) → Below base w w' → w.grownBy w' v.ownBlock → (v'.ownBlock = v.ownBlock ∨ v'.ownBlock = some (w.heap.size + 1)) → wpList P ops Q rest (a.put o.dst v') w') :
    wpList P ops Q (o :: rest) a (w.alloc (.cells news.toArray e')) := by
  obtain ⟨i, hi, hzz⟩ := Option.map_eq_some_iff.1 hinfo
  simp only [Prod.mk.injEq] at hzz
  obtain ⟨hz, hs', hb'⟩ := hzz
  subst hne
  subst hg0
  have hmul : (l.length + ys.length) * bytes ≤ 1000000000 * 1000 := Nat.mul_le_mul hn hb
  refine wpList_append_own_at (P := P) _ hgd s x t ho base e i z size bytes ht hi hz hs' hb' hzs hsz v l.length (flat enc l) hs (hown.alloc _) ⟨w.heap.size, 0, none⟩ ys.length c (flat enc ys) hx (flat_len henc ys)
    (fun j u hu => by
      have e : (⟨w.heap.size, 0, none⟩ : Addr).add j = ⟨w.heap.size, j, none⟩ := by unfold Addr.add; split <;> simp_all
      rw [e, World.cell?_alloc_new]; simpa using hu) h1 (by unfold maxLen; omega) (by omega) (by simp; omega) ?_
  intro v' w' hown' hg _ hblk
  have hr : ∀ k, v.ownBlock = some k → base ≤ k := fun k hk => by
    rcases hown.2 with ⟨rfl, _⟩ | ⟨g, cap, cur, rfl, hbg, _⟩
    · simp [Value.ownBlock] at hk
    · simp [Value.ownBlock] at hk; omega
  refine h v' w' ?_ ?_ ?_ ?_
  · unfold Grow
    rw [List.length_append, flat_append]
    exact hown'
  · exact ((Below.refl base w).alloc hbase _).grown hg (by simp; omega) hr
  · exact ⟨hg.os, hg.tape, hg.output, Nat.le_trans (by simp) hg.size, fun k hk hne => (hg.block k (by simp; omega) hne).trans (Below.heap_alloc w _ k hk)⟩
  · simpa using hblk
end
section
variable {P : Program} {ops : Array Oper} {o : Oper} {a : Act} {w : World} {K : Act → World → Prop} {Q : Exit → Act → World → Prop} {E : Prop}
/-- 'l = append(l, x)' at a step of a region that draws its order. -/
theorem step_pushA {α : Type} (hgd : o.guard = none) (s x : Operand) (t : TypeId) (ho : o.op = .call { callee := .builtin .append, args := #[s, x], argTypes := #[t, t] })
    (base : Nat) (e : TypeId) (z : Value) (size bytes : Nat) (enc : α → List Value)
    (ht : P.underlying t = some (.slice e)) (hinfo : (P.info? e).map (fun i => (i.zero, i.size, i.bytes)) = some (some z, size, bytes)) (hzs : z.cells.size = size) (hsz : 0 < size)
    {news : List Value} {e' : TypeId} {g : Nat} (v : Value) (l ys : List α) (c : Nat) (hs : a.eval s = v) (hx : a.eval x = .slice (some ⟨g, 0, none⟩) ys.length c) (hg0 : g = w.heap.size)
    (hown : Grow w base e size enc v l) (hne : news = flat enc ys) (henc : ∀ x, (enc x).length = size) (h1 : ∀ u ∈ news, u.oneCell' = true) (hys : 0 < ys.length)
    (hn : l.length + ys.length ≤ 1000000000) (hb : bytes ≤ 1000) (hbase : base ≤ w.heap.size)
    (h : ∀ v' w', Grow w' base e size enc v' (l ++ ys) → Below base w w' → w.grownBy w' v.ownBlock → (v'.ownBlock = v.ownBlock ∨ v'.ownBlock = some (w.heap.size + 1)) → K (a.put o.dst v') w') :
    if Region.wanted o (yielded ops a.tmps) = true then Oper.wp P o a (w.alloc (.cells news.toArray e')) K Q else E := by
  obtain ⟨i, hi, hzz⟩ := Option.map_eq_some_iff.1 hinfo
  simp only [Prod.mk.injEq] at hzz
  obtain ⟨hz, hs', hb'⟩ := hzz
  subst hne
  subst hg0
  have hmul : (l.length + ys.length) * bytes ≤ 1000000000 * 1000 := Nat.mul_le_mul hn hb
  refine step_append_lies _ hgd s x t ho base e i z size bytes ht hi hz hs' hb' hzs hsz v l.length (flat enc l) hs (hown.alloc _) ⟨w.heap.size, 0, none⟩ ys.length c (flat enc ys) hx (flat_len henc ys)
    (fun j u hu => by
      have e : (⟨w.heap.size, 0, none⟩ : Addr).add j = ⟨w.heap.size, j, none⟩ := by unfold Addr.add; split <;> simp_all
      rw [e, World.cell?_alloc_new]; simpa using hu) h1 hys (by unfold maxLen; omega) (by omega) (by simp; omega) _ rfl ?_
  intro g cap w' hown' hg hblk _
  have hr : ∀ k, v.ownBlock = some k → base ≤ k := fun k hk => by
    rcases hown.2 with ⟨rfl, _⟩ | ⟨g, cap, cur, rfl, hbg, _⟩
    · simp [Value.ownBlock] at hk
    · simp [Value.ownBlock] at hk; omega
  refine h _ w' ?_ ?_ ?_ ?_
  · unfold Grow
    rw [List.length_append, flat_append]
    exact hown'
  · exact ((Below.refl base w).alloc hbase _).grown hg (by simp; omega) hr
  · exact ⟨hg.os, hg.tape, hg.output, Nat.le_trans (by simp) hg.size, fun k hk hne => (hg.block k (by simp; omega) hne).trans (Below.heap_alloc w _ k hk)⟩
  · rcases hblk with hb2 | hb2
    · left; rw [hb2]; rfl
    · right; rw [hb2]; simp [Value.ownBlock]
end
/-- What an append leaves as it was. -/
theorem OwnS.grown {w w' : World} {b c : Nat} {A : Option Addr} {l : List (List Int)} {o : Option Nat} (h : OwnS w b c A l) (hg : w.grownBy w' o) (ho : ∀ g, o = some g → g < b ∨ c ≤ g) : OwnS w' b c A l := by
  cases o with
  | none => exact h.later ⟨hg.os, hg.tape, hg.output, hg.size, fun k hk => hg.block k hk (by simp)⟩
  | some g =>
    refine h.chg (b' := g) (c' := g + 1) ⟨hg.os, hg.tape, hg.output, hg.size, fun k hk hr => hg.block k hk (fun e => by injection e with e; omega)⟩ ?_
    have := ho g rfl; omega
theorem Grow.block_lt {α : Type} {enc : α → List Value} {w : World} {base : Nat} {e : TypeId} {size : Nat} {v : Value} {l : List α} (h : Grow w base e size enc v l) : ∀ g, v.ownBlock = some g → g < w.heap.size := fun k hk => by
  rcases h.2 with ⟨rfl, _⟩ | ⟨g, cap, cur, rfl, hbg, hg, _⟩
  · simp [Value.ownBlock] at hk
  · simp [Value.ownBlock] at hk
    subst hk
    rcases Nat.lt_or_ge g w.heap.size with x | x
    · exact x
    · rw [Array.getElem?_eq_none x] at hg; cases hg
end Go.Proofs.YtkegbbndmfnolaaGreatDoor

/-
  The reader of choices: values with weights.
-/
namespace Go.Proofs.YtkegbbndmfnolaaGreatDoor
open Go.RowKit
set_option linter.unusedVariables false
set_option linter.unusedSimpArgs false
set_option maxRecDepth 100000

theorem Grow.turn {α : Type} {enc : α → List Value} {w w' : World} {base : Nat} {e : TypeId} {size : Nat} {v : Value} {l : List α} {g0 : Nat} (h : Grow w base e size enc v l) (hg : Turn g0 w w') (hb : g0 < base) : Grow w' base e size enc v l := by
  have hlt := h.block_lt
  refine ⟨h.1, ?_⟩
  rcases h.2 with ⟨h1, h2⟩ | ⟨g, cap, cur, h1, h2, h3, h4⟩
  · exact .inl ⟨h1, h2⟩
  · have e1 : v.ownBlock = some g := by rw [h1]; rfl
    exact .inr ⟨g, cap, cur, h1, h2, (hg.block g (hlt g e1) (by omega)).trans h3, h4⟩
theorem Turn.thenB {g : Nat} {a b c : World} (h : Turn g a b) (k : Below a.heap.size b c) : Turn g a c :=
  ⟨k.os.trans h.os, k.tape.trans h.tape, k.output.trans h.output, Nat.le_trans h.size k.size, fun i hi hr => (k.block i hi).trans (h.block i hi hr)⟩
/-- Two slices of the call's own lie apart. -/
def Apart (a b : Value) : Prop := ∀ g, a.ownBlock = some g → some g ≠ b.ownBlock
theorem Apart.swap {a b : Value} (h : Apart a b) : Apart b a := fun g hg e => h g (e.symm.trans rfl) hg.symm
theorem Apart.grow {a b a' : Value} {m : Nat} (h : Apart a b) (hb : ∀ g, b.ownBlock = some g → g < m) (ha : a'.ownBlock = a.ownBlock ∨ a'.ownBlock = some (m + 1)) : Apart a' b := by
  intro g hg e
  rcases ha with ha | ha
  · exact h g (ha ▸ hg) e
  · rw [ha] at hg
    have := hb g e.symm
    injection hg with hg
    omega
theorem RdL.turn {w w' : World} {b g : Nat} {A : Option Addr} {l : List Int} (h : RdL w b A 1 encInt l) (ht : Turn g w w') (hb : b ≤ w.heap.size) (hne : ∀ q off, A = some ⟨q, off, none⟩ → q ≠ g) : RdL w' b A 1 encInt l := by
  rcases h with h | ⟨q, off, rfl, hg, hc⟩
  · exact .inl h
  · exact .inr ⟨q, off, rfl, hg, fun i hi j v hv => (ht.cell (p := ⟨q, _, none⟩) (Nat.lt_of_lt_of_le hg hb) (hne q off rfl)).trans (hc i hi j v hv)⟩
theorem Grow.lo {α : Type} {enc : α → List Value} {w : World} {base base' : Nat} {e : TypeId} {size : Nat} {v : Value} {l : List α} (h : Grow w base e size enc v l) (hb : base' ≤ base) : Grow w base' e size enc v l := by
  refine ⟨h.1, ?_⟩
  rcases h.2 with h1 | ⟨g, cap, cur, h1, h2, h3⟩
  · exact .inl h1
  · exact .inr ⟨g, cap, cur, h1, Nat.le_trans hb h2, h3⟩
theorem frozen_of_turn {g b : Nat} {w w' : World} (h : Turn g w w') (hb : b < w.heap.size) (hne : b ≠ g) (i : Nat) : w'.frozen? ⟨b, i, none⟩ = w.frozen? ⟨b, i, none⟩ := by
  have := h.block b hb (by omega)
  simp only [World.frozen?, this]
end Go.Proofs.YtkegbbndmfnolaaGreatDoor

/-
  Contracts: words, notes, calls and touches as texts (both sides).
-/
namespace Go.Proofs.YtkegbbndmfnolaaGreatDoor
open Go.RowKit
set_option linter.unusedVariables false
set_option linter.unusedSimpArgs false
set_option maxRecDepth 100000

theorem within_any (n lo hi : Int) (w : World) :
    Calls Tryz.prog 71 #[.int .i64 n, .int .i64 lo, .int .i64 hi] w fun e w' => e = .returned (.bool (B (inB n lo hi))) ∧ w = w' := by
  by_cases h1 : lo ≤ n <;> by_cases h2 : n ≤ hi
  all_goals
    go_enter Tryz.func71, Tryz.ntmps71
    go_wp2
    go_ret
    first | exact ⟨ret_t ⟨h1, h2⟩, rfl⟩ | exact ⟨ret_f (fun x => by have := x.1; have := x.2; omega), rfl⟩
/-! ### A text whose bytes are all of a kind -/
def allB (p : Int → Prop) (s : ByteArray) : Prop := ∀ i : Nat, i < s.size → p (bat s i)
def wordByte (b : Int) : Prop := 97 ≤ b ∧ b ≤ 122
def isWordP (s : ByteArray) : Prop := allB wordByte s ∧ 1 ≤ s.size ∧ s.size ≤ 10
def noteByte (b : Int) : Prop := (97 ≤ b ∧ b ≤ 122) ∨ (48 ≤ b ∧ b ≤ 57) ∨ b = 46 ∨ b = 45
def isNoteP (s : ByteArray) : Prop := allB noteByte s ∧ s.size ≤ 20
def callByte (b : Int) : Prop := b = 112 ∨ b = 98 ∨ b = 115








set_option maxHeartbeats 800000 in
theorem isWord_any (s : ByteArray) (w : World) (hs : s.size ≤ 9223372036854775800) :
    Calls Tryz.prog 156 #[.string s] w fun e w' => e = .returned (.bool (B (isWordP s))) ∧ w = w' := by
  go_enter Tryz.func156, Tryz.ntmps156
  go_wp2
  go_loop [6] (fun i => ∃ k : Nat, k ≤ s.size ∧ i = .int .i64 k ∧ (∀ j : Nat, j < k → wordByte (bat s j))) (fun i => s.size - (intOf i).toNat)
  case atStart => exact ⟨0, by omega, by rfl, by omega⟩
  case round =>
    obtain ⟨k, hk, rfl, hp⟩ := hrel
    have Hp := Lib.hid hp
    clear hp
    by_cases hlt : k < s.size
    · have hb0 := bat_lo s k
      have hb1 := bat_hi s k
      have hc : bat s k < 97 ∨ (97 ≤ bat s k ∧ bat s k ≤ 122) ∨ 122 < bat s k := by omega
      rcases hc with h | ⟨h, h'⟩ | h
      all_goals
        skip
        go_wp2
        first
          | (go_ret
             refine ⟨ret_f (fun h => ?_), rfl⟩
             have := h.1 k hlt
             unfold wordByte at this
             omega)
          | (go_round
             case rel =>
               refine ⟨k + 1, by omega, by go_num, fun j hj => ?_⟩
               rcases Nat.lt_or_eq_of_le (Nat.le_of_lt_succ hj) with h' | rfl
               · exact Hp.out j h'
               · unfold wordByte; omega
             case measure => simp [intOf]; omega)
    · obtain rfl : k = s.size := by omega
      by_cases c1 : 1 ≤ s.size
      · by_cases c2 : s.size ≤ 10
        · go_wp2
          go_ret
          exact ⟨by rw [B_t (show isWordP s from ⟨Hp.out, c1, c2⟩)]; (first | (simp; omega) | (simp; done)), rfl⟩
        · go_wp2
          go_ret
          exact ⟨by rw [B_f (show ¬ isWordP s from fun h => c2 h.2.2)]; (first | (simp; omega) | (simp; done)), rfl⟩
      · go_wp2
        go_ret
        exact ⟨by rw [B_f (show ¬ isWordP s from fun h => c1 h.2.1)]; (first | (simp; omega) | (simp; done)), rfl⟩
set_option maxHeartbeats 800000 in
theorem l4Name_any (s : ByteArray) (w : World) (hs : s.size ≤ 9223372036854775800) :
    Calls Tryz.prog 115 #[.string s] w fun e w' => e = .returned (.bool (B (isWordP s))) ∧ w = w' := by
  go_enter Tryz.func115, Tryz.ntmps115
  go_wp2
  go_loop [3] (fun i => ∃ k : Nat, k ≤ s.size ∧ i = .int .i64 k ∧ (∀ j : Nat, j < k → wordByte (bat s j))) (fun i => s.size - (intOf i).toNat)
  case atStart => exact ⟨0, by omega, by rfl, by omega⟩
  case round =>
    obtain ⟨k, hk, rfl, hp⟩ := hrel
    have Hp := Lib.hid hp
    clear hp
    by_cases hlt : k < s.size
    · have hb0 := bat_lo s k
      have hb1 := bat_hi s k
      have hc : bat s k < 97 ∨ (97 ≤ bat s k ∧ bat s k ≤ 122) ∨ 122 < bat s k := by omega
      rcases hc with h | ⟨h, h'⟩ | h
      all_goals
        skip
        go_wp2
        first
          | (go_ret
             refine ⟨ret_f (fun h => ?_), rfl⟩
             have := h.1 k hlt
             unfold wordByte at this
             omega)
          | (go_round
             case rel =>
               refine ⟨k + 1, by omega, by go_num, fun j hj => ?_⟩
               rcases Nat.lt_or_eq_of_le (Nat.le_of_lt_succ hj) with h' | rfl
               · exact Hp.out j h'
               · unfold wordByte; omega
             case measure => simp [intOf]; omega)
    · obtain rfl : k = s.size := by omega
      by_cases c1 : 1 ≤ s.size
      · by_cases c2 : s.size ≤ 10
        · go_wp2_with (go_at_call 99; refine (l1In_t _ _ _ _ ⟨by omega, by omega⟩).mono ?_; rintro e w' ⟨rfl, rfl⟩)
          go_ret
          exact ⟨ret_t ⟨Hp.out, c1, c2⟩, rfl⟩
        · go_wp2_with (go_at_call 99; refine (l1In_f _ _ _ _ (fun h => by have := h.2; omega)).mono ?_; rintro e w' ⟨rfl, rfl⟩)
          go_ret
          exact ⟨ret_f (fun h => c2 h.2.2), rfl⟩
      · go_wp2_with (go_at_call 99; refine (l1In_f _ _ _ _ (fun h => by have := h.1; omega)).mono ?_; rintro e w' ⟨rfl, rfl⟩)
        go_ret
        exact ⟨ret_f (fun h => c1 h.2.1), rfl⟩
/-! ### calls and touches -/
theorem extract_one (s : ByteArray) (k : Nat) (h : k < s.size) : (s.extract k (k + 1)).toList = [s.data.toList[k]'(by have := size_len s; omega)] := by
  rw [ByteArray.toList_eq, ByteArray.data_extract, Array.toList_extract]
  have h2 : k < s.data.toList.length := h
  rw [List.extract_eq_take_drop, List.drop_eq_getElem_cons h2]
  simp
theorem bat_elem (s : ByteArray) (k : Nat) (h : k < s.data.toList.length) : bat s k = ((s.data.toList[k]).toNat : Int) := by
  unfold bat; rw [Int.toNat_natCast, List.getD_eq_getElem?_getD, List.getElem?_eq_getElem h]; rfl
/-- A text of one letter that is a call. -/
def isCallP (s : ByteArray) : Prop := s.toList = [112] ∨ s.toList = [98] ∨ s.toList = [115]
theorem isCall_ext (s : ByteArray) (k : Nat) (h : k < s.size) : isCallP (s.extract k (k + 1)) ↔ callByte (bat s k) := by
  unfold isCallP callByte
  rw [extract_one s k h, bat_elem s k h]
  generalize s.data.toList[k]'(by have := size_len s; omega) = c
  have h1 : ∀ d : UInt8, ([c] = [d]) ↔ (c.toNat : Int) = (d.toNat : Int) := fun d => by
    constructor
    · intro h; injection h with h; rw [h]
    · intro h; rw [show c = d from UInt8.toNat_inj.1 (by omega)]
  rw [h1, h1, h1]
  rfl

theorem isCall_any (s : ByteArray) (w : World) :
    Calls Tryz.prog 72 #[.string s] w fun e w' => e = .returned (.bool (B (isCallP s))) ∧ w = w' := by
  by_cases h1 : s.toList = [112]
  · have e1 : (s.toList == [112]) = true := by simpa using h1
    have H := Lib.hid h1
    clear h1
    go_enter Tryz.func72, Tryz.ntmps72
    go_wp2
    go_ret
    exact ⟨ret_t (.inl H.out), rfl⟩
  · by_cases h2 : s.toList = [98]
    · have e1 : (s.toList == [112]) = false := by simpa using h1
      have e2 : (s.toList == [98]) = true := by simpa using h2
      have H := Lib.hid h2
      clear h1 h2
      go_enter Tryz.func72, Tryz.ntmps72
      go_wp2
      go_ret
      exact ⟨ret_t (.inr (.inl H.out)), rfl⟩
    · by_cases h3 : s.toList = [115]
      · have e1 : (s.toList == [112]) = false := by simpa using h1
        have e2 : (s.toList == [98]) = false := by simpa using h2
        have e3 : (s.toList == [115]) = true := by simpa using h3
        have H := Lib.hid h3
        clear h1 h2 h3
        go_enter Tryz.func72, Tryz.ntmps72
        go_wp2
        go_ret
        exact ⟨ret_t (.inr (.inr H.out)), rfl⟩
      · have e1 : (s.toList == [112]) = false := by simpa using h1
        have e2 : (s.toList == [98]) = false := by simpa using h2
        have e3 : (s.toList == [115]) = false := by simpa using h3
        have H : Hid (¬ isCallP s) := Lib.hid (fun h => by rcases h with h | h | h; exact h1 h; exact h2 h; exact h3 h)
        clear h1 h2 h3
        go_enter Tryz.func72, Tryz.ntmps72
        go_wp2
        go_ret
        exact ⟨ret_f H.out, rfl⟩
theorem l8Call_any (s : ByteArray) (w : World) :
    Calls Tryz.prog 152 #[.string s] w fun e w' => e = .returned (.bool (B (isCallP s))) ∧ w = w' := by
  by_cases h1 : s.toList = [112]
  · have e1 : (s.toList == [112]) = true := by simpa using h1
    have H := Lib.hid h1
    clear h1
    go_enter Tryz.func152, Tryz.ntmps152
    go_wp2
    go_ret
    exact ⟨ret_t (.inl H.out), rfl⟩
  · by_cases h2 : s.toList = [98]
    · have e1 : (s.toList == [112]) = false := by simpa using h1
      have e2 : (s.toList == [98]) = true := by simpa using h2
      have H := Lib.hid h2
      clear h1 h2
      go_enter Tryz.func152, Tryz.ntmps152
      go_wp2
      go_ret
      exact ⟨ret_t (.inr (.inl H.out)), rfl⟩
    · by_cases h3 : s.toList = [115]
      · have e1 : (s.toList == [112]) = false := by simpa using h1
        have e2 : (s.toList == [98]) = false := by simpa using h2
        have e3 : (s.toList == [115]) = true := by simpa using h3
        have H := Lib.hid h3
        clear h1 h2 h3
        go_enter Tryz.func152, Tryz.ntmps152
        go_wp2
        go_ret
        exact ⟨ret_t (.inr (.inr H.out)), rfl⟩
      · have e1 : (s.toList == [112]) = false := by simpa using h1
        have e2 : (s.toList == [98]) = false := by simpa using h2
        have e3 : (s.toList == [115]) = false := by simpa using h3
        have H : Hid (¬ isCallP s) := Lib.hid (fun h => by rcases h with h | h | h; exact h1 h; exact h2 h; exact h3 h)
        clear h1 h2 h3
        go_enter Tryz.func152, Tryz.ntmps152
        go_wp2
        go_ret
        exact ⟨ret_f H.out, rfl⟩
def areCallsP (s : ByteArray) : Prop := allB callByte s
def touchP (s : ByteArray) : Prop := areCallsP s ∧ 1 ≤ s.size ∧ s.size ≤ 60
theorem areCalls_any (s : ByteArray) (w : World) (hs : s.size ≤ 9223372036854775800) :
    Calls Tryz.prog 150 #[.string s] w fun e w' => e = .returned (.bool (B (areCallsP s))) ∧ w = w' := by
  go_enter Tryz.func150, Tryz.ntmps150
  go_wp2
  go_loop [6] (fun i => ∃ k : Nat, k ≤ s.size ∧ i = .int .i64 k ∧ (∀ j : Nat, j < k → callByte (bat s j))) (fun i => s.size - (intOf i).toNat)
  case atStart => exact ⟨0, by omega, by rfl, by omega⟩
  case round =>
    obtain ⟨k, hk, rfl, hp⟩ := hrel
    have Hp := Lib.hid hp
    clear hp
    by_cases hlt : k < s.size
    · by_cases hc : callByte (bat s k)
      · have e1 : B (isCallP (s.extract k (k + 1))) = true := B_t ((isCall_ext s k hlt).2 hc)
        have Hc := Lib.hid hc
        clear hc
        go_wp2_with (go_at_call 72; refine (isCall_any _ _).mono ?_; rintro e w' ⟨rfl, rfl⟩)
        go_round
        case rel =>
          refine ⟨k + 1, by omega, by go_num, fun j hj => ?_⟩
          rcases Nat.lt_or_eq_of_le (Nat.le_of_lt_succ hj) with h' | rfl
          · exact Hp.out j h'
          · exact Hc.out
        case measure => simp [intOf]; omega
      · have e1 : B (isCallP (s.extract k (k + 1))) = false := B_f (fun h => hc ((isCall_ext s k hlt).1 h))
        have Hc := Lib.hid hc
        clear hc
        go_wp2_with (go_at_call 72; refine (isCall_any _ _).mono ?_; rintro e w' ⟨rfl, rfl⟩)
        go_ret
        exact ⟨ret_f (fun h => Hc.out (h k hlt)), rfl⟩
    · obtain rfl : k = s.size := by omega
      go_wp2
      go_ret
      exact ⟨ret_t Hp.out, rfl⟩
theorem touch_any (s : ByteArray) (w : World) (hs : s.size ≤ 9223372036854775800) :
    Calls Tryz.prog 109 #[.string s] w fun e w' => e = .returned (.bool (B (touchP s))) ∧ w = w' := by
  by_cases c1 : 1 ≤ s.size
  · by_cases c2 : s.size ≤ 60
    · by_cases c3 : areCallsP s
      · have e1 := B_t c3
        have C := Lib.hid c3
        clear c3
        go_enter Tryz.func109, Tryz.ntmps109
        go_wp2_with (go_at_call 150; refine (areCalls_any _ _ hs).mono ?_; rintro e w' ⟨rfl, rfl⟩)
        go_ret
        exact ⟨ret_t ⟨C.out, c1, c2⟩, rfl⟩
      · have e1 := B_f c3
        have C := Lib.hid c3
        clear c3
        go_enter Tryz.func109, Tryz.ntmps109
        go_wp2_with (go_at_call 150; refine (areCalls_any _ _ hs).mono ?_; rintro e w' ⟨rfl, rfl⟩)
        go_ret
        exact ⟨ret_f (fun h => C.out h.1), rfl⟩
    · go_enter Tryz.func109, Tryz.ntmps109
      go_wp2
      go_ret
      exact ⟨ret_f (fun h => c2 h.2.2), rfl⟩
  · go_enter Tryz.func109, Tryz.ntmps109
    go_wp2
    go_ret
    exact ⟨ret_f (fun h => c1 h.2.1), rfl⟩
theorem l9Good_any (s : ByteArray) (w : World) (hs : s.size ≤ 9223372036854775800) :
    Calls Tryz.prog 117 #[.string s] w fun e w' => e = .returned (.bool (B (touchP s))) ∧ w = w' := by
  go_enter Tryz.func117, Tryz.ntmps117
  go_wp2
  go_loop [3] (fun i => ∃ k : Nat, k ≤ s.size ∧ i = .int .i64 k ∧ (∀ j : Nat, j < k → callByte (bat s j))) (fun i => s.size - (intOf i).toNat)
  case atStart => exact ⟨0, by omega, by rfl, by omega⟩
  case round =>
    obtain ⟨k, hk, rfl, hp⟩ := hrel
    have Hp := Lib.hid hp
    clear hp
    by_cases hlt : k < s.size
    · by_cases hc : callByte (bat s k)
      · have e1 : B (isCallP (s.extract k (k + 1))) = true := B_t ((isCall_ext s k hlt).2 hc)
        have Hc := Lib.hid hc
        clear hc
        go_wp2_with (go_at_call 152; refine (l8Call_any _ _).mono ?_; rintro e w' ⟨rfl, rfl⟩)
        go_round
        case rel =>
          refine ⟨k + 1, by omega, by go_num, fun j hj => ?_⟩
          rcases Nat.lt_or_eq_of_le (Nat.le_of_lt_succ hj) with h' | rfl
          · exact Hp.out j h'
          · exact Hc.out
        case measure => simp [intOf]; omega
      · have e1 : B (isCallP (s.extract k (k + 1))) = false := B_f (fun h => hc ((isCall_ext s k hlt).1 h))
        have Hc := Lib.hid hc
        clear hc
        go_wp2_with (go_at_call 152; refine (l8Call_any _ _).mono ?_; rintro e w' ⟨rfl, rfl⟩)
        go_ret
        exact ⟨ret_f (fun h => Hc.out (h.1 k hlt)), rfl⟩
    · obtain rfl : k = s.size := by omega
      by_cases c1 : 1 ≤ s.size
      · by_cases c2 : s.size ≤ 60
        · go_wp2_with (go_at_call 99; refine (l1In_t _ _ _ _ ⟨by omega, by omega⟩).mono ?_; rintro e w' ⟨rfl, rfl⟩)
          go_ret
          exact ⟨ret_t ⟨Hp.out, c1, c2⟩, rfl⟩
        · go_wp2_with (go_at_call 99; refine (l1In_f _ _ _ _ (fun h => by have := h.2; omega)).mono ?_; rintro e w' ⟨rfl, rfl⟩)
          go_ret
          exact ⟨ret_f (fun h => c2 h.2.2), rfl⟩
      · go_wp2_with (go_at_call 99; refine (l1In_f _ _ _ _ (fun h => by have := h.1; omega)).mono ?_; rintro e w' ⟨rfl, rfl⟩)
        go_ret
        exact ⟨ret_f (fun h => c1 h.2.1), rfl⟩
end Go.Proofs.YtkegbbndmfnolaaGreatDoor

/-
  Contracts: all numbers of a list within bounds; a number among the first of a list (both sides).
-/
namespace Go.Proofs.YtkegbbndmfnolaaGreatDoor
open Go.RowKit
set_option linter.unusedVariables false
set_option linter.unusedSimpArgs false
set_option maxRecDepth 100000

def allIn (l : List Int) (lo hi : Int) : Prop := ∀ s ∈ l, inB s lo hi
def hasUpTo (l : List Int) (m : Nat) (n : Int) : Prop := ∃ (j : Nat) (h : j < l.length), j < m ∧ l[j] = n


theorem indexInt_any (l : List Int) (m : Nat) (hm : m ≤ l.length) (A : Option Addr) (c : Nat) (n : Int) (w : World) (h : RdL w w.heap.size A 1 encInt l) (hl : l.length ≤ 4611686018427387904) :
    Calls Tryz.prog 200 #[.slice A m c, .int .i64 n] w fun e w' => (∃ r : Int, e = .returned (.int .i64 r) ∧ (0 ≤ r ↔ hasUpTo l m n)) ∧ w = w' := by
  go_enter Tryz.func200, Tryz.ntmps200
  go_wp2
  go_loop [8] (fun i => ∃ k : Nat, k ≤ m ∧ i = .int .i64 k ∧ ∀ (j : Nat) (hj : j < l.length), j < k → l[j] ≠ n) (fun i => m - (intOf i).toNat)
  case atStart => exact ⟨0, by omega, by rfl, fun j _ h => by omega⟩
  case round =>
    obtain ⟨k, hk, rfl, hp⟩ := hrel
    have Hp := Lib.hid hp
    clear hp
    by_cases hlt : k < m
    · obtain ⟨g, off, hA, hg, hcell⟩ := h.at (k := k) (by omega)
      subst hA
      have r0 : w.cell? ⟨g, off + k, none⟩ = some (.int .i64 (l[k]'(by omega))) := by have := hcell 0 _ rfl; rw [Nat.mul_one] at this; exact this
      obtain ⟨x, hx⟩ : ∃ x, Hid (l[k]'(by omega) = x) := ⟨_, Lib.hid rfl⟩
      rw [hx.out] at r0
      clear hcell
      by_cases hin : x = n
      · rw [hin] at r0 hx
        clear hin
        go_wp2
        go_ret
        exact ⟨⟨_, rfl, ⟨fun _ => ⟨k, by omega, hlt, hx.out⟩, fun _ => by omega⟩⟩, rfl⟩
      · have hin2 : ¬ n = x := fun h => hin h.symm
        go_wp2
        go_round
        case rel =>
          refine ⟨k + 1, by omega, by go_num, fun j hj h1 => ?_⟩
          rcases Nat.lt_or_eq_of_le (Nat.le_of_lt_succ h1) with h' | rfl
          · exact Hp.out j hj h'
          · rw [hx.out]; exact hin
        case measure => simp [intOf]; omega
    · obtain rfl : k = m := by omega
      go_wp2
      go_ret
      exact ⟨⟨_, rfl, ⟨fun h => absurd h (by omega), fun ⟨j, h1, h2, h3⟩ => absurd h3 (Hp.out j h1 h2)⟩⟩, rfl⟩
theorem containsInt_any (l : List Int) (m : Nat) (hm : m ≤ l.length) (A : Option Addr) (c : Nat) (n : Int) (w : World) (h : RdL w w.heap.size A 1 encInt l) (hl : l.length ≤ 4611686018427387904) :
    Calls Tryz.prog 185 #[.slice A m c, .int .i64 n] w fun e w' => e = .returned (.bool (B (hasUpTo l m n))) ∧ w = w' := by
  have H := Lib.hid h
  clear h
  go_enter Tryz.func185, Tryz.ntmps185
  go_wp2_with (go_at_call 200; refine (indexInt_any l m hm A c n _ H.out hl).mono ?_; rintro e w' ⟨⟨r, rfl, hr⟩, rfl⟩; have Hr := Lib.hid hr; clear hr)
  all_goals go_ret
  by_cases hq : hasUpTo l m n
  · exact ⟨by have := Hr.out.2 hq; rw [B_t hq]; first | (simp; done) | (simp; omega), rfl⟩
  · exact ⟨by have : ¬ 0 ≤ r := fun h => hq (Hr.out.1 h); rw [B_f hq]; first | (simp; done) | (simp; omega), rfl⟩
end Go.Proofs.YtkegbbndmfnolaaGreatDoor
