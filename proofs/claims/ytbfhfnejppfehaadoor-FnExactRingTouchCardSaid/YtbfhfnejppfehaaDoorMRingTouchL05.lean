import Derived.Test.YtbfhfnejppfehaaDoorMRingTouchL03
import Derived.Test.YtbfhfnejppfehaaDoorMRingTouchL04
import Derived.Test.YtbfhfnejppfehaaDoorMRingTouchL01
import Derived.Test.YtbfhfnejppfehaaDoorMRingTouchL02
/-
  Contracts: valid methods and calls (both sides).
-/
namespace Go.Proofs.YtbfhfnejppfehaaDoor
open Go.RowKit
set_option linter.unusedVariables false
set_option linter.unusedSimpArgs false
set_option maxRecDepth 100000

/-- A method in memory: the name, the stage, the changes, their address, their room. -/
structure Mth where
  name : ByteArray
  stage : Int
  x : List ByteArray
  A : Option Addr
  c : Nat
def Mth.enc (m : Mth) : List Value := [.string m.name, .int .i64 m.stage, .slice m.A m.x.length m.c]
def changesP (n : Int) (l : List ByteArray) : Prop := (1 ≤ l.length ∧ l.length ≤ 40) ∧ ∀ (i : Nat) (hi : i < l.length), changeP n l[i]
def methP (m : Mth) : Prop := isWordP m.name ∧ changesP m.stage m.x
def callsP (m : Mth) (b s : ByteArray) : Prop := methP m ∧ changeP m.stage b ∧ changeP m.stage s
theorem changesP.stage {n : Int} {l : List ByteArray} (h : changesP n l) : inB n 3 8 := (h.2 0 (by have := h.1.1; omega)).1

set_option maxHeartbeats 1600000 in
theorem areChanges_any (n : Int) (l : List ByteArray) (A : Option Addr) (c : Nat) (w : World) (h : RdL w w.heap.size A 1 encString l) (hl : l.length ≤ 1048576) (hs : ∀ x ∈ l, String_small 1048576 x) :
    Calls Tryd.prog 127 #[.int .i64 n, .slice A l.length c] w fun e w' => e = .returned (.bool (B (changesP n l))) ∧ Below w.heap.size w w' := by
  have Hh := Lib.hid h
  have Hs := Lib.hid hs
  clear h hs
  by_cases h1 : l.length < 1
  · go_enter Tryd.func127, Tryd.ntmps127
    go_wp2
    go_ret
    exact ⟨ret_f (fun h => by have := h.1.1; omega), Below.refl _ _⟩
  · by_cases h2 : 40 < l.length
    · go_enter Tryd.func127, Tryd.ntmps127
      go_wp2
      go_ret
      exact ⟨ret_f (fun h => by have := h.1.2; omega), Below.refl _ _⟩
    · go_enter Tryd.func127, Tryd.ntmps127
      go_wp2
      go_loopw [17] (fun i wr => ∃ k : Nat, k ≤ l.length ∧ i = .int .i64 k ∧ (∀ (j : Nat) (hj : j < l.length), j < k → changeP n l[j]) ∧ Below w.heap.size w wr) (fun i _ => l.length - (intOf i).toNat)
      case atStart => exact ⟨0, by omega, by rfl, fun j _ hj => by omega, Below.refl _ _⟩
      case round =>
        obtain ⟨k, hk, rfl, hq, hbl⟩ := hrel
        have Hq := Lib.hid hq
        have Hbl := Lib.hid hbl
        have hgs := hbl.size
        clear hq hbl
        by_cases hlt : k < l.length
        · obtain ⟨g, off, hA, hg, hcell⟩ := Hh.out.at hlt
          subst hA
          have r0 : wr.cell? ⟨g, off + k, none⟩ = some (.string l[k]) := (Hbl.out.cell (p := ⟨g, off + k, none⟩) hg).trans (by have := hcell 0 _ rfl; rw [Nat.mul_one] at this; exact this)
          have hsm : (l[k].size : Int) ≤ 1048576 := Hs.out _ (List.getElem_mem hlt)
          obtain ⟨x, hx⟩ : ∃ x, Hid (l[k] = x) := ⟨_, Lib.hid rfl⟩
          rw [hx.out] at r0 hsm
          clear hcell
          by_cases hc : changeP n x
          · have e1 := B_t hc
            have Hc := Lib.hid hc
            clear hc
            go_wp2_with (go_at_call 104; refine (goodChange_any n x _ (by omega)).mono ?_; rintro e w' ⟨rfl, hb2⟩)
            go_roundw
            case rel =>
              refine ⟨k + 1, by omega, by go_num, fun j hj h1 => ?_, Hbl.out.trans (hb2.mono hgs)⟩
              rcases Nat.lt_or_eq_of_le (Nat.le_of_lt_succ h1) with h' | rfl
              · exact Hq.out j hj h'
              · rw [hx.out]; exact Hc.out
            case measure => simp [intOf]; omega
          · have e1 := B_f hc
            have Hc := Lib.hid hc
            clear hc
            go_wp2_with (go_at_call 104; refine (goodChange_any n x _ (by omega)).mono ?_; rintro e w' ⟨rfl, hb2⟩)
            go_ret
            exact ⟨ret_f (fun h => Hc.out (by rw [← hx.out]; exact h.2 k hlt)), Hbl.out.trans (hb2.mono hgs)⟩
        · obtain rfl : k = l.length := by omega
          go_wp2
          go_ret
          exact ⟨ret_t ⟨⟨by omega, by omega⟩, fun i hi => Hq.out i hi hi⟩, Hbl.out⟩
theorem goodMethod_any (m : Mth) (w : World) (h : RdL w w.heap.size m.A 1 encString m.x) (hn : m.name.size ≤ 1048576) (hl : m.x.length ≤ 1048576) (hs : ∀ x ∈ m.x, String_small 1048576 x) :
    Calls Tryd.prog 103 #[.agg #[.string m.name, .int .i64 m.stage, .slice m.A m.x.length m.c]] w fun e w' => e = .returned (.bool (B (methP m))) ∧ Below w.heap.size w w' := by
  have hb0 : Hid (Below w.heap.size w (w.alloc (.cells #[.string m.name, .int .i64 m.stage, .slice m.A m.x.length m.c] 31))) := Lib.hid ((Below.refl _ _).alloc (Nat.le_refl _) _)
  have h2 : Hid (RdL (w.alloc (.cells #[.string m.name, .int .i64 m.stage, .slice m.A m.x.length m.c] 31)) (w.alloc (.cells #[.string m.name, .int .i64 m.stage, .slice m.A m.x.length m.c] 31)).heap.size m.A 1 encString m.x) := Lib.hid ((h.below hb0.out (Nat.le_refl _)).more hb0.out.size)
  have Hs := Lib.hid hs
  clear h hs
  by_cases c1 : isWordP m.name
  · have e1 := B_t c1
    have C1 := Lib.hid c1
    clear c1
    by_cases c2 : changesP m.stage m.x
    all_goals
      first | have e2 := B_t c2 | have e2 := B_f c2
      have C2 := Lib.hid c2
      clear c2
      go_enter Tryd.func103, Tryd.ntmps103
      go_wp2_with (first | (go_at_call 93; refine (isWord_any _ _ (by omega)).mono ?_; rintro e w' ⟨rfl, rfl⟩) | (go_at_call 127; refine (areChanges_any _ m.x _ _ _ h2.out hl Hs.out).mono ?_; rintro e w2 ⟨rfl, hb2⟩))
      go_ret
      first
        | exact ⟨ret_t ⟨C1.out, C2.out⟩, hb0.out.trans (hb2.mono hb0.out.size)⟩
        | exact ⟨ret_f (fun h => C2.out h.2), hb0.out.trans (hb2.mono hb0.out.size)⟩
        | exact ⟨by show Ending.returned (Value.bool (B (changesP m.stage m.x))) = Ending.returned (Value.bool (B (methP m))); rw [B_t C2.out, B_t (show methP m from ⟨C1.out, C2.out⟩)], hb0.out.trans (hb2.mono hb0.out.size)⟩
        | exact ⟨by show Ending.returned (Value.bool (B (changesP m.stage m.x))) = Ending.returned (Value.bool (B (methP m))); rw [B_f C2.out, B_f (fun h : methP m => C2.out h.2)], hb0.out.trans (hb2.mono hb0.out.size)⟩
  · have e1 := B_f c1
    have C1 := Lib.hid c1
    clear c1
    go_enter Tryd.func103, Tryd.ntmps103
    go_wp2_with (first | (go_at_call 93; refine (isWord_any _ _ (by omega)).mono ?_; rintro e w' ⟨rfl, rfl⟩))
    go_ret
    exact ⟨ret_f (fun h => C1.out h.1), hb0.out⟩
set_option maxHeartbeats 1600000 in
theorem l4Good_any (m : Mth) (w : World) (h : RdL w w.heap.size m.A 1 encString m.x) (hn : m.name.size ≤ 1048576) (hl : m.x.length ≤ 1048576) (hs : ∀ x ∈ m.x, String_small 1048576 x) :
    Calls Tryd.prog 28 #[.agg #[.string m.name, .int .i64 m.stage, .slice m.A m.x.length m.c]] w fun e w' => e = .returned (.bool (B (methP m))) ∧ Below w.heap.size w w' := by
  have hb0 : Hid (Below w.heap.size w (w.alloc (.cells #[.string m.name, .int .i64 m.stage, .slice m.A m.x.length m.c] 31))) := Lib.hid ((Below.refl _ _).alloc (Nat.le_refl _) _)
  have Hh := Lib.hid h
  have Hs := Lib.hid hs
  clear h hs
  go_enter Tryd.func28, Tryd.ntmps28
  go_wp2
  go_loop [8] (fun i => ∃ k : Nat, k ≤ m.x.length ∧ i = .int .i64 k ∧ (∀ (j : Nat) (hj : j < m.x.length), j < k → changeP m.stage m.x[j])) (fun i => m.x.length - (intOf i).toNat)
  case atStart => exact ⟨0, by omega, by rfl, fun j _ hj => by omega⟩
  case round =>
    obtain ⟨k, hk, rfl, hq⟩ := hrel
    have Hq := Lib.hid hq
    clear hq
    by_cases hlt : k < m.x.length
    · obtain ⟨g, off, hA, hg, hcell⟩ := Hh.out.at hlt
      have r0 : (w.alloc (.cells #[.string m.name, .int .i64 m.stage, .slice m.A m.x.length m.c] 31)).cell? ⟨g, off + k, none⟩ = some (.string m.x[k]) := (hb0.out.cell (p := ⟨g, off + k, none⟩) hg).trans (by have := hcell 0 _ rfl; rw [Nat.mul_one] at this; exact this)
      have hsm : (m.x[k].size : Int) ≤ 1048576 := Hs.out _ (List.getElem_mem hlt)
      rw [hA] at r0 ⊢
      obtain ⟨x, hx⟩ : ∃ x, Hid (m.x[k] = x) := ⟨_, Lib.hid rfl⟩
      rw [hx.out] at r0 hsm
      clear hcell
      by_cases hc : changeP m.stage x
      · have e1 := B_t hc
        have Hc := Lib.hid hc
        clear hc
        go_wp2_with (go_at_call 65; refine (l2Change_any m.stage x _ (by omega)).mono ?_; rintro e w' ⟨rfl, rfl⟩)
        go_round
        case rel =>
          refine ⟨k + 1, by omega, by go_num, fun j hj h1 => ?_⟩
          rcases Nat.lt_or_eq_of_le (Nat.le_of_lt_succ h1) with h' | rfl
          · exact Hq.out j hj h'
          · rw [hx.out]; exact Hc.out
        case measure => simp [intOf]; omega
      · have e1 := B_f hc
        have Hc := Lib.hid hc
        clear hc
        go_wp2_with (go_at_call 65; refine (l2Change_any m.stage x _ (by omega)).mono ?_; rintro e w' ⟨rfl, rfl⟩)
        go_ret
        exact ⟨ret_f (fun h => Hc.out (by rw [← hx.out]; exact h.2.2 k hlt)), by first | exact hb0.out | (rw [← hA]; exact hb0.out)⟩
    · obtain rfl : k = m.x.length := by omega
      by_cases c1 : isWordP m.name
      · have e1 := B_t c1
        by_cases c2 : inB m.stage 3 8
        · have e2 := B_t c2
          by_cases c3 : inB (m.x.length : Int) 1 40
          · have e3 := B_t c3
            have C := Lib.hid (And.intro c1 c3)
            clear c1 c2 c3
            go_wp2_with (first | (go_at_call 66; refine (l4Name_any _ _ (by omega)).mono ?_; rintro e w' ⟨rfl, rfl⟩) | (go_at_call 48; refine (l1In_any _ _ _ _).mono ?_; rintro e w' ⟨rfl, rfl⟩))
            go_ret
            exact ⟨ret_t ⟨C.out.1, ⟨by have := C.out.2.1; omega, by have := C.out.2.2; omega⟩, fun i hi => Hq.out i hi hi⟩, hb0.out⟩
          · have e3 := B_f c3
            have C := Lib.hid c3
            clear c1 c2 c3
            go_wp2_with (first | (go_at_call 66; refine (l4Name_any _ _ (by omega)).mono ?_; rintro e w' ⟨rfl, rfl⟩) | (go_at_call 48; refine (l1In_any _ _ _ _).mono ?_; rintro e w' ⟨rfl, rfl⟩))
            go_ret
            exact ⟨ret_f (fun h => C.out ⟨by have := h.2.1.1; omega, by have := h.2.1.2; omega⟩), hb0.out⟩
        · have e2 := B_f c2
          have C := Lib.hid c2
          clear c1 c2
          go_wp2_with (first | (go_at_call 66; refine (l4Name_any _ _ (by omega)).mono ?_; rintro e w' ⟨rfl, rfl⟩) | (go_at_call 48; refine (l1In_any _ _ _ _).mono ?_; rintro e w' ⟨rfl, rfl⟩))
          go_ret
          exact ⟨ret_f (fun h => C.out h.2.stage), hb0.out⟩
      · have e1 := B_f c1
        have C := Lib.hid c1
        clear c1
        go_wp2_with (first | (go_at_call 66; refine (l4Name_any _ _ (by omega)).mono ?_; rintro e w' ⟨rfl, rfl⟩) | (go_at_call 48; refine (l1In_any _ _ _ _).mono ?_; rintro e w' ⟨rfl, rfl⟩))
        go_ret
        exact ⟨ret_f (fun h => C.out h.1), hb0.out⟩



set_option maxHeartbeats 1600000 in
theorem goodCalls_any (m : Mth) (b s : ByteArray) (w : World) (h : RdL w w.heap.size m.A 1 encString m.x) (hn : m.name.size ≤ 1048576) (hl : m.x.length ≤ 1048576) (hs : ∀ x ∈ m.x, String_small 1048576 x) (hb : b.size ≤ 1048576) (hss : s.size ≤ 1048576) :
    Calls Tryd.prog 74 #[.agg #[.string m.name, .int .i64 m.stage, .slice m.A m.x.length m.c], .agg #[.string b, .string s]] w fun e w' => e = .returned (.bool (B (callsP m b s))) ∧ Below w.heap.size w w' := by
  have hb0 : Hid (Below w.heap.size w ((w.alloc (.cells #[.string m.name, .int .i64 m.stage, .slice m.A m.x.length m.c] 31)).alloc (.cells #[.string b, .string s] 33))) := Lib.hid (((Below.refl _ _).alloc (Nat.le_refl _) _).alloc (by simp) _)
  have h2 : Hid (RdL ((w.alloc (.cells #[.string m.name, .int .i64 m.stage, .slice m.A m.x.length m.c] 31)).alloc (.cells #[.string b, .string s] 33)) (((w.alloc (.cells #[.string m.name, .int .i64 m.stage, .slice m.A m.x.length m.c] 31)).alloc (.cells #[.string b, .string s] 33))).heap.size m.A 1 encString m.x) := Lib.hid ((h.below hb0.out (Nat.le_refl _)).more hb0.out.size)
  have Hs := Lib.hid hs
  clear h hs
  by_cases c1 : methP m
  · have e1 := B_t c1
    have C1 := Lib.hid c1
    clear c1
    by_cases c2 : changeP m.stage b
    · have e2 := B_t c2
      have C2 := Lib.hid c2
      clear c2
      by_cases c3 : changeP m.stage s
      all_goals
        first | have e3 := B_t c3 | have e3 := B_f c3
        have C3 := Lib.hid c3
        clear c3
        go_enter Tryd.func74, Tryd.ntmps74
        go_wp2_with (first | (go_at_call 103; refine (goodMethod_any m _ h2.out hn hl Hs.out).mono ?_; rintro e w1 ⟨rfl, hb1⟩; have hw1 := hb0.out.trans (hb1.mono hb0.out.size); have q1 := (hb1.cell (p := ⟨w.heap.size, 1, none⟩) (by simp; omega)).trans (show _ = some (.int .i64 m.stage) from by simp [go_sem]); have q2 := (hb1.cell (p := ⟨w.heap.size + 1, 0, none⟩) (by simp)).trans (show _ = some (.string b) from by simp [go_sem]); have q3 := (hb1.cell (p := ⟨w.heap.size + 1, 1, none⟩) (by simp)).trans (show _ = some (.string s) from by simp [go_sem]); have hws : w.heap.size + 2 ≤ w1.heap.size := by have := hb1.size; simpa using this) | (go_at_call 104; refine (goodChange_any _ _ _ (by omega)).mono ?_; rintro e w2 ⟨rfl, hb2⟩; have q1 := (hb2.cell (p := ⟨w.heap.size, 1, none⟩) (show w.heap.size < _ by omega)).trans q1; have q3 := (hb2.cell (p := ⟨w.heap.size + 1, 1, none⟩) (show w.heap.size + 1 < _ by omega)).trans q3; have hw1 := hw1.trans (hb2.mono hw1.size); have hws := Nat.le_trans hws hb2.size))
        go_ret
        first
          | exact ⟨ret_t ⟨C1.out, C2.out, C3.out⟩, hw1⟩
          | exact ⟨ret_f (fun h => C3.out h.2.2), hw1⟩
          | exact ⟨by show Ending.returned (Value.bool (B (changeP m.stage s))) = Ending.returned (Value.bool (B (callsP m b s))); rw [B_t C3.out, B_t (show callsP m b s from ⟨C1.out, C2.out, C3.out⟩)], hw1⟩
          | exact ⟨by show Ending.returned (Value.bool (B (changeP m.stage s))) = Ending.returned (Value.bool (B (callsP m b s))); rw [B_f C3.out, B_f (fun h : callsP m b s => C3.out h.2.2)], hw1⟩
    · have e2 := B_f c2
      have C2 := Lib.hid c2
      clear c2
      go_enter Tryd.func74, Tryd.ntmps74
      go_wp2_with (first | (go_at_call 103; refine (goodMethod_any m _ h2.out hn hl Hs.out).mono ?_; rintro e w1 ⟨rfl, hb1⟩; have hw1 := hb0.out.trans (hb1.mono hb0.out.size); have q1 := (hb1.cell (p := ⟨w.heap.size, 1, none⟩) (by simp; omega)).trans (show _ = some (.int .i64 m.stage) from by simp [go_sem]); have q2 := (hb1.cell (p := ⟨w.heap.size + 1, 0, none⟩) (by simp)).trans (show _ = some (.string b) from by simp [go_sem]); have q3 := (hb1.cell (p := ⟨w.heap.size + 1, 1, none⟩) (by simp)).trans (show _ = some (.string s) from by simp [go_sem]); have hws : w.heap.size + 2 ≤ w1.heap.size := by have := hb1.size; simpa using this) | (go_at_call 104; refine (goodChange_any _ _ _ (by omega)).mono ?_; rintro e w2 ⟨rfl, hb2⟩; have q1 := (hb2.cell (p := ⟨w.heap.size, 1, none⟩) (show w.heap.size < _ by omega)).trans q1; have q3 := (hb2.cell (p := ⟨w.heap.size + 1, 1, none⟩) (show w.heap.size + 1 < _ by omega)).trans q3; have hw1 := hw1.trans (hb2.mono hw1.size); have hws := Nat.le_trans hws hb2.size))
      go_ret
      exact ⟨ret_f (fun h => C2.out h.2.1), hw1⟩
  · have e1 := B_f c1
    have C1 := Lib.hid c1
    clear c1
    go_enter Tryd.func74, Tryd.ntmps74
    go_wp2_with (first | (go_at_call 103; refine (goodMethod_any m _ h2.out hn hl Hs.out).mono ?_; rintro e w1 ⟨rfl, hb1⟩; have hw1 := hb0.out.trans (hb1.mono hb0.out.size); have q1 := (hb1.cell (p := ⟨w.heap.size, 1, none⟩) (by simp; omega)).trans (show _ = some (.int .i64 m.stage) from by simp [go_sem]); have q2 := (hb1.cell (p := ⟨w.heap.size + 1, 0, none⟩) (by simp)).trans (show _ = some (.string b) from by simp [go_sem]); have q3 := (hb1.cell (p := ⟨w.heap.size + 1, 1, none⟩) (by simp)).trans (show _ = some (.string s) from by simp [go_sem]); have hws : w.heap.size + 2 ≤ w1.heap.size := by have := hb1.size; simpa using this) | (go_at_call 104; refine (goodChange_any _ _ _ (by omega)).mono ?_; rintro e w2 ⟨rfl, hb2⟩; have q1 := (hb2.cell (p := ⟨w.heap.size, 1, none⟩) (show w.heap.size < _ by omega)).trans q1; have q3 := (hb2.cell (p := ⟨w.heap.size + 1, 1, none⟩) (show w.heap.size + 1 < _ by omega)).trans q3; have hw1 := hw1.trans (hb2.mono hw1.size); have hws := Nat.le_trans hws hb2.size))
    go_ret
    exact ⟨ret_f (fun h => C1.out h.1), hw1⟩
set_option maxHeartbeats 1600000 in
theorem l8Good_any (m : Mth) (b s : ByteArray) (w : World) (h : RdL w w.heap.size m.A 1 encString m.x) (hn : m.name.size ≤ 1048576) (hl : m.x.length ≤ 1048576) (hs : ∀ x ∈ m.x, String_small 1048576 x) (hb : b.size ≤ 1048576) (hss : s.size ≤ 1048576) :
    Calls Tryd.prog 67 #[.agg #[.string m.name, .int .i64 m.stage, .slice m.A m.x.length m.c], .agg #[.string b, .string s]] w fun e w' => e = .returned (.bool (B (callsP m b s))) ∧ Below w.heap.size w w' := by
  have hb0 : Hid (Below w.heap.size w ((w.alloc (.cells #[.string m.name, .int .i64 m.stage, .slice m.A m.x.length m.c] 31)).alloc (.cells #[.string b, .string s] 33))) := Lib.hid (((Below.refl _ _).alloc (Nat.le_refl _) _).alloc (by simp) _)
  have h2 : Hid (RdL ((w.alloc (.cells #[.string m.name, .int .i64 m.stage, .slice m.A m.x.length m.c] 31)).alloc (.cells #[.string b, .string s] 33)) (((w.alloc (.cells #[.string m.name, .int .i64 m.stage, .slice m.A m.x.length m.c] 31)).alloc (.cells #[.string b, .string s] 33))).heap.size m.A 1 encString m.x) := Lib.hid ((h.below hb0.out (Nat.le_refl _)).more hb0.out.size)
  have Hs := Lib.hid hs
  clear h hs
  by_cases c1 : methP m
  · have e1 := B_t c1
    have C1 := Lib.hid c1
    clear c1
    by_cases c2 : changeP m.stage b
    · have e2 := B_t c2
      have C2 := Lib.hid c2
      clear c2
      by_cases c3 : changeP m.stage s
      all_goals
        first | have e3 := B_t c3 | have e3 := B_f c3
        have C3 := Lib.hid c3
        clear c3
        go_enter Tryd.func67, Tryd.ntmps67
        go_wp2_with (first | (go_at_call 28; refine (l4Good_any m _ h2.out hn hl Hs.out).mono ?_; rintro e w1 ⟨rfl, hb1⟩; have hw1 := hb0.out.trans (hb1.mono hb0.out.size); have q1 := (hb1.cell (p := ⟨w.heap.size, 1, none⟩) (by simp; omega)).trans (show _ = some (.int .i64 m.stage) from by simp [go_sem]); have q2 := (hb1.cell (p := ⟨w.heap.size + 1, 0, none⟩) (by simp)).trans (show _ = some (.string b) from by simp [go_sem]); have q3 := (hb1.cell (p := ⟨w.heap.size + 1, 1, none⟩) (by simp)).trans (show _ = some (.string s) from by simp [go_sem]); have hws : w.heap.size + 2 ≤ w1.heap.size := by have := hb1.size; simpa using this) | (go_at_call 65; refine (l2Change_any _ _ _ (by omega)).mono ?_; rintro e w' ⟨rfl, rfl⟩))
        go_ret
        first
          | exact ⟨ret_t ⟨C1.out, C2.out, C3.out⟩, hw1⟩
          | exact ⟨ret_f (fun h => C3.out h.2.2), hw1⟩
          | exact ⟨by show Ending.returned (Value.bool (B (changeP m.stage s))) = Ending.returned (Value.bool (B (callsP m b s))); rw [B_t C3.out, B_t (show callsP m b s from ⟨C1.out, C2.out, C3.out⟩)], hw1⟩
          | exact ⟨by show Ending.returned (Value.bool (B (changeP m.stage s))) = Ending.returned (Value.bool (B (callsP m b s))); rw [B_f C3.out, B_f (fun h : callsP m b s => C3.out h.2.2)], hw1⟩
    · have e2 := B_f c2
      have C2 := Lib.hid c2
      clear c2
      go_enter Tryd.func67, Tryd.ntmps67
      go_wp2_with (first | (go_at_call 28; refine (l4Good_any m _ h2.out hn hl Hs.out).mono ?_; rintro e w1 ⟨rfl, hb1⟩; have hw1 := hb0.out.trans (hb1.mono hb0.out.size); have q1 := (hb1.cell (p := ⟨w.heap.size, 1, none⟩) (by simp; omega)).trans (show _ = some (.int .i64 m.stage) from by simp [go_sem]); have q2 := (hb1.cell (p := ⟨w.heap.size + 1, 0, none⟩) (by simp)).trans (show _ = some (.string b) from by simp [go_sem]); have q3 := (hb1.cell (p := ⟨w.heap.size + 1, 1, none⟩) (by simp)).trans (show _ = some (.string s) from by simp [go_sem]); have hws : w.heap.size + 2 ≤ w1.heap.size := by have := hb1.size; simpa using this) | (go_at_call 65; refine (l2Change_any _ _ _ (by omega)).mono ?_; rintro e w' ⟨rfl, rfl⟩))
      go_ret
      exact ⟨ret_f (fun h => C2.out h.2.1), hw1⟩
  · have e1 := B_f c1
    have C1 := Lib.hid c1
    clear c1
    go_enter Tryd.func67, Tryd.ntmps67
    go_wp2_with (first | (go_at_call 28; refine (l4Good_any m _ h2.out hn hl Hs.out).mono ?_; rintro e w1 ⟨rfl, hb1⟩; have hw1 := hb0.out.trans (hb1.mono hb0.out.size); have q1 := (hb1.cell (p := ⟨w.heap.size, 1, none⟩) (by simp; omega)).trans (show _ = some (.int .i64 m.stage) from by simp [go_sem]); have q2 := (hb1.cell (p := ⟨w.heap.size + 1, 0, none⟩) (by simp)).trans (show _ = some (.string b) from by simp [go_sem]); have q3 := (hb1.cell (p := ⟨w.heap.size + 1, 1, none⟩) (by simp)).trans (show _ = some (.string s) from by simp [go_sem]); have hws : w.heap.size + 2 ≤ w1.heap.size := by have := hb1.size; simpa using this) | (go_at_call 65; refine (l2Change_any _ _ _ (by omega)).mono ?_; rintro e w' ⟨rfl, rfl⟩))
    go_ret
    exact ⟨ret_f (fun h => C1.out h.1), hw1⟩
theorem sGoodCalls_any (m : Mth) (b s : ByteArray) (w : World) (h : RdL w w.heap.size m.A 1 encString m.x) (hn : m.name.size ≤ 1048576) (hl : m.x.length ≤ 1048576) (hs : ∀ x ∈ m.x, String_small 1048576 x) (hb : b.size ≤ 1048576) (hss : s.size ≤ 1048576) :
    Calls Tryd.prog 29 #[.agg #[.string m.name, .int .i64 m.stage, .slice m.A m.x.length m.c], .agg #[.string b, .string s]] w fun e w' => e = .returned (.bool (B (callsP m b s))) ∧ Below w.heap.size w w' := by
  have hb0 : Hid (Below w.heap.size w ((w.alloc (.cells #[.string m.name, .int .i64 m.stage, .slice m.A m.x.length m.c] 31)).alloc (.cells #[.string b, .string s] 33))) := Lib.hid (((Below.refl _ _).alloc (Nat.le_refl _) _).alloc (by simp) _)
  have h2 : Hid (RdL ((w.alloc (.cells #[.string m.name, .int .i64 m.stage, .slice m.A m.x.length m.c] 31)).alloc (.cells #[.string b, .string s] 33)) (((w.alloc (.cells #[.string m.name, .int .i64 m.stage, .slice m.A m.x.length m.c] 31)).alloc (.cells #[.string b, .string s] 33))).heap.size m.A 1 encString m.x) := Lib.hid ((h.below hb0.out (Nat.le_refl _)).more hb0.out.size)
  have Hs := Lib.hid hs
  clear h hs
  go_enter Tryd.func29, Tryd.ntmps29
  go_wp2_with (go_at_call 67; refine (l8Good_any m b s _ h2.out hn hl Hs.out hb hss).mono ?_; rintro e w1 ⟨rfl, hb1⟩)
  go_ret
  exact ⟨rfl, hb0.out.trans (hb1.mono hb0.out.size)⟩
end Go.Proofs.YtbfhfnejppfehaaDoor

/-
  Words of our own that know no program: a whole list appended; an own list of integers written.
-/
namespace Go.Proofs.YtbfhfnejppfehaaDoor
open Go.RowKit
set_option linter.unusedVariables false
set_option linter.unusedSimpArgs false

theorem flat_inv {α : Type} {enc : α → List Value} {size : Nat} (henc : ∀ x, (enc x).length = size) : ∀ (l : List α) (j : Nat) (u : Value), (flat enc l)[j]? = some u → ∃ (i : Nat) (hi : i < l.length) (k : Nat), j = i * size + k ∧ (enc l[i])[k]? = some u
  | [], j, u, h => by simp [flat] at h
  | x :: l, j, u, h => by
    simp only [flat] at h
    by_cases hj : j < (enc x).length
    · rw [List.getElem?_append_left hj] at h
      exact ⟨0, by simp, j, by simp, by simpa using h⟩
    · rw [List.getElem?_append_right (by omega)] at h
      obtain ⟨i, hi, k, e, hk⟩ := flat_inv henc l _ u h
      rw [henc] at e hj
      exact ⟨i + 1, by simpa using hi, k, by rw [Nat.succ_mul]; omega, by simpa using hk⟩
section
variable {P : Program} {ops : Array Oper} {rest : List Oper} {o : Oper} {a : Act} {Q : Exit → Act → World → Prop} {w : World}
/-- 'l = append(l, ys...)': ys reads as a list that is not empty. -/
theorem wpList_pushAll {α : Type} (hgd : o.guard = none) (s x : Operand) (t : TypeId) (ho : o.op = .call { callee := .builtin .append, args := #[s, x], argTypes := #[t, t] })
    (base : Nat) (e : TypeId) (z : Value) (size bytes : Nat) (enc : α → List Value)
    (ht : P.underlying t = some (.slice e)) (hinfo : (P.info? e).map (fun i => (i.zero, i.size, i.bytes)) = some (some z, size, bytes)) (hzs : z.cells.size = size) (hsz : 0 < size)
    (v : Value) (l ys : List α) (A : Option Addr) (c b : Nat) (hs : a.eval s = v) (hx : a.eval x = .slice A ys.length c) (hr : RdL w b A size enc ys) (hne : 0 < ys.length)
    (hown : Grow w base e size enc v l) (henc : ∀ x, (enc x).length = size) (h1 : ∀ x, ∀ u ∈ enc x, u.oneCell' = true)
    (hn : l.length + ys.length ≤ 1000000000) (hb : bytes ≤ 1000) (hbase : base ≤ w.heap.size)
    (h : ∀ v' w', Grow w' base e size enc v' (l ++ ys) → Below base w w' → w.grownBy w' v.ownBlock → wpList P ops Q rest (a.put o.dst v') w') :
    wpList P ops Q (o :: rest) a w := by
  obtain ⟨i, hi, hzz⟩ := Option.map_eq_some_iff.1 hinfo
  simp only [Prod.mk.injEq] at hzz
  obtain ⟨hz, hs', hb'⟩ := hzz
  have hmul : (l.length + ys.length) * bytes ≤ 1000000000 * 1000 := Nat.mul_le_mul hn hb
  obtain ⟨g, off, hA, _, _⟩ := hr.at (k := 0) hne
  subst hA
  refine wpList_append_own (P := P) _ hgd s x t ho base e i z size bytes ht hi hz hs' hb' hzs hsz v l.length (flat enc l) hs hown ⟨g, off, none⟩ ys.length c (flat enc ys) hx (flat_len henc ys)
    (fun j u hu => by
      obtain ⟨i, hi, k, rfl, hk⟩ := flat_inv henc ys j u hu
      obtain ⟨g', off', hA', _, hcell⟩ := hr.at hi
      simp only [Option.some.injEq, Addr.mk.injEq, and_true] at hA'
      obtain ⟨rfl, rfl⟩ := hA'
      have e : (⟨g, off, none⟩ : Addr).add (i * size + k) = ⟨g, off + (i * size + k), none⟩ := by unfold Addr.add; split <;> simp_all
      rw [e]; exact hcell k u hk) (fun u hu => by
      obtain ⟨j, hj⟩ := List.getElem?_of_mem hu
      obtain ⟨i, hi, k, _, hk⟩ := flat_inv henc ys j u hj
      exact h1 _ u (List.mem_of_getElem? hk)) (by unfold maxLen; omega) (by omega) hbase ?_
  intro v' w' hown' hg _
  have hr : ∀ k, v.ownBlock = some k → base ≤ k := fun k hk => by
    rcases hown.2 with ⟨rfl, _⟩ | ⟨g, cap, cur, rfl, hbg, _⟩
    · simp [Value.ownBlock] at hk
    · simp [Value.ownBlock] at hk; omega
  refine h v' w' ?_ ?_ hg
  · unfold Grow
    rw [List.length_append, flat_append]
    exact hown'
  · exact (Below.refl base w).grown hg hbase hr
end
theorem Grow.capN {α : Type} {w : World} {base : Nat} {e : TypeId} {size : Nat} {enc : α → List Value} {l : List α} {A : Option Addr} {n c : Nat} (h : Grow w base e size enc (.slice A n c) l) : n ≤ c := by
  rcases h.2 with ⟨h1, h2⟩ | ⟨g, cap, cur, h1, h2, h3, h4, h5, _⟩
  · injection h1 with _ e1 e2; omega
  · injection h1 with _ e1 e2; omega
section
variable {w : World} {b c g : Nat} {l : List Int}
theorem OwnL.some_of {A : Option Addr} (h : OwnL w b c A 1 encInt l) (hl : 0 < l.length) : ∃ g, A = some ⟨g, 0, none⟩ ∧ b ≤ g ∧ g < c ∧ g < w.heap.size := by
  obtain ⟨g, f, hA, h1, h2, h3⟩ := h.cells hl
  exact ⟨g, hA, h1, h2, h3.lt⟩
theorem OwnL.cellInt (h : OwnL w b c (some ⟨g, 0, none⟩) 1 encInt l) (k : Nat) (hk : k < l.length) : w.cell? ⟨g, k, none⟩ = some (.int .i64 l[k]) ∧ w.frozen? ⟨g, k, none⟩ = false := by
  rcases h with h | ⟨g', f, hA, h1, h2, h3, h4⟩
  · subst h; simp at hk
  · simp only [Option.some.injEq, Addr.mk.injEq, and_true] at hA
    subst hA
    have := h4 k hk 0 _ rfl
    have hc := h3.cell (i := k) (by omega)
    rw [Nat.mul_one, Nat.add_zero] at this
    rw [this] at hc
    exact ⟨hc, h3.free (by omega)⟩
theorem OwnL.setInt (h : OwnL w b c (some ⟨g, 0, none⟩) 1 encInt l) (k : Nat) (hk : k < l.length) (v : Int) : OwnL (w.setCell ⟨g, k, none⟩ (.int .i64 v)) b c (some ⟨g, 0, none⟩) 1 encInt (l.set k v) := by
  rcases h with h | ⟨g', f, hA, h1, h2, h3, h4⟩
  · subst h; simp at hk
  · simp only [Option.some.injEq, Addr.mk.injEq, and_true] at hA
    subst hA
    refine .inr ⟨g, _, rfl, h1, h2, by rw [List.length_set]; exact h3.set (i := k) (by omega) _, fun i hi j u hu => ?_⟩
    have hj : j = 0 := by have := (List.getElem?_eq_some_iff.1 hu).1; simp [encInt] at this; exact this
    subst hj
    by_cases e : i = k
    · subst e
      rw [List.getElem_set_self] at hu
      rw [Nat.mul_one, Nat.add_zero, upd_same]
      simpa [encInt] using hu
    · rw [List.getElem_set_ne (by omega)] at hu
      rw [Nat.mul_one, Nat.add_zero, upd_other _ _ _ _ (by omega)]
      have := h4 i (by simpa using hi) 0 u hu
      rw [Nat.mul_one, Nat.add_zero] at this
      exact this
end
end Go.Proofs.YtbfhfnejppfehaaDoor
