import Derived.Test.YtkegbbndmfnolaaGreatDoorMHeardL06
import Derived.Deep.RegionHeld3
import Derived.Lib.SliceRun
import Derived.Test.YtkegbbndmfnolaaGreatDoorRows
import Derived.Test.YtkegbbndmfnolaaGreatDoorMHeardL01
import Derived.StillTailTactics
import Derived.Deep.Slices
/-
  Contracts: valid methods and calls (both sides).
-/
namespace Go.Proofs.YtkegbbndmfnolaaGreatDoor
open Go.RowKit
set_option linter.unusedVariables false
set_option linter.unusedSimpArgs false
set_option maxRecDepth 100000

/-- A method in memory: the name, the stage, the changes, their address, their room. -/
structure Mth where
  name : ByteArray
  stage : Int
  x : List ByteArray
  A : Option Addr
  c : Nat
def Mth.enc (m : Mth) : List Value := [.string m.name, .int .i64 m.stage, .slice m.A m.x.length m.c]
def changesP (n : Int) (l : List ByteArray) : Prop := (1 ≤ l.length ∧ l.length ≤ 40) ∧ ∀ (i : Nat) (hi : i < l.length), changeP n l[i]
def methP (m : Mth) : Prop := isWordP m.name ∧ changesP m.stage m.x
def callsP (m : Mth) (b s : ByteArray) : Prop := methP m ∧ changeP m.stage b ∧ changeP m.stage s
theorem changesP.stage {n : Int} {l : List ByteArray} (h : changesP n l) : inB n 3 8 := (h.2 0 (by have := h.1.1; omega)).1

set_option maxHeartbeats 1600000 in
theorem areChanges_any (n : Int) (l : List ByteArray) (A : Option Addr) (c : Nat) (w : World) (h : RdL w w.heap.size A 1 encString l) (hl : l.length ≤ 1048576) (hs : ∀ x ∈ l, String_small 1048576 x) :
    Calls Tryz.prog 157 #[.int .i64 n, .slice A l.length c] w fun e w' => e = .returned (.bool (B (changesP n l))) ∧ Below w.heap.size w w' := by
  have Hh := Lib.hid h
  have Hs := Lib.hid hs
  clear h hs
  by_cases h1 : l.length < 1
  · go_enter Tryz.func157, Tryz.ntmps157
    go_wp2
    go_ret
    exact ⟨ret_f (fun h => by have := h.1.1; omega), Below.refl _ _⟩
  · by_cases h2 : 40 < l.length
    · go_enter Tryz.func157, Tryz.ntmps157
      go_wp2
      go_ret
      exact ⟨ret_f (fun h => by have := h.1.2; omega), Below.refl _ _⟩
    · go_enter Tryz.func157, Tryz.ntmps157
      go_wp2
      go_loopw [17] (fun i wr => ∃ k : Nat, k ≤ l.length ∧ i = .int .i64 k ∧ (∀ (j : Nat) (hj : j < l.length), j < k → changeP n l[j]) ∧ Below w.heap.size w wr) (fun i _ => l.length - (intOf i).toNat)
      case atStart => exact ⟨0, by omega, by rfl, fun j _ hj => by omega, Below.refl _ _⟩
      case round =>
        obtain ⟨k, hk, rfl, hq, hbl⟩ := hrel
        have Hq := Lib.hid hq
        have Hbl := Lib.hid hbl
        have hgs := hbl.size
        clear hq hbl
        by_cases hlt : k < l.length
        · obtain ⟨g, off, hA, hg, hcell⟩ := Hh.out.at hlt
          subst hA
          have r0 : wr.cell? ⟨g, off + k, none⟩ = some (.string l[k]) := (Hbl.out.cell (p := ⟨g, off + k, none⟩) hg).trans (by have := hcell 0 _ rfl; rw [Nat.mul_one] at this; exact this)
          have hsm : (l[k].size : Int) ≤ 1048576 := Hs.out _ (List.getElem_mem hlt)
          obtain ⟨x, hx⟩ : ∃ x, Hid (l[k] = x) := ⟨_, Lib.hid rfl⟩
          rw [hx.out] at r0 hsm
          clear hcell
          by_cases hc : changeP n x
          · have e1 := B_t hc
            have Hc := Lib.hid hc
            clear hc
            go_wp2_with (go_at_call 127; refine (goodChange_any n x _ (by omega)).mono ?_; rintro e w' ⟨rfl, hb2⟩)
            go_roundw
            case rel =>
              refine ⟨k + 1, by omega, by go_num, fun j hj h1 => ?_, Hbl.out.trans (hb2.mono hgs)⟩
              rcases Nat.lt_or_eq_of_le (Nat.le_of_lt_succ h1) with h' | rfl
              · exact Hq.out j hj h'
              · rw [hx.out]; exact Hc.out
            case measure => simp [intOf]; omega
          · have e1 := B_f hc
            have Hc := Lib.hid hc
            clear hc
            go_wp2_with (go_at_call 127; refine (goodChange_any n x _ (by omega)).mono ?_; rintro e w' ⟨rfl, hb2⟩)
            go_ret
            exact ⟨ret_f (fun h => Hc.out (by rw [← hx.out]; exact h.2 k hlt)), Hbl.out.trans (hb2.mono hgs)⟩
        · obtain rfl : k = l.length := by omega
          go_wp2
          go_ret
          exact ⟨ret_t ⟨⟨by omega, by omega⟩, fun i hi => Hq.out i hi hi⟩, Hbl.out⟩
theorem goodMethod_any (m : Mth) (w : World) (h : RdL w w.heap.size m.A 1 encString m.x) (hn : m.name.size ≤ 1048576) (hl : m.x.length ≤ 1048576) (hs : ∀ x ∈ m.x, String_small 1048576 x) :
    Calls Tryz.prog 126 #[.agg #[.string m.name, .int .i64 m.stage, .slice m.A m.x.length m.c]] w fun e w' => e = .returned (.bool (B (methP m))) ∧ Below w.heap.size w w' := by
  have hb0 : Hid (Below w.heap.size w (w.alloc (.cells #[.string m.name, .int .i64 m.stage, .slice m.A m.x.length m.c] 26))) := Lib.hid ((Below.refl _ _).alloc (Nat.le_refl _) _)
  have h2 : Hid (RdL (w.alloc (.cells #[.string m.name, .int .i64 m.stage, .slice m.A m.x.length m.c] 26)) (w.alloc (.cells #[.string m.name, .int .i64 m.stage, .slice m.A m.x.length m.c] 26)).heap.size m.A 1 encString m.x) := Lib.hid ((h.below hb0.out (Nat.le_refl _)).more hb0.out.size)
  have Hs := Lib.hid hs
  clear h hs
  by_cases c1 : isWordP m.name
  · have e1 := B_t c1
    have C1 := Lib.hid c1
    clear c1
    by_cases c2 : changesP m.stage m.x
    all_goals
      first | have e2 := B_t c2 | have e2 := B_f c2
      have C2 := Lib.hid c2
      clear c2
      go_enter Tryz.func126, Tryz.ntmps126
      go_wp2_with (first | (go_at_call 156; refine (isWord_any _ _ (by omega)).mono ?_; rintro e w' ⟨rfl, rfl⟩) | (go_at_call 157; refine (areChanges_any _ m.x _ _ _ h2.out hl Hs.out).mono ?_; rintro e w2 ⟨rfl, hb2⟩))
      go_ret
      first
        | exact ⟨ret_t ⟨C1.out, C2.out⟩, hb0.out.trans (hb2.mono hb0.out.size)⟩
        | exact ⟨ret_f (fun h => C2.out h.2), hb0.out.trans (hb2.mono hb0.out.size)⟩
        | exact ⟨by show Ending.returned (Value.bool (B (changesP m.stage m.x))) = Ending.returned (Value.bool (B (methP m))); rw [B_t C2.out, B_t (show methP m from ⟨C1.out, C2.out⟩)], hb0.out.trans (hb2.mono hb0.out.size)⟩
        | exact ⟨by show Ending.returned (Value.bool (B (changesP m.stage m.x))) = Ending.returned (Value.bool (B (methP m))); rw [B_f C2.out, B_f (fun h : methP m => C2.out h.2)], hb0.out.trans (hb2.mono hb0.out.size)⟩
  · have e1 := B_f c1
    have C1 := Lib.hid c1
    clear c1
    go_enter Tryz.func126, Tryz.ntmps126
    go_wp2_with (first | (go_at_call 156; refine (isWord_any _ _ (by omega)).mono ?_; rintro e w' ⟨rfl, rfl⟩))
    go_ret
    exact ⟨ret_f (fun h => C1.out h.1), hb0.out⟩
set_option maxHeartbeats 1600000 in
theorem l4Good_any (m : Mth) (w : World) (h : RdL w w.heap.size m.A 1 encString m.x) (hn : m.name.size ≤ 1048576) (hl : m.x.length ≤ 1048576) (hs : ∀ x ∈ m.x, String_small 1048576 x) :
    Calls Tryz.prog 60 #[.agg #[.string m.name, .int .i64 m.stage, .slice m.A m.x.length m.c]] w fun e w' => e = .returned (.bool (B (methP m))) ∧ Below w.heap.size w w' := by
  have hb0 : Hid (Below w.heap.size w (w.alloc (.cells #[.string m.name, .int .i64 m.stage, .slice m.A m.x.length m.c] 26))) := Lib.hid ((Below.refl _ _).alloc (Nat.le_refl _) _)
  have Hh := Lib.hid h
  have Hs := Lib.hid hs
  clear h hs
  go_enter Tryz.func60, Tryz.ntmps60
  go_wp2
  go_loop [8] (fun i => ∃ k : Nat, k ≤ m.x.length ∧ i = .int .i64 k ∧ (∀ (j : Nat) (hj : j < m.x.length), j < k → changeP m.stage m.x[j])) (fun i => m.x.length - (intOf i).toNat)
  case atStart => exact ⟨0, by omega, by rfl, fun j _ hj => by omega⟩
  case round =>
    obtain ⟨k, hk, rfl, hq⟩ := hrel
    have Hq := Lib.hid hq
    clear hq
    by_cases hlt : k < m.x.length
    · obtain ⟨g, off, hA, hg, hcell⟩ := Hh.out.at hlt
      have r0 : (w.alloc (.cells #[.string m.name, .int .i64 m.stage, .slice m.A m.x.length m.c] 26)).cell? ⟨g, off + k, none⟩ = some (.string m.x[k]) := (hb0.out.cell (p := ⟨g, off + k, none⟩) hg).trans (by have := hcell 0 _ rfl; rw [Nat.mul_one] at this; exact this)
      have hsm : (m.x[k].size : Int) ≤ 1048576 := Hs.out _ (List.getElem_mem hlt)
      rw [hA] at r0 ⊢
      obtain ⟨x, hx⟩ : ∃ x, Hid (m.x[k] = x) := ⟨_, Lib.hid rfl⟩
      rw [hx.out] at r0 hsm
      clear hcell
      by_cases hc : changeP m.stage x
      · have e1 := B_t hc
        have Hc := Lib.hid hc
        clear hc
        go_wp2_with (go_at_call 114; refine (l2Change_any m.stage x _ (by omega)).mono ?_; rintro e w' ⟨rfl, rfl⟩)
        go_round
        case rel =>
          refine ⟨k + 1, by omega, by go_num, fun j hj h1 => ?_⟩
          rcases Nat.lt_or_eq_of_le (Nat.le_of_lt_succ h1) with h' | rfl
          · exact Hq.out j hj h'
          · rw [hx.out]; exact Hc.out
        case measure => simp [intOf]; omega
      · have e1 := B_f hc
        have Hc := Lib.hid hc
        clear hc
        go_wp2_with (go_at_call 114; refine (l2Change_any m.stage x _ (by omega)).mono ?_; rintro e w' ⟨rfl, rfl⟩)
        go_ret
        exact ⟨ret_f (fun h => Hc.out (by rw [← hx.out]; exact h.2.2 k hlt)), by first | exact hb0.out | (rw [← hA]; exact hb0.out)⟩
    · obtain rfl : k = m.x.length := by omega
      by_cases c1 : isWordP m.name
      · have e1 := B_t c1
        by_cases c2 : inB m.stage 3 8
        · have e2 := B_t c2
          by_cases c3 : inB (m.x.length : Int) 1 40
          · have e3 := B_t c3
            have C := Lib.hid (And.intro c1 c3)
            clear c1 c2 c3
            go_wp2_with (first | (go_at_call 115; refine (l4Name_any _ _ (by omega)).mono ?_; rintro e w' ⟨rfl, rfl⟩) | (go_at_call 99; refine (l1In_any _ _ _ _).mono ?_; rintro e w' ⟨rfl, rfl⟩))
            go_ret
            exact ⟨ret_t ⟨C.out.1, ⟨by have := C.out.2.1; omega, by have := C.out.2.2; omega⟩, fun i hi => Hq.out i hi hi⟩, hb0.out⟩
          · have e3 := B_f c3
            have C := Lib.hid c3
            clear c1 c2 c3
            go_wp2_with (first | (go_at_call 115; refine (l4Name_any _ _ (by omega)).mono ?_; rintro e w' ⟨rfl, rfl⟩) | (go_at_call 99; refine (l1In_any _ _ _ _).mono ?_; rintro e w' ⟨rfl, rfl⟩))
            go_ret
            exact ⟨ret_f (fun h => C.out ⟨by have := h.2.1.1; omega, by have := h.2.1.2; omega⟩), hb0.out⟩
        · have e2 := B_f c2
          have C := Lib.hid c2
          clear c1 c2
          go_wp2_with (first | (go_at_call 115; refine (l4Name_any _ _ (by omega)).mono ?_; rintro e w' ⟨rfl, rfl⟩) | (go_at_call 99; refine (l1In_any _ _ _ _).mono ?_; rintro e w' ⟨rfl, rfl⟩))
          go_ret
          exact ⟨ret_f (fun h => C.out h.2.stage), hb0.out⟩
      · have e1 := B_f c1
        have C := Lib.hid c1
        clear c1
        go_wp2_with (first | (go_at_call 115; refine (l4Name_any _ _ (by omega)).mono ?_; rintro e w' ⟨rfl, rfl⟩) | (go_at_call 99; refine (l1In_any _ _ _ _).mono ?_; rintro e w' ⟨rfl, rfl⟩))
        go_ret
        exact ⟨ret_f (fun h => C.out h.1), hb0.out⟩



set_option maxHeartbeats 1600000 in
theorem goodCalls_any (m : Mth) (b s : ByteArray) (w : World) (h : RdL w w.heap.size m.A 1 encString m.x) (hn : m.name.size ≤ 1048576) (hl : m.x.length ≤ 1048576) (hs : ∀ x ∈ m.x, String_small 1048576 x) (hb : b.size ≤ 1048576) (hss : s.size ≤ 1048576) :
    Calls Tryz.prog 70 #[.agg #[.string m.name, .int .i64 m.stage, .slice m.A m.x.length m.c], .agg #[.string b, .string s]] w fun e w' => e = .returned (.bool (B (callsP m b s))) ∧ Below w.heap.size w w' := by
  have hb0 : Hid (Below w.heap.size w ((w.alloc (.cells #[.string m.name, .int .i64 m.stage, .slice m.A m.x.length m.c] 26)).alloc (.cells #[.string b, .string s] 28))) := Lib.hid (((Below.refl _ _).alloc (Nat.le_refl _) _).alloc (by simp) _)
  have h2 : Hid (RdL ((w.alloc (.cells #[.string m.name, .int .i64 m.stage, .slice m.A m.x.length m.c] 26)).alloc (.cells #[.string b, .string s] 28)) (((w.alloc (.cells #[.string m.name, .int .i64 m.stage, .slice m.A m.x.length m.c] 26)).alloc (.cells #[.string b, .string s] 28))).heap.size m.A 1 encString m.x) := Lib.hid ((h.below hb0.out (Nat.le_refl _)).more hb0.out.size)
  have Hs := Lib.hid hs
  clear h hs
  by_cases c1 : methP m
  · have e1 := B_t c1
    have C1 := Lib.hid c1
    clear c1
    by_cases c2 : changeP m.stage b
    · have e2 := B_t c2
      have C2 := Lib.hid c2
      clear c2
      by_cases c3 : changeP m.stage s
      all_goals
        first | have e3 := B_t c3 | have e3 := B_f c3
        have C3 := Lib.hid c3
        clear c3
        go_enter Tryz.func70, Tryz.ntmps70
        go_wp2_with (first | (go_at_call 126; refine (goodMethod_any m _ h2.out hn hl Hs.out).mono ?_; rintro e w1 ⟨rfl, hb1⟩; have hw1 := hb0.out.trans (hb1.mono hb0.out.size); have q1 := (hb1.cell (p := ⟨w.heap.size, 1, none⟩) (by simp; omega)).trans (show _ = some (.int .i64 m.stage) from by simp [go_sem]); have q2 := (hb1.cell (p := ⟨w.heap.size + 1, 0, none⟩) (by simp)).trans (show _ = some (.string b) from by simp [go_sem]); have q3 := (hb1.cell (p := ⟨w.heap.size + 1, 1, none⟩) (by simp)).trans (show _ = some (.string s) from by simp [go_sem]); have hws : w.heap.size + 2 ≤ w1.heap.size := by have := hb1.size; simpa using this) | (go_at_call 127; refine (goodChange_any _ _ _ (by omega)).mono ?_; rintro e w2 ⟨rfl, hb2⟩; have q1 := (hb2.cell (p := ⟨w.heap.size, 1, none⟩) (show w.heap.size < _ by omega)).trans q1; have q3 := (hb2.cell (p := ⟨w.heap.size + 1, 1, none⟩) (show w.heap.size + 1 < _ by omega)).trans q3; have hw1 := hw1.trans (hb2.mono hw1.size); have hws := Nat.le_trans hws hb2.size))
        go_ret
        first
          | exact ⟨ret_t ⟨C1.out, C2.out, C3.out⟩, hw1⟩
          | exact ⟨ret_f (fun h => C3.out h.2.2), hw1⟩
          | exact ⟨by show Ending.returned (Value.bool (B (changeP m.stage s))) = Ending.returned (Value.bool (B (callsP m b s))); rw [B_t C3.out, B_t (show callsP m b s from ⟨C1.out, C2.out, C3.out⟩)], hw1⟩
          | exact ⟨by show Ending.returned (Value.bool (B (changeP m.stage s))) = Ending.returned (Value.bool (B (callsP m b s))); rw [B_f C3.out, B_f (fun h : callsP m b s => C3.out h.2.2)], hw1⟩
    · have e2 := B_f c2
      have C2 := Lib.hid c2
      clear c2
      go_enter Tryz.func70, Tryz.ntmps70
      go_wp2_with (first | (go_at_call 126; refine (goodMethod_any m _ h2.out hn hl Hs.out).mono ?_; rintro e w1 ⟨rfl, hb1⟩; have hw1 := hb0.out.trans (hb1.mono hb0.out.size); have q1 := (hb1.cell (p := ⟨w.heap.size, 1, none⟩) (by simp; omega)).trans (show _ = some (.int .i64 m.stage) from by simp [go_sem]); have q2 := (hb1.cell (p := ⟨w.heap.size + 1, 0, none⟩) (by simp)).trans (show _ = some (.string b) from by simp [go_sem]); have q3 := (hb1.cell (p := ⟨w.heap.size + 1, 1, none⟩) (by simp)).trans (show _ = some (.string s) from by simp [go_sem]); have hws : w.heap.size + 2 ≤ w1.heap.size := by have := hb1.size; simpa using this) | (go_at_call 127; refine (goodChange_any _ _ _ (by omega)).mono ?_; rintro e w2 ⟨rfl, hb2⟩; have q1 := (hb2.cell (p := ⟨w.heap.size, 1, none⟩) (show w.heap.size < _ by omega)).trans q1; have q3 := (hb2.cell (p := ⟨w.heap.size + 1, 1, none⟩) (show w.heap.size + 1 < _ by omega)).trans q3; have hw1 := hw1.trans (hb2.mono hw1.size); have hws := Nat.le_trans hws hb2.size))
      go_ret
      exact ⟨ret_f (fun h => C2.out h.2.1), hw1⟩
  · have e1 := B_f c1
    have C1 := Lib.hid c1
    clear c1
    go_enter Tryz.func70, Tryz.ntmps70
    go_wp2_with (first | (go_at_call 126; refine (goodMethod_any m _ h2.out hn hl Hs.out).mono ?_; rintro e w1 ⟨rfl, hb1⟩; have hw1 := hb0.out.trans (hb1.mono hb0.out.size); have q1 := (hb1.cell (p := ⟨w.heap.size, 1, none⟩) (by simp; omega)).trans (show _ = some (.int .i64 m.stage) from by simp [go_sem]); have q2 := (hb1.cell (p := ⟨w.heap.size + 1, 0, none⟩) (by simp)).trans (show _ = some (.string b) from by simp [go_sem]); have q3 := (hb1.cell (p := ⟨w.heap.size + 1, 1, none⟩) (by simp)).trans (show _ = some (.string s) from by simp [go_sem]); have hws : w.heap.size + 2 ≤ w1.heap.size := by have := hb1.size; simpa using this) | (go_at_call 127; refine (goodChange_any _ _ _ (by omega)).mono ?_; rintro e w2 ⟨rfl, hb2⟩; have q1 := (hb2.cell (p := ⟨w.heap.size, 1, none⟩) (show w.heap.size < _ by omega)).trans q1; have q3 := (hb2.cell (p := ⟨w.heap.size + 1, 1, none⟩) (show w.heap.size + 1 < _ by omega)).trans q3; have hw1 := hw1.trans (hb2.mono hw1.size); have hws := Nat.le_trans hws hb2.size))
    go_ret
    exact ⟨ret_f (fun h => C1.out h.1), hw1⟩
set_option maxHeartbeats 1600000 in
theorem l8Good_any (m : Mth) (b s : ByteArray) (w : World) (h : RdL w w.heap.size m.A 1 encString m.x) (hn : m.name.size ≤ 1048576) (hl : m.x.length ≤ 1048576) (hs : ∀ x ∈ m.x, String_small 1048576 x) (hb : b.size ≤ 1048576) (hss : s.size ≤ 1048576) :
    Calls Tryz.prog 116 #[.agg #[.string m.name, .int .i64 m.stage, .slice m.A m.x.length m.c], .agg #[.string b, .string s]] w fun e w' => e = .returned (.bool (B (callsP m b s))) ∧ Below w.heap.size w w' := by
  have hb0 : Hid (Below w.heap.size w ((w.alloc (.cells #[.string m.name, .int .i64 m.stage, .slice m.A m.x.length m.c] 26)).alloc (.cells #[.string b, .string s] 28))) := Lib.hid (((Below.refl _ _).alloc (Nat.le_refl _) _).alloc (by simp) _)
  have h2 : Hid (RdL ((w.alloc (.cells #[.string m.name, .int .i64 m.stage, .slice m.A m.x.length m.c] 26)).alloc (.cells #[.string b, .string s] 28)) (((w.alloc (.cells #[.string m.name, .int .i64 m.stage, .slice m.A m.x.length m.c] 26)).alloc (.cells #[.string b, .string s] 28))).heap.size m.A 1 encString m.x) := Lib.hid ((h.below hb0.out (Nat.le_refl _)).more hb0.out.size)
  have Hs := Lib.hid hs
  clear h hs
  by_cases c1 : methP m
  · have e1 := B_t c1
    have C1 := Lib.hid c1
    clear c1
    by_cases c2 : changeP m.stage b
    · have e2 := B_t c2
      have C2 := Lib.hid c2
      clear c2
      by_cases c3 : changeP m.stage s
      all_goals
        first | have e3 := B_t c3 | have e3 := B_f c3
        have C3 := Lib.hid c3
        clear c3
        go_enter Tryz.func116, Tryz.ntmps116
        go_wp2_with (first | (go_at_call 60; refine (l4Good_any m _ h2.out hn hl Hs.out).mono ?_; rintro e w1 ⟨rfl, hb1⟩; have hw1 := hb0.out.trans (hb1.mono hb0.out.size); have q1 := (hb1.cell (p := ⟨w.heap.size, 1, none⟩) (by simp; omega)).trans (show _ = some (.int .i64 m.stage) from by simp [go_sem]); have q2 := (hb1.cell (p := ⟨w.heap.size + 1, 0, none⟩) (by simp)).trans (show _ = some (.string b) from by simp [go_sem]); have q3 := (hb1.cell (p := ⟨w.heap.size + 1, 1, none⟩) (by simp)).trans (show _ = some (.string s) from by simp [go_sem]); have hws : w.heap.size + 2 ≤ w1.heap.size := by have := hb1.size; simpa using this) | (go_at_call 114; refine (l2Change_any _ _ _ (by omega)).mono ?_; rintro e w' ⟨rfl, rfl⟩))
        go_ret
        first
          | exact ⟨ret_t ⟨C1.out, C2.out, C3.out⟩, hw1⟩
          | exact ⟨ret_f (fun h => C3.out h.2.2), hw1⟩
          | exact ⟨by show Ending.returned (Value.bool (B (changeP m.stage s))) = Ending.returned (Value.bool (B (callsP m b s))); rw [B_t C3.out, B_t (show callsP m b s from ⟨C1.out, C2.out, C3.out⟩)], hw1⟩
          | exact ⟨by show Ending.returned (Value.bool (B (changeP m.stage s))) = Ending.returned (Value.bool (B (callsP m b s))); rw [B_f C3.out, B_f (fun h : callsP m b s => C3.out h.2.2)], hw1⟩
    · have e2 := B_f c2
      have C2 := Lib.hid c2
      clear c2
      go_enter Tryz.func116, Tryz.ntmps116
      go_wp2_with (first | (go_at_call 60; refine (l4Good_any m _ h2.out hn hl Hs.out).mono ?_; rintro e w1 ⟨rfl, hb1⟩; have hw1 := hb0.out.trans (hb1.mono hb0.out.size); have q1 := (hb1.cell (p := ⟨w.heap.size, 1, none⟩) (by simp; omega)).trans (show _ = some (.int .i64 m.stage) from by simp [go_sem]); have q2 := (hb1.cell (p := ⟨w.heap.size + 1, 0, none⟩) (by simp)).trans (show _ = some (.string b) from by simp [go_sem]); have q3 := (hb1.cell (p := ⟨w.heap.size + 1, 1, none⟩) (by simp)).trans (show _ = some (.string s) from by simp [go_sem]); have hws : w.heap.size + 2 ≤ w1.heap.size := by have := hb1.size; simpa using this) | (go_at_call 114; refine (l2Change_any _ _ _ (by omega)).mono ?_; rintro e w' ⟨rfl, rfl⟩))
      go_ret
      exact ⟨ret_f (fun h => C2.out h.2.1), hw1⟩
  · have e1 := B_f c1
    have C1 := Lib.hid c1
    clear c1
    go_enter Tryz.func116, Tryz.ntmps116
    go_wp2_with (first | (go_at_call 60; refine (l4Good_any m _ h2.out hn hl Hs.out).mono ?_; rintro e w1 ⟨rfl, hb1⟩; have hw1 := hb0.out.trans (hb1.mono hb0.out.size); have q1 := (hb1.cell (p := ⟨w.heap.size, 1, none⟩) (by simp; omega)).trans (show _ = some (.int .i64 m.stage) from by simp [go_sem]); have q2 := (hb1.cell (p := ⟨w.heap.size + 1, 0, none⟩) (by simp)).trans (show _ = some (.string b) from by simp [go_sem]); have q3 := (hb1.cell (p := ⟨w.heap.size + 1, 1, none⟩) (by simp)).trans (show _ = some (.string s) from by simp [go_sem]); have hws : w.heap.size + 2 ≤ w1.heap.size := by have := hb1.size; simpa using this) | (go_at_call 114; refine (l2Change_any _ _ _ (by omega)).mono ?_; rintro e w' ⟨rfl, rfl⟩))
    go_ret
    exact ⟨ret_f (fun h => C1.out h.1), hw1⟩
end Go.Proofs.YtkegbbndmfnolaaGreatDoor

/-
  Rounds; lists of strings and methods copied: contracts of both sides.
-/
namespace Go.Proofs.YtkegbbndmfnolaaGreatDoor
open Go.RowKit
set_option linter.unusedVariables false
set_option linter.unusedSimpArgs false
set_option maxRecDepth 100000

def eightS : ByteArray := ⟨#[49, 50, 51, 52, 53, 54, 55, 56]⟩
/-- Rounds. -/
def roundsS (n : Int) : ByteArray := eightS.extract 0 n.toNat
theorem roundsS_size {n : Int} (h0 : 0 ≤ n) (h8 : n ≤ 8) : (roundsS n).size = n.toNat := by
  unfold roundsS; rw [size_ext]
  have : eightS.size = 8 := rfl
  omega

theorem rounds_any (n : Int) (w : World) (h0 : 0 ≤ n) (h8 : n ≤ 8) : Calls Tryz.prog 113 #[.int .i64 n] w fun e w' => e = .returned (.string (roundsS n)) ∧ w = w' := by
  have hz : (⟨#[49, 50, 51, 52, 53, 54, 55, 56]⟩ : ByteArray).size = 8 := rfl
  go_enter Tryz.func113, Tryz.ntmps113
  go_wp2
  go_ret
  exact ⟨rfl, rfl⟩
theorem l1Rounds_any (n : Int) (w : World) (h0 : 0 ≤ n) (h8 : n ≤ 8) : Calls Tryz.prog 120 #[.int .i64 n] w fun e w' => e = .returned (.string (roundsS n)) ∧ w = w' := by
  have hz : (⟨#[49, 50, 51, 52, 53, 54, 55, 56]⟩ : ByteArray).size = 8 := rfl
  go_enter Tryz.func120, Tryz.ntmps120
  go_wp2
  go_ret
  exact ⟨rfl, rfl⟩

theorem withChanges_any (m : Mth) (A' : Option Addr) (n c' : Nat) (w : World) :
    Calls Tryz.prog 111 #[.agg #[.string m.name, .int .i64 m.stage, .slice m.A m.x.length m.c], .slice A' n c'] w fun e w' => e = .returned (.agg #[.string m.name, .int .i64 m.stage, .slice A' n c']) ∧ Below w.heap.size w w' := by
  go_enter Tryz.func111, Tryz.ntmps111
  go_wp2
  refine bodyPost_ret (v := .agg #[.string m.name, .int .i64 m.stage, .slice A' n c']) (by simp [results, Tryz.results111, go_sem]) rfl ⟨rfl, ?_⟩
  repeat (first | exact Below.refl _ _ | refine Below.setCell ?_ (by simp <;> omega) _ | refine Below.alloc ?_ (by simp <;> omega) _)
end Go.Proofs.YtkegbbndmfnolaaGreatDoor

/-
  Contracts of the helper functions that the laws use for lists of Ringer.
-/
namespace Go.Proofs.YtkegbbndmfnolaaGreatDoor
open Go.RowKit Go.ChangeShapes Go.WideShapes
set_option linter.unusedVariables false
set_option linter.unusedSimpArgs false
set_option maxRecDepth 100000


structure Rgr where
  place : Int
  deaf : Bool

def Rgr.enc (x : Rgr) : List Value := [.int .i64 x.place, .bool x.deaf]
def Ringer_small (lim : Int) (x : Rgr) : Prop := True
/-- What the marks make of a list of so many elements. -/
def markRingerL (m q : Nat) : List Rgr := (List.range m).map fun i : Nat => (⟨((q + i * 2 : Nat) : Int), (((q + i * 2 + 1) % 3 == 0))⟩ : Rgr)
end Go.Proofs.YtkegbbndmfnolaaGreatDoor
/-
  Contracts: valid bands (both sides).
-/
namespace Go.Proofs.YtkegbbndmfnolaaGreatDoor
open Go.RowKit
set_option linter.unusedVariables false
set_option linter.unusedSimpArgs false
set_option maxRecDepth 100000

/-- A band in memory. -/
structure Bnd where
  m : Mth
  bob : ByteArray
  sing : ByteArray
  step : Int
  call : ByteArray
  tru : ByteArray
  rx : List Rgr
  RA : Option Addr
  rc : Nat
def Bnd.enc (b : Bnd) : List Value := [.string b.m.name, .int .i64 b.m.stage, .slice b.m.A b.m.x.length b.m.c, .string b.bob, .string b.sing, .int .i64 b.step, .string b.call, .string b.tru, .slice b.RA b.rx.length b.rc]
def bandP (b : Bnd) : Prop := callsP b.m b.bob b.sing ∧ inB b.step 0 ((b.m.x.length : Int) - 1) ∧ isCallP b.call ∧ isRowOf b.m.stage b.tru ∧ (b.rx.length : Int) = b.m.stage ∧ ∀ (i : Nat) (hi : i < b.rx.length), inB b.rx[i].place 1 b.m.stage
/-- Its lists read, and all is small. -/
structure Bnd.Ok (b : Bnd) (w : World) : Prop where
  ch : RdL w w.heap.size b.m.A 1 encString b.m.x
  ri : RdL w w.heap.size b.RA 2 Rgr.enc b.rx
  nm : b.m.name.size ≤ 1048576
  cl : b.m.x.length ≤ 1048576
  cs : ∀ x ∈ b.m.x, String_small 1048576 x
  bs : b.bob.size ≤ 1048576
  ss : b.sing.size ≤ 1048576
  ks : b.call.size ≤ 1048576
  ts : b.tru.size ≤ 1048576
  rl : b.rx.length ≤ 1048576








end Go.Proofs.YtkegbbndmfnolaaGreatDoor

/-
  Contracts of the helper functions that the laws use for methods, calls and bands.
-/
namespace Go.Proofs.YtkegbbndmfnolaaGreatDoor
open Go.RowKit Go.ChangeShapes Go.WideShapes Go.Deep
set_option linter.unusedVariables false
set_option linter.unusedSimpArgs false
set_option maxRecDepth 100000

/-- Sizes that the machine's integers hold. -/
structure Mth.Fits (m : Mth) : Prop where
  nm : (m.name.size : Int) ≤ 9223372036854775807
  cl : m.x.length ≤ 9223372036854775807
  cs : ∀ x ∈ m.x, String_small 9223372036854775807 x

/-- A band that the machine holds. -/
structure Bnd.Fits (b : Bnd) : Prop where
  me : b.m.Fits
  bs : (b.bob.size : Int) ≤ 9223372036854775807
  ss : (b.sing.size : Int) ≤ 9223372036854775807
  ks : (b.call.size : Int) ≤ 9223372036854775807
  ts : (b.tru.size : Int) ≤ 9223372036854775807
  rl : b.rx.length ≤ 9223372036854775807
/-- All sizes of a band are small. -/
def Bnd.Small (b : Bnd) (lim : Int) : Prop := (b.m.name.size : Int) ≤ lim ∧ (b.m.x.length : Int) ≤ lim ∧ (∀ x ∈ b.m.x, String_small lim x) ∧ (b.bob.size : Int) ≤ lim ∧ (b.sing.size : Int) ≤ lim ∧ (b.call.size : Int) ≤ lim ∧ (b.tru.size : Int) ≤ lim ∧ (b.rx.length : Int) ≤ lim


end Go.Proofs.YtkegbbndmfnolaaGreatDoor
