import Derived.Test.YtkegbbndmfnolaaGreatDoorMBandsL04
import Derived.Deep.Slices
/-
 Contracts: valid bands (both sides).
-/
namespace Go.Proofs.YtkegbbndmfnolaaGreatDoor
open Go.RowKit
set_option linter.unusedVariables false
set_option linter.unusedSimpArgs false
set_option maxRecDepth 100000

/-- A band in memory. -/
structure Bnd where
 m : Mth
 bob : ByteArray
 sing : ByteArray
 step : Int
 call : ByteArray
 tru : ByteArray
 rx : List Rgr
 RA : Option Addr
 rc : Nat
def Bnd.enc (b : Bnd) : List Value := [.string b.m.name, .int .i64 b.m.stage, .slice b.m.A b.m.x.length b.m.c, .string b.bob, .string b.sing, .int .i64 b.step, .string b.call, .string b.tru, .slice b.RA b.rx.length b.rc]
def bandP (b : Bnd) : Prop := callsP b.m b.bob b.sing ∧ inB b.step 0 ((b.m.x.length : Int) - 1) ∧ isCallP b.call ∧ isRowOf b.m.stage b.tru ∧ (b.rx.length : Int) = b.m.stage ∧ ∀ (i : Nat) (hi : i < b.rx.length), inB b.rx[i].place 1 b.m.stage
/-- Its lists read, and all is small. -/
structure Bnd.Ok (b : Bnd) (w : World) : Prop where
 ch : RdL w w.heap.size b.m.A 1 encString b.m.x
 ri : RdL w w.heap.size b.RA 2 Rgr.enc b.rx
 nm : b.m.name.size ≤ 1048576
 cl : b.m.x.length ≤ 1048576
 cs : ∀ x ∈ b.m.x, String_small 1048576 x
 bs : b.bob.size ≤ 1048576
 ss : b.sing.size ≤ 1048576
 ks : b.call.size ≤ 1048576
 ts : b.tru.size ≤ 1048576
 rl : b.rx.length ≤ 1048576








set_option maxHeartbeats 3200000 in
theorem iBand_any (b : Bnd) (w : World) (h : b.Ok w) :
  Calls Tryz.prog 16 #[.agg #[.string b.m.name, .int .i64 b.m.stage, .slice b.m.A b.m.x.length b.m.c, .string b.bob, .string b.sing, .int .i64 b.step, .string b.call, .string b.tru, .slice b.RA b.rx.length b.rc]] w fun e w' => e = .returned (.bool (B (bandP b))) ∧ Below w.heap.size w w' := by
 have hb0 : Hid (Below w.heap.size w (w.alloc (.cells #[.string b.m.name, .int .i64 b.m.stage, .slice b.m.A b.m.x.length b.m.c, .string b.bob, .string b.sing, .int .i64 b.step, .string b.call, .string b.tru, .slice b.RA b.rx.length b.rc] 36))) := Lib.hid ((Below.refl _ _).alloc (Nat.le_refl _) _)
 have h2 : Hid (RdL (w.alloc (.cells #[.string b.m.name, .int .i64 b.m.stage, .slice b.m.A b.m.x.length b.m.c, .string b.bob, .string b.sing, .int .i64 b.step, .string b.call, .string b.tru, .slice b.RA b.rx.length b.rc] 36)) ((w.alloc (.cells #[.string b.m.name, .int .i64 b.m.stage, .slice b.m.A b.m.x.length b.m.c, .string b.bob, .string b.sing, .int .i64 b.step, .string b.call, .string b.tru, .slice b.RA b.rx.length b.rc] 36))).heap.size b.m.A 1 encString b.m.x) := Lib.hid ((h.ch.below hb0.out (Nat.le_refl _)).more hb0.out.size)
 have Hr := Lib.hid h.ri
 have Hs := Lib.hid h.cs
 obtain ⟨_, _, hnm, hcl, _, hbs, hss, hks, hts, hrl⟩ := h
 by_cases c1 : callsP b.m b.bob b.sing
 ·have e1 := B_t c1
  have C1 := Lib.hid c1
  clear c1
  by_cases c2 : inB b.step 0 ((b.m.x.length : Int) - 1)
  ·have e2 := B_t c2
   have C2 := Lib.hid c2
   clear c2
   by_cases c3 : isCallP b.call
   ·have e3 := B_t c3
    have C3 := Lib.hid c3
    clear c3
    by_cases c4 : isRowOf b.m.stage b.tru
    ·have e4 := B_t c4
     have C4 := Lib.hid c4
     clear c4
     by_cases c5 : (b.rx.length : Int) = b.m.stage
     ·have C5 := Lib.hid c5
      have hst3 : 3 ≤ b.rx.length := by have := C4.out.1; have := C4.out.2.1; omega
      obtain ⟨g, off, hA, hg, _⟩ := Hr.out.at (k := 0) (by omega)
      rw [hA] at hb0 h2 Hr ⊢
      clear hA
      go_enter Tryz.func16, Tryz.ntmps16
      go_wp2_with (first | (go_at_call 70; refine (goodCalls_any b.m b.bob b.sing _ h2.out hnm hcl Hs.out hbs hss).mono ?_; rintro e w1 ⟨rfl, hb1⟩; have hw1 := hb0.out.trans (hb1.mono hb0.out.size); have hws : w.heap.size < w1.heap.size := (Nat.lt_of_lt_of_le (by simp) hb1.size); have q1 := (hb1.cell (p := ⟨w.heap.size, 1, none⟩) (by simp)).trans (show _ = some _ from by simp [go_sem]; rfl); have q2 := (hb1.cell (p := ⟨w.heap.size, 2, none⟩) (by simp)).trans (show _ = some _ from by simp [go_sem]; rfl); have q5 := (hb1.cell (p := ⟨w.heap.size, 5, none⟩) (by simp)).trans (show _ = some _ from by simp [go_sem]; rfl); have q6 := (hb1.cell (p := ⟨w.heap.size, 6, none⟩) (by simp)).trans (show _ = some _ from by simp [go_sem]; rfl); have q7 := (hb1.cell (p := ⟨w.heap.size, 7, none⟩) (by simp)).trans (show _ = some _ from by simp [go_sem]; rfl); have q8 := (hb1.cell (p := ⟨w.heap.size, 8, none⟩) (by simp)).trans (show _ = some _ from by simp [go_sem]; rfl)) | (go_at_call 71; refine (within_any _ _ _ _).mono ?_; rintro e w' ⟨rfl, rfl⟩) | (go_at_call 72; refine (isCall_any _ _).mono ?_; rintro e w' ⟨rfl, rfl⟩) | (go_at_call 73; refine (isRowOf_any _ _ _).mono ?_; rintro e w' ⟨rfl, rfl⟩) | (go_at_call 74; refine (isBell_any _ _ _).mono ?_; rintro e w' ⟨rfl, rfl⟩))
      have Hw1 := Lib.hid hw1
      clear hw1
      go_loopw [49] (fun i wr => ∃ k : Nat, k ≤ b.rx.length ∧ i = .int .i64 k ∧ (∀ (j : Nat) (hj : j < b.rx.length), j < k → inB b.rx[j].place 1 b.m.stage) ∧ Below w1.heap.size w1 wr) (fun i _ => b.rx.length - (intOf i).toNat)
      case atStart => exact ⟨0, by omega, by rfl, fun j _ hj => by omega, Below.refl _ _⟩
      case round =>
       obtain ⟨k, hk, rfl, hq, hbl⟩ := hrel
       have Hq := Lib.hid hq
       have hgs := hbl.size
       have hww : Hid (Below w.heap.size w wr) := Lib.hid (Hw1.out.trans (hbl.mono Hw1.out.size))
       have Hbl := Lib.hid hbl
       clear hq hbl
       by_cases hlt : k < b.rx.length
       ·have hlt2 : (k : Int) < b.m.stage := by have := C5.out; omega
        obtain ⟨g', off', hA', hg', hcell⟩ := Hr.out.at hlt
        simp only [Option.some.injEq, Addr.mk.injEq, and_true] at hA'
        obtain ⟨rfl, rfl⟩ := hA'
        have r0 := (hww.out.cell (p := ⟨g, off + k * 2, none⟩) hg).trans (hcell 0 _ rfl)
        have r1 := (hww.out.cell (p := ⟨g, off + k * 2 + 1, none⟩) hg).trans (hcell 1 _ rfl)
        have s1 := (Hbl.out.cell (p := ⟨w.heap.size, 1, none⟩) (show w.heap.size < w1.heap.size by omega)).trans q1
        have hga : w.heap.size < wr.heap.size := by omega
        clear q1 q2 q5 q6 q7 q8 hcell
        obtain ⟨x, hx⟩ : ∃ x, Hid (b.rx[k] = x) := ⟨_, Lib.hid rfl⟩
        rw [hx.out] at r0 r1
        by_cases hc : inB x.place 1 b.m.stage
        ·have f1 := B_t hc
         have Hc := Lib.hid hc
         clear hc
         go_wp2_with (go_at_call 74; refine (isBell_any _ _ _).mono ?_; rintro e w' ⟨rfl, rfl⟩)
         go_roundw
         case rel =>
          refine ⟨k + 1, by omega, by go_num, fun j hj h1 => ?_, Hbl.out.alloc hgs _⟩
          rcases Nat.lt_or_eq_of_le (Nat.le_of_lt_succ h1) with h' | rfl
          ·exact Hq.out j hj h'
          ·rw [hx.out]; exact Hc.out
         case measure => simp [intOf]; omega
        ·have f1 := B_f hc
         have Hc := Lib.hid hc
         clear hc
         go_wp2_with (go_at_call 74; refine (isBell_any _ _ _).mono ?_; rintro e w' ⟨rfl, rfl⟩)
         go_ret
         exact ⟨ret_f (fun h => Hc.out (by rw [← hx.out]; exact h.2.2.2.2.2 k hlt)), hww.out.alloc (by omega) _⟩
       ·have hlt2 : ¬ (k : Int) < b.m.stage := by have := C5.out; omega
        obtain rfl : k = b.rx.length := by omega
        go_wp2
        go_ret
        exact ⟨ret_t ⟨C1.out, C2.out, C3.out, C4.out, C5.out, fun i hi => Hq.out i hi hi⟩, hww.out⟩
     ·go_enter Tryz.func16, Tryz.ntmps16
      go_wp2_with (first | (go_at_call 70; refine (goodCalls_any b.m b.bob b.sing _ h2.out hnm hcl Hs.out hbs hss).mono ?_; rintro e w1 ⟨rfl, hb1⟩; have hw1 := hb0.out.trans (hb1.mono hb0.out.size); have hws : w.heap.size < w1.heap.size := (Nat.lt_of_lt_of_le (by simp) hb1.size); have q1 := (hb1.cell (p := ⟨w.heap.size, 1, none⟩) (by simp)).trans (show _ = some _ from by simp [go_sem]; rfl); have q2 := (hb1.cell (p := ⟨w.heap.size, 2, none⟩) (by simp)).trans (show _ = some _ from by simp [go_sem]; rfl); have q5 := (hb1.cell (p := ⟨w.heap.size, 5, none⟩) (by simp)).trans (show _ = some _ from by simp [go_sem]; rfl); have q6 := (hb1.cell (p := ⟨w.heap.size, 6, none⟩) (by simp)).trans (show _ = some _ from by simp [go_sem]; rfl); have q7 := (hb1.cell (p := ⟨w.heap.size, 7, none⟩) (by simp)).trans (show _ = some _ from by simp [go_sem]; rfl); have q8 := (hb1.cell (p := ⟨w.heap.size, 8, none⟩) (by simp)).trans (show _ = some _ from by simp [go_sem]; rfl)) | (go_at_call 71; refine (within_any _ _ _ _).mono ?_; rintro e w' ⟨rfl, rfl⟩) | (go_at_call 72; refine (isCall_any _ _).mono ?_; rintro e w' ⟨rfl, rfl⟩) | (go_at_call 73; refine (isRowOf_any _ _ _).mono ?_; rintro e w' ⟨rfl, rfl⟩) | (go_at_call 74; refine (isBell_any _ _ _).mono ?_; rintro e w' ⟨rfl, rfl⟩))
      go_ret
      exact ⟨ret_f (fun h => c5 h.2.2.2.2.1), hw1⟩
    ·have e4 := B_f c4
     have C4 := Lib.hid c4
     clear c4
     go_enter Tryz.func16, Tryz.ntmps16
     go_wp2_with (first | (go_at_call 70; refine (goodCalls_any b.m b.bob b.sing _ h2.out hnm hcl Hs.out hbs hss).mono ?_; rintro e w1 ⟨rfl, hb1⟩; have hw1 := hb0.out.trans (hb1.mono hb0.out.size); have hws : w.heap.size < w1.heap.size := (Nat.lt_of_lt_of_le (by simp) hb1.size); have q1 := (hb1.cell (p := ⟨w.heap.size, 1, none⟩) (by simp)).trans (show _ = some _ from by simp [go_sem]; rfl); have q2 := (hb1.cell (p := ⟨w.heap.size, 2, none⟩) (by simp)).trans (show _ = some _ from by simp [go_sem]; rfl); have q5 := (hb1.cell (p := ⟨w.heap.size, 5, none⟩) (by simp)).trans (show _ = some _ from by simp [go_sem]; rfl); have q6 := (hb1.cell (p := ⟨w.heap.size, 6, none⟩) (by simp)).trans (show _ = some _ from by simp [go_sem]; rfl); have q7 := (hb1.cell (p := ⟨w.heap.size, 7, none⟩) (by simp)).trans (show _ = some _ from by simp [go_sem]; rfl); have q8 := (hb1.cell (p := ⟨w.heap.size, 8, none⟩) (by simp)).trans (show _ = some _ from by simp [go_sem]; rfl)) | (go_at_call 71; refine (within_any _ _ _ _).mono ?_; rintro e w' ⟨rfl, rfl⟩) | (go_at_call 72; refine (isCall_any _ _).mono ?_; rintro e w' ⟨rfl, rfl⟩) | (go_at_call 73; refine (isRowOf_any _ _ _).mono ?_; rintro e w' ⟨rfl, rfl⟩) | (go_at_call 74; refine (isBell_any _ _ _).mono ?_; rintro e w' ⟨rfl, rfl⟩))
     go_ret
     exact ⟨ret_f (fun h => C4.out h.2.2.2.1), hw1⟩
   ·have e3 := B_f c3
    have C3 := Lib.hid c3
    clear c3
    go_enter Tryz.func16, Tryz.ntmps16
    go_wp2_with (first | (go_at_call 70; refine (goodCalls_any b.m b.bob b.sing _ h2.out hnm hcl Hs.out hbs hss).mono ?_; rintro e w1 ⟨rfl, hb1⟩; have hw1 := hb0.out.trans (hb1.mono hb0.out.size); have hws : w.heap.size < w1.heap.size := (Nat.lt_of_lt_of_le (by simp) hb1.size); have q1 := (hb1.cell (p := ⟨w.heap.size, 1, none⟩) (by simp)).trans (show _ = some _ from by simp [go_sem]; rfl); have q2 := (hb1.cell (p := ⟨w.heap.size, 2, none⟩) (by simp)).trans (show _ = some _ from by simp [go_sem]; rfl); have q5 := (hb1.cell (p := ⟨w.heap.size, 5, none⟩) (by simp)).trans (show _ = some _ from by simp [go_sem]; rfl); have q6 := (hb1.cell (p := ⟨w.heap.size, 6, none⟩) (by simp)).trans (show _ = some _ from by simp [go_sem]; rfl); have q7 := (hb1.cell (p := ⟨w.heap.size, 7, none⟩) (by simp)).trans (show _ = some _ from by simp [go_sem]; rfl); have q8 := (hb1.cell (p := ⟨w.heap.size, 8, none⟩) (by simp)).trans (show _ = some _ from by simp [go_sem]; rfl)) | (go_at_call 71; refine (within_any _ _ _ _).mono ?_; rintro e w' ⟨rfl, rfl⟩) | (go_at_call 72; refine (isCall_any _ _).mono ?_; rintro e w' ⟨rfl, rfl⟩) | (go_at_call 73; refine (isRowOf_any _ _ _).mono ?_; rintro e w' ⟨rfl, rfl⟩) | (go_at_call 74; refine (isBell_any _ _ _).mono ?_; rintro e w' ⟨rfl, rfl⟩))
    go_ret
    exact ⟨ret_f (fun h => C3.out h.2.2.1), hw1⟩
  ·have e2 := B_f c2
   have C2 := Lib.hid c2
   clear c2
   go_enter Tryz.func16, Tryz.ntmps16
   go_wp2_with (first | (go_at_call 70; refine (goodCalls_any b.m b.bob b.sing _ h2.out hnm hcl Hs.out hbs hss).mono ?_; rintro e w1 ⟨rfl, hb1⟩; have hw1 := hb0.out.trans (hb1.mono hb0.out.size); have hws : w.heap.size < w1.heap.size := (Nat.lt_of_lt_of_le (by simp) hb1.size); have q1 := (hb1.cell (p := ⟨w.heap.size, 1, none⟩) (by simp)).trans (show _ = some _ from by simp [go_sem]; rfl); have q2 := (hb1.cell (p := ⟨w.heap.size, 2, none⟩) (by simp)).trans (show _ = some _ from by simp [go_sem]; rfl); have q5 := (hb1.cell (p := ⟨w.heap.size, 5, none⟩) (by simp)).trans (show _ = some _ from by simp [go_sem]; rfl); have q6 := (hb1.cell (p := ⟨w.heap.size, 6, none⟩) (by simp)).trans (show _ = some _ from by simp [go_sem]; rfl); have q7 := (hb1.cell (p := ⟨w.heap.size, 7, none⟩) (by simp)).trans (show _ = some _ from by simp [go_sem]; rfl); have q8 := (hb1.cell (p := ⟨w.heap.size, 8, none⟩) (by simp)).trans (show _ = some _ from by simp [go_sem]; rfl)) | (go_at_call 71; refine (within_any _ _ _ _).mono ?_; rintro e w' ⟨rfl, rfl⟩) | (go_at_call 72; refine (isCall_any _ _).mono ?_; rintro e w' ⟨rfl, rfl⟩) | (go_at_call 73; refine (isRowOf_any _ _ _).mono ?_; rintro e w' ⟨rfl, rfl⟩) | (go_at_call 74; refine (isBell_any _ _ _).mono ?_; rintro e w' ⟨rfl, rfl⟩))
   go_ret
   exact ⟨ret_f (fun h => C2.out h.2.1), hw1⟩
 ·have e1 := B_f c1
  have C1 := Lib.hid c1
  clear c1
  go_enter Tryz.func16, Tryz.ntmps16
  go_wp2_with (first | (go_at_call 70; refine (goodCalls_any b.m b.bob b.sing _ h2.out hnm hcl Hs.out hbs hss).mono ?_; rintro e w1 ⟨rfl, hb1⟩; have hw1 := hb0.out.trans (hb1.mono hb0.out.size); have hws : w.heap.size < w1.heap.size := (Nat.lt_of_lt_of_le (by simp) hb1.size); have q1 := (hb1.cell (p := ⟨w.heap.size, 1, none⟩) (by simp)).trans (show _ = some _ from by simp [go_sem]; rfl); have q2 := (hb1.cell (p := ⟨w.heap.size, 2, none⟩) (by simp)).trans (show _ = some _ from by simp [go_sem]; rfl); have q5 := (hb1.cell (p := ⟨w.heap.size, 5, none⟩) (by simp)).trans (show _ = some _ from by simp [go_sem]; rfl); have q6 := (hb1.cell (p := ⟨w.heap.size, 6, none⟩) (by simp)).trans (show _ = some _ from by simp [go_sem]; rfl); have q7 := (hb1.cell (p := ⟨w.heap.size, 7, none⟩) (by simp)).trans (show _ = some _ from by simp [go_sem]; rfl); have q8 := (hb1.cell (p := ⟨w.heap.size, 8, none⟩) (by simp)).trans (show _ = some _ from by simp [go_sem]; rfl)) | (go_at_call 71; refine (within_any _ _ _ _).mono ?_; rintro e w' ⟨rfl, rfl⟩) | (go_at_call 72; refine (isCall_any _ _).mono ?_; rintro e w' ⟨rfl, rfl⟩) | (go_at_call 73; refine (isRowOf_any _ _ _).mono ?_; rintro e w' ⟨rfl, rfl⟩) | (go_at_call 74; refine (isBell_any _ _ _).mono ?_; rintro e w' ⟨rfl, rfl⟩))
  go_ret
  exact ⟨ret_f (fun h => C1.out h.1), hw1⟩



set_option maxHeartbeats 3200000 in
theorem l24Good_any (b : Bnd) (w : World) (h : b.Ok w) :
  Calls Tryz.prog 68 #[.agg #[.string b.m.name, .int .i64 b.m.stage, .slice b.m.A b.m.x.length b.m.c, .string b.bob, .string b.sing, .int .i64 b.step, .string b.call, .string b.tru, .slice b.RA b.rx.length b.rc]] w fun e w' => e = .returned (.bool (B (bandP b))) ∧ Below w.heap.size w w' := by
 have H1 := Lib.hid h.ch
 have hb0 : Hid (Below w.heap.size w (w.alloc (.cells #[.string b.m.name, .int .i64 b.m.stage, .slice b.m.A b.m.x.length b.m.c, .string b.bob, .string b.sing, .int .i64 b.step, .string b.call, .string b.tru, .slice b.RA b.rx.length b.rc] 36))) := Lib.hid ((Below.refl _ _).alloc (Nat.le_refl _) _)
 have h2 : Hid (RdL (w.alloc (.cells #[.string b.m.name, .int .i64 b.m.stage, .slice b.m.A b.m.x.length b.m.c, .string b.bob, .string b.sing, .int .i64 b.step, .string b.call, .string b.tru, .slice b.RA b.rx.length b.rc] 36)) ((w.alloc (.cells #[.string b.m.name, .int .i64 b.m.stage, .slice b.m.A b.m.x.length b.m.c, .string b.bob, .string b.sing, .int .i64 b.step, .string b.call, .string b.tru, .slice b.RA b.rx.length b.rc] 36))).heap.size b.m.A 1 encString b.m.x) := Lib.hid ((h.ch.below hb0.out (Nat.le_refl _)).more hb0.out.size)
 have Hr := Lib.hid h.ri
 have Hs := Lib.hid h.cs
 obtain ⟨_, _, hnm, hcl, _, hbs, hss, hks, hts, hrl⟩ := h
 by_cases c0 : methP b.m
 ·have e0 := B_t c0
  have C0 := Lib.hid c0
  clear c0
  by_cases c1 : callsP b.m b.bob b.sing
  ·have e1 := B_t c1
   have C1 := Lib.hid c1
   clear c1
   by_cases c2 : isRow b.tru
   ·have e2 := B_t c2
    have C2 := Lib.hid c2
    clear c2
    by_cases c3 : (b.tru.size : Int) = b.m.stage
    ·by_cases c5 : (b.rx.length : Int) = b.m.stage
     ·have C3 := Lib.hid c3
      have C5 := Lib.hid c5
      have hst3 : 3 ≤ b.rx.length := by have := C2.out.1; omega
      obtain ⟨g, off, hA, hg, _⟩ := Hr.out.at (k := 0) (by omega)
      rw [hA] at hb0 h2 Hr ⊢
      clear hA
      go_enter Tryz.func68, Tryz.ntmps68
      go_wp2_with (first | (go_at_call 60; refine (l4Good_any b.m _ h2.out hnm hcl Hs.out).mono ?_; rintro e w1 ⟨rfl, hb1⟩; have hw1 := hb0.out.trans (hb1.mono hb0.out.size); have hws : w.heap.size < w1.heap.size := (Nat.lt_of_lt_of_le (by simp) hb1.size); have q0 := (hb1.cell (p := ⟨w.heap.size, 0, none⟩) (by simp)).trans (show _ = some _ from by simp [go_sem]; rfl); have q1 := (hb1.cell (p := ⟨w.heap.size, 1, none⟩) (by simp)).trans (show _ = some _ from by simp [go_sem]; rfl); have q2 := (hb1.cell (p := ⟨w.heap.size, 2, none⟩) (by simp)).trans (show _ = some _ from by simp [go_sem]; rfl); have q3 := (hb1.cell (p := ⟨w.heap.size, 3, none⟩) (by simp)).trans (show _ = some _ from by simp [go_sem]; rfl); have q4 := (hb1.cell (p := ⟨w.heap.size, 4, none⟩) (by simp)).trans (show _ = some _ from by simp [go_sem]; rfl); have q5 := (hb1.cell (p := ⟨w.heap.size, 5, none⟩) (by simp)).trans (show _ = some _ from by simp [go_sem]; rfl); have q6 := (hb1.cell (p := ⟨w.heap.size, 6, none⟩) (by simp)).trans (show _ = some _ from by simp [go_sem]; rfl); have q7 := (hb1.cell (p := ⟨w.heap.size, 7, none⟩) (by simp)).trans (show _ = some _ from by simp [go_sem]; rfl); have q8 := (hb1.cell (p := ⟨w.heap.size, 8, none⟩) (by simp)).trans (show _ = some _ from by simp [go_sem]; rfl)) | (go_at_call 61; refine (sGoodCalls_any b.m b.bob b.sing _ ((H1.out.below hw1 (Nat.le_refl _)).more hw1.size) hnm hcl Hs.out hbs hss).mono ?_; rintro e w2 ⟨rfl, hb2⟩; have q1 := (hb2.cell (p := ⟨w.heap.size, 1, none⟩) (by omega)).trans q1; have q2 := (hb2.cell (p := ⟨w.heap.size, 2, none⟩) (by omega)).trans q2; have q5 := (hb2.cell (p := ⟨w.heap.size, 5, none⟩) (by omega)).trans q5; have q6 := (hb2.cell (p := ⟨w.heap.size, 6, none⟩) (by omega)).trans q6; have q7 := (hb2.cell (p := ⟨w.heap.size, 7, none⟩) (by omega)).trans q7; have q8 := (hb2.cell (p := ⟨w.heap.size, 8, none⟩) (by omega)).trans q8; have hw1 := hw1.trans (hb2.mono hw1.size); have hws := Nat.lt_of_lt_of_le hws hb2.size) | (go_at_call 123; (refine (l1Row_any b.tru _).mono ?_; rintro e w3 ⟨rfl, nn, hwn⟩; have hb3 : Below w2.heap.size w2 w3 := (by rw [hwn]; exact below_drewN (Below.refl _ _) _); clear hwn; have q1 := (hb3.cell (p := ⟨w.heap.size, 1, none⟩) (by omega)).trans q1; have q2 := (hb3.cell (p := ⟨w.heap.size, 2, none⟩) (by omega)).trans q2; have q5 := (hb3.cell (p := ⟨w.heap.size, 5, none⟩) (by omega)).trans q5; have q6 := (hb3.cell (p := ⟨w.heap.size, 6, none⟩) (by omega)).trans q6; have q7 := (hb3.cell (p := ⟨w.heap.size, 7, none⟩) (by omega)).trans q7; have q8 := (hb3.cell (p := ⟨w.heap.size, 8, none⟩) (by omega)).trans q8; have hw1 := hw1.trans (hb3.mono hw1.size); have hws := Nat.lt_of_lt_of_le hws hb3.size)) | (go_at_call 99; refine (l1In_any _ _ _ _).mono ?_; rintro e w' ⟨rfl, rfl⟩) | (go_at_call 124; refine (l24Call_any _ _).mono ?_; rintro e w' ⟨rfl, rfl⟩))
      have Hw1 := Lib.hid hw1
      clear hw1
      go_loopw [44] (fun i wr => ∃ k : Nat, k ≤ b.rx.length ∧ i = .int .i64 k ∧ (∀ (j : Nat) (hj : j < b.rx.length), j < k → inB b.rx[j].place 1 b.m.stage) ∧ Below w3.heap.size w3 wr) (fun i _ => b.rx.length - (intOf i).toNat)
      case atStart => exact ⟨0, by omega, by rfl, fun j _ hj => by omega, Below.refl _ _⟩
      case round =>
       obtain ⟨k, hk, rfl, hq, hbl⟩ := hrel
       have Hq := Lib.hid hq
       have hgs := hbl.size
       have hww : Hid (Below w.heap.size w wr) := Lib.hid (Hw1.out.trans (hbl.mono Hw1.out.size))
       have Hbl := Lib.hid hbl
       clear hq hbl
       by_cases hlt : k < b.rx.length
       ·have hlt2 : (k : Int) < b.m.stage := by have := C5.out; omega
        obtain ⟨g', off', hA', hg', hcell⟩ := Hr.out.at hlt
        simp only [Option.some.injEq, Addr.mk.injEq, and_true] at hA'
        obtain ⟨rfl, rfl⟩ := hA'
        have r0 := (hww.out.cell (p := ⟨g, off + k * 2, none⟩) hg).trans (hcell 0 _ rfl)
        have r1 := (hww.out.cell (p := ⟨g, off + k * 2 + 1, none⟩) hg).trans (hcell 1 _ rfl)
        have s1 := (Hbl.out.cell (p := ⟨w.heap.size, 1, none⟩) (show w.heap.size < w3.heap.size by omega)).trans q1
        have hga : w.heap.size < wr.heap.size := by omega
        clear q1 q2 q5 q6 q7 q8 hcell
        obtain ⟨x, hx⟩ : ∃ x, Hid (b.rx[k] = x) := ⟨_, Lib.hid rfl⟩
        rw [hx.out] at r0 r1
        by_cases hc : inB x.place 1 b.m.stage
        ·have f1 := B_t hc
         have Hc := Lib.hid hc
         clear hc
         go_wp2_with (go_at_call 99; refine (l1In_any _ _ _ _).mono ?_; rintro e w' ⟨rfl, rfl⟩)
         go_roundw
         case rel =>
          refine ⟨k + 1, by omega, by go_num, fun j hj h1 => ?_, Hbl.out.alloc hgs _⟩
          rcases Nat.lt_or_eq_of_le (Nat.le_of_lt_succ h1) with h' | rfl
          ·exact Hq.out j hj h'
          ·rw [hx.out]; exact Hc.out
         case measure => simp [intOf]; omega
        ·have f1 := B_f hc
         have Hc := Lib.hid hc
         clear hc
         go_wp2_with (go_at_call 99; refine (l1In_any _ _ _ _).mono ?_; rintro e w' ⟨rfl, rfl⟩)
         go_ret
         exact ⟨ret_f (fun h => Hc.out (by rw [← hx.out]; exact h.2.2.2.2.2 k hlt)), hww.out.alloc (by omega) _⟩
       ·have hlt2 : ¬ (k : Int) < b.m.stage := by have := C5.out; omega
        obtain rfl : k = b.rx.length := by omega
        have z2 := (Hbl.out.cell (p := ⟨w.heap.size, 2, none⟩) (show w.heap.size < w3.heap.size by omega)).trans q2
        have z5 := (Hbl.out.cell (p := ⟨w.heap.size, 5, none⟩) (show w.heap.size < w3.heap.size by omega)).trans q5
        have z6 := (Hbl.out.cell (p := ⟨w.heap.size, 6, none⟩) (show w.heap.size < w3.heap.size by omega)).trans q6
        clear q1 q2 q5 q6 q7 q8
        by_cases c6 : inB b.step 0 ((b.m.x.length : Int) - 1)
        ·have f6 := B_t c6
         have C6 := Lib.hid c6
         clear c6
         by_cases c7 : isCallP b.call
         all_goals
          first | have f7 := B_t c7 | have f7 := B_f c7
          have C7 := Lib.hid c7
          clear c7
          go_wp2_with (first | (go_at_call 99; refine (l1In_any _ _ _ _).mono ?_; rintro e w' ⟨rfl, rfl⟩) | (go_at_call 124; refine (l24Call_any _ _).mono ?_; rintro e w' ⟨rfl, rfl⟩))
          go_ret
          first
           | exact ⟨ret_t ⟨C1.out, C6.out, C7.out, ⟨C3.out, C2.out⟩, C5.out, fun i hi => Hq.out i hi hi⟩, hww.out⟩
           | exact ⟨ret_f (fun h => C7.out h.2.2.1), hww.out⟩
           | exact ⟨by show Ending.returned (Value.bool (B (isCallP b.call))) = Ending.returned (Value.bool (B (bandP b))); rw [B_t C7.out, B_t (show bandP b from ⟨C1.out, C6.out, C7.out, ⟨C3.out, C2.out⟩, C5.out, fun i hi => Hq.out i hi hi⟩)], hww.out⟩
           | exact ⟨by show Ending.returned (Value.bool (B (isCallP b.call))) = Ending.returned (Value.bool (B (bandP b))); rw [B_f C7.out, B_f (fun h : bandP b => C7.out h.2.2.1)], hww.out⟩
        ·have f6 := B_f c6
         have C6 := Lib.hid c6
         clear c6
         go_wp2_with (first | (go_at_call 99; refine (l1In_any _ _ _ _).mono ?_; rintro e w' ⟨rfl, rfl⟩) | (go_at_call 124; refine (l24Call_any _ _).mono ?_; rintro e w' ⟨rfl, rfl⟩))
         go_ret
         exact ⟨ret_f (fun h => C6.out h.2.1), hww.out⟩
     ·go_enter Tryz.func68, Tryz.ntmps68
      go_wp2_with (first | (go_at_call 60; refine (l4Good_any b.m _ h2.out hnm hcl Hs.out).mono ?_; rintro e w1 ⟨rfl, hb1⟩; have hw1 := hb0.out.trans (hb1.mono hb0.out.size); have hws : w.heap.size < w1.heap.size := (Nat.lt_of_lt_of_le (by simp) hb1.size); have q0 := (hb1.cell (p := ⟨w.heap.size, 0, none⟩) (by simp)).trans (show _ = some _ from by simp [go_sem]; rfl); have q1 := (hb1.cell (p := ⟨w.heap.size, 1, none⟩) (by simp)).trans (show _ = some _ from by simp [go_sem]; rfl); have q2 := (hb1.cell (p := ⟨w.heap.size, 2, none⟩) (by simp)).trans (show _ = some _ from by simp [go_sem]; rfl); have q3 := (hb1.cell (p := ⟨w.heap.size, 3, none⟩) (by simp)).trans (show _ = some _ from by simp [go_sem]; rfl); have q4 := (hb1.cell (p := ⟨w.heap.size, 4, none⟩) (by simp)).trans (show _ = some _ from by simp [go_sem]; rfl); have q5 := (hb1.cell (p := ⟨w.heap.size, 5, none⟩) (by simp)).trans (show _ = some _ from by simp [go_sem]; rfl); have q6 := (hb1.cell (p := ⟨w.heap.size, 6, none⟩) (by simp)).trans (show _ = some _ from by simp [go_sem]; rfl); have q7 := (hb1.cell (p := ⟨w.heap.size, 7, none⟩) (by simp)).trans (show _ = some _ from by simp [go_sem]; rfl); have q8 := (hb1.cell (p := ⟨w.heap.size, 8, none⟩) (by simp)).trans (show _ = some _ from by simp [go_sem]; rfl)) | (go_at_call 61; refine (sGoodCalls_any b.m b.bob b.sing _ ((H1.out.below hw1 (Nat.le_refl _)).more hw1.size) hnm hcl Hs.out hbs hss).mono ?_; rintro e w2 ⟨rfl, hb2⟩; have q1 := (hb2.cell (p := ⟨w.heap.size, 1, none⟩) (by omega)).trans q1; have q2 := (hb2.cell (p := ⟨w.heap.size, 2, none⟩) (by omega)).trans q2; have q5 := (hb2.cell (p := ⟨w.heap.size, 5, none⟩) (by omega)).trans q5; have q6 := (hb2.cell (p := ⟨w.heap.size, 6, none⟩) (by omega)).trans q6; have q7 := (hb2.cell (p := ⟨w.heap.size, 7, none⟩) (by omega)).trans q7; have q8 := (hb2.cell (p := ⟨w.heap.size, 8, none⟩) (by omega)).trans q8; have hw1 := hw1.trans (hb2.mono hw1.size); have hws := Nat.lt_of_lt_of_le hws hb2.size) | (go_at_call 123; (refine (l1Row_any b.tru _).mono ?_; rintro e w3 ⟨rfl, nn, hwn⟩; have hb3 : Below w2.heap.size w2 w3 := (by rw [hwn]; exact below_drewN (Below.refl _ _) _); clear hwn; have q1 := (hb3.cell (p := ⟨w.heap.size, 1, none⟩) (by omega)).trans q1; have q2 := (hb3.cell (p := ⟨w.heap.size, 2, none⟩) (by omega)).trans q2; have q5 := (hb3.cell (p := ⟨w.heap.size, 5, none⟩) (by omega)).trans q5; have q6 := (hb3.cell (p := ⟨w.heap.size, 6, none⟩) (by omega)).trans q6; have q7 := (hb3.cell (p := ⟨w.heap.size, 7, none⟩) (by omega)).trans q7; have q8 := (hb3.cell (p := ⟨w.heap.size, 8, none⟩) (by omega)).trans q8; have hw1 := hw1.trans (hb3.mono hw1.size); have hws := Nat.lt_of_lt_of_le hws hb3.size)) | (go_at_call 99; refine (l1In_any _ _ _ _).mono ?_; rintro e w' ⟨rfl, rfl⟩) | (go_at_call 124; refine (l24Call_any _ _).mono ?_; rintro e w' ⟨rfl, rfl⟩))
      go_ret
      exact ⟨ret_f (fun h => c5 h.2.2.2.2.1), hw1⟩
    ·go_enter Tryz.func68, Tryz.ntmps68
     go_wp2_with (first | (go_at_call 60; refine (l4Good_any b.m _ h2.out hnm hcl Hs.out).mono ?_; rintro e w1 ⟨rfl, hb1⟩; have hw1 := hb0.out.trans (hb1.mono hb0.out.size); have hws : w.heap.size < w1.heap.size := (Nat.lt_of_lt_of_le (by simp) hb1.size); have q0 := (hb1.cell (p := ⟨w.heap.size, 0, none⟩) (by simp)).trans (show _ = some _ from by simp [go_sem]; rfl); have q1 := (hb1.cell (p := ⟨w.heap.size, 1, none⟩) (by simp)).trans (show _ = some _ from by simp [go_sem]; rfl); have q2 := (hb1.cell (p := ⟨w.heap.size, 2, none⟩) (by simp)).trans (show _ = some _ from by simp [go_sem]; rfl); have q3 := (hb1.cell (p := ⟨w.heap.size, 3, none⟩) (by simp)).trans (show _ = some _ from by simp [go_sem]; rfl); have q4 := (hb1.cell (p := ⟨w.heap.size, 4, none⟩) (by simp)).trans (show _ = some _ from by simp [go_sem]; rfl); have q5 := (hb1.cell (p := ⟨w.heap.size, 5, none⟩) (by simp)).trans (show _ = some _ from by simp [go_sem]; rfl); have q6 := (hb1.cell (p := ⟨w.heap.size, 6, none⟩) (by simp)).trans (show _ = some _ from by simp [go_sem]; rfl); have q7 := (hb1.cell (p := ⟨w.heap.size, 7, none⟩) (by simp)).trans (show _ = some _ from by simp [go_sem]; rfl); have q8 := (hb1.cell (p := ⟨w.heap.size, 8, none⟩) (by simp)).trans (show _ = some _ from by simp [go_sem]; rfl)) | (go_at_call 61; refine (sGoodCalls_any b.m b.bob b.sing _ ((H1.out.below hw1 (Nat.le_refl _)).more hw1.size) hnm hcl Hs.out hbs hss).mono ?_; rintro e w2 ⟨rfl, hb2⟩; have q1 := (hb2.cell (p := ⟨w.heap.size, 1, none⟩) (by omega)).trans q1; have q2 := (hb2.cell (p := ⟨w.heap.size, 2, none⟩) (by omega)).trans q2; have q5 := (hb2.cell (p := ⟨w.heap.size, 5, none⟩) (by omega)).trans q5; have q6 := (hb2.cell (p := ⟨w.heap.size, 6, none⟩) (by omega)).trans q6; have q7 := (hb2.cell (p := ⟨w.heap.size, 7, none⟩) (by omega)).trans q7; have q8 := (hb2.cell (p := ⟨w.heap.size, 8, none⟩) (by omega)).trans q8; have hw1 := hw1.trans (hb2.mono hw1.size); have hws := Nat.lt_of_lt_of_le hws hb2.size) | (go_at_call 123; (refine (l1Row_any b.tru _).mono ?_; rintro e w3 ⟨rfl, nn, hwn⟩; have hb3 : Below w2.heap.size w2 w3 := (by rw [hwn]; exact below_drewN (Below.refl _ _) _); clear hwn; have q1 := (hb3.cell (p := ⟨w.heap.size, 1, none⟩) (by omega)).trans q1; have q2 := (hb3.cell (p := ⟨w.heap.size, 2, none⟩) (by omega)).trans q2; have q5 := (hb3.cell (p := ⟨w.heap.size, 5, none⟩) (by omega)).trans q5; have q6 := (hb3.cell (p := ⟨w.heap.size, 6, none⟩) (by omega)).trans q6; have q7 := (hb3.cell (p := ⟨w.heap.size, 7, none⟩) (by omega)).trans q7; have q8 := (hb3.cell (p := ⟨w.heap.size, 8, none⟩) (by omega)).trans q8; have hw1 := hw1.trans (hb3.mono hw1.size); have hws := Nat.lt_of_lt_of_le hws hb3.size)) | (go_at_call 99; refine (l1In_any _ _ _ _).mono ?_; rintro e w' ⟨rfl, rfl⟩) | (go_at_call 124; refine (l24Call_any _ _).mono ?_; rintro e w' ⟨rfl, rfl⟩))
     go_ret
     exact ⟨ret_f (fun h => c3 h.2.2.2.1.1), hw1⟩
   ·have e2 := B_f c2
    have C2 := Lib.hid c2
    clear c2
    go_enter Tryz.func68, Tryz.ntmps68
    go_wp2_with (first | (go_at_call 60; refine (l4Good_any b.m _ h2.out hnm hcl Hs.out).mono ?_; rintro e w1 ⟨rfl, hb1⟩; have hw1 := hb0.out.trans (hb1.mono hb0.out.size); have hws : w.heap.size < w1.heap.size := (Nat.lt_of_lt_of_le (by simp) hb1.size); have q0 := (hb1.cell (p := ⟨w.heap.size, 0, none⟩) (by simp)).trans (show _ = some _ from by simp [go_sem]; rfl); have q1 := (hb1.cell (p := ⟨w.heap.size, 1, none⟩) (by simp)).trans (show _ = some _ from by simp [go_sem]; rfl); have q2 := (hb1.cell (p := ⟨w.heap.size, 2, none⟩) (by simp)).trans (show _ = some _ from by simp [go_sem]; rfl); have q3 := (hb1.cell (p := ⟨w.heap.size, 3, none⟩) (by simp)).trans (show _ = some _ from by simp [go_sem]; rfl); have q4 := (hb1.cell (p := ⟨w.heap.size, 4, none⟩) (by simp)).trans (show _ = some _ from by simp [go_sem]; rfl); have q5 := (hb1.cell (p := ⟨w.heap.size, 5, none⟩) (by simp)).trans (show _ = some _ from by simp [go_sem]; rfl); have q6 := (hb1.cell (p := ⟨w.heap.size, 6, none⟩) (by simp)).trans (show _ = some _ from by simp [go_sem]; rfl); have q7 := (hb1.cell (p := ⟨w.heap.size, 7, none⟩) (by simp)).trans (show _ = some _ from by simp [go_sem]; rfl); have q8 := (hb1.cell (p := ⟨w.heap.size, 8, none⟩) (by simp)).trans (show _ = some _ from by simp [go_sem]; rfl)) | (go_at_call 61; refine (sGoodCalls_any b.m b.bob b.sing _ ((H1.out.below hw1 (Nat.le_refl _)).more hw1.size) hnm hcl Hs.out hbs hss).mono ?_; rintro e w2 ⟨rfl, hb2⟩; have q1 := (hb2.cell (p := ⟨w.heap.size, 1, none⟩) (by omega)).trans q1; have q2 := (hb2.cell (p := ⟨w.heap.size, 2, none⟩) (by omega)).trans q2; have q5 := (hb2.cell (p := ⟨w.heap.size, 5, none⟩) (by omega)).trans q5; have q6 := (hb2.cell (p := ⟨w.heap.size, 6, none⟩) (by omega)).trans q6; have q7 := (hb2.cell (p := ⟨w.heap.size, 7, none⟩) (by omega)).trans q7; have q8 := (hb2.cell (p := ⟨w.heap.size, 8, none⟩) (by omega)).trans q8; have hw1 := hw1.trans (hb2.mono hw1.size); have hws := Nat.lt_of_lt_of_le hws hb2.size) | (go_at_call 123; (refine (l1Row_any b.tru _).mono ?_; rintro e w3 ⟨rfl, nn, hwn⟩; have hb3 : Below w2.heap.size w2 w3 := (by rw [hwn]; exact below_drewN (Below.refl _ _) _); clear hwn; have q1 := (hb3.cell (p := ⟨w.heap.size, 1, none⟩) (by omega)).trans q1; have q2 := (hb3.cell (p := ⟨w.heap.size, 2, none⟩) (by omega)).trans q2; have q5 := (hb3.cell (p := ⟨w.heap.size, 5, none⟩) (by omega)).trans q5; have q6 := (hb3.cell (p := ⟨w.heap.size, 6, none⟩) (by omega)).trans q6; have q7 := (hb3.cell (p := ⟨w.heap.size, 7, none⟩) (by omega)).trans q7; have q8 := (hb3.cell (p := ⟨w.heap.size, 8, none⟩) (by omega)).trans q8; have hw1 := hw1.trans (hb3.mono hw1.size); have hws := Nat.lt_of_lt_of_le hws hb3.size)) | (go_at_call 99; refine (l1In_any _ _ _ _).mono ?_; rintro e w' ⟨rfl, rfl⟩) | (go_at_call 124; refine (l24Call_any _ _).mono ?_; rintro e w' ⟨rfl, rfl⟩))
    go_ret
    exact ⟨ret_f (fun h => C2.out h.2.2.2.1.2), hw1⟩
  ·have e1 := B_f c1
   have C1 := Lib.hid c1
   clear c1
   go_enter Tryz.func68, Tryz.ntmps68
   go_wp2_with (first | (go_at_call 60; refine (l4Good_any b.m _ h2.out hnm hcl Hs.out).mono ?_; rintro e w1 ⟨rfl, hb1⟩; have hw1 := hb0.out.trans (hb1.mono hb0.out.size); have hws : w.heap.size < w1.heap.size := (Nat.lt_of_lt_of_le (by simp) hb1.size); have q0 := (hb1.cell (p := ⟨w.heap.size, 0, none⟩) (by simp)).trans (show _ = some _ from by simp [go_sem]; rfl); have q1 := (hb1.cell (p := ⟨w.heap.size, 1, none⟩) (by simp)).trans (show _ = some _ from by simp [go_sem]; rfl); have q2 := (hb1.cell (p := ⟨w.heap.size, 2, none⟩) (by simp)).trans (show _ = some _ from by simp [go_sem]; rfl); have q3 := (hb1.cell (p := ⟨w.heap.size, 3, none⟩) (by simp)).trans (show _ = some _ from by simp [go_sem]; rfl); have q4 := (hb1.cell (p := ⟨w.heap.size, 4, none⟩) (by simp)).trans (show _ = some _ from by simp [go_sem]; rfl); have q5 := (hb1.cell (p := ⟨w.heap.size, 5, none⟩) (by simp)).trans (show _ = some _ from by simp [go_sem]; rfl); have q6 := (hb1.cell (p := ⟨w.heap.size, 6, none⟩) (by simp)).trans (show _ = some _ from by simp [go_sem]; rfl); have q7 := (hb1.cell (p := ⟨w.heap.size, 7, none⟩) (by simp)).trans (show _ = some _ from by simp [go_sem]; rfl); have q8 := (hb1.cell (p := ⟨w.heap.size, 8, none⟩) (by simp)).trans (show _ = some _ from by simp [go_sem]; rfl)) | (go_at_call 61; refine (sGoodCalls_any b.m b.bob b.sing _ ((H1.out.below hw1 (Nat.le_refl _)).more hw1.size) hnm hcl Hs.out hbs hss).mono ?_; rintro e w2 ⟨rfl, hb2⟩; have q1 := (hb2.cell (p := ⟨w.heap.size, 1, none⟩) (by omega)).trans q1; have q2 := (hb2.cell (p := ⟨w.heap.size, 2, none⟩) (by omega)).trans q2; have q5 := (hb2.cell (p := ⟨w.heap.size, 5, none⟩) (by omega)).trans q5; have q6 := (hb2.cell (p := ⟨w.heap.size, 6, none⟩) (by omega)).trans q6; have q7 := (hb2.cell (p := ⟨w.heap.size, 7, none⟩) (by omega)).trans q7; have q8 := (hb2.cell (p := ⟨w.heap.size, 8, none⟩) (by omega)).trans q8; have hw1 := hw1.trans (hb2.mono hw1.size); have hws := Nat.lt_of_lt_of_le hws hb2.size) | (go_at_call 123; (refine (l1Row_any b.tru _).mono ?_; rintro e w3 ⟨rfl, nn, hwn⟩; have hb3 : Below w2.heap.size w2 w3 := (by rw [hwn]; exact below_drewN (Below.refl _ _) _); clear hwn; have q1 := (hb3.cell (p := ⟨w.heap.size, 1, none⟩) (by omega)).trans q1; have q2 := (hb3.cell (p := ⟨w.heap.size, 2, none⟩) (by omega)).trans q2; have q5 := (hb3.cell (p := ⟨w.heap.size, 5, none⟩) (by omega)).trans q5; have q6 := (hb3.cell (p := ⟨w.heap.size, 6, none⟩) (by omega)).trans q6; have q7 := (hb3.cell (p := ⟨w.heap.size, 7, none⟩) (by omega)).trans q7; have q8 := (hb3.cell (p := ⟨w.heap.size, 8, none⟩) (by omega)).trans q8; have hw1 := hw1.trans (hb3.mono hw1.size); have hws := Nat.lt_of_lt_of_le hws hb3.size)) | (go_at_call 99; refine (l1In_any _ _ _ _).mono ?_; rintro e w' ⟨rfl, rfl⟩) | (go_at_call 124; refine (l24Call_any _ _).mono ?_; rintro e w' ⟨rfl, rfl⟩))
   go_ret
   exact ⟨ret_f (fun h => C1.out h.1), hw1⟩
 ·have e0 := B_f c0
  have C0 := Lib.hid c0
  clear c0
  go_enter Tryz.func68, Tryz.ntmps68
  go_wp2_with (first | (go_at_call 60; refine (l4Good_any b.m _ h2.out hnm hcl Hs.out).mono ?_; rintro e w1 ⟨rfl, hb1⟩; have hw1 := hb0.out.trans (hb1.mono hb0.out.size); have hws : w.heap.size < w1.heap.size := (Nat.lt_of_lt_of_le (by simp) hb1.size); have q0 := (hb1.cell (p := ⟨w.heap.size, 0, none⟩) (by simp)).trans (show _ = some _ from by simp [go_sem]; rfl); have q1 := (hb1.cell (p := ⟨w.heap.size, 1, none⟩) (by simp)).trans (show _ = some _ from by simp [go_sem]; rfl); have q2 := (hb1.cell (p := ⟨w.heap.size, 2, none⟩) (by simp)).trans (show _ = some _ from by simp [go_sem]; rfl); have q3 := (hb1.cell (p := ⟨w.heap.size, 3, none⟩) (by simp)).trans (show _ = some _ from by simp [go_sem]; rfl); have q4 := (hb1.cell (p := ⟨w.heap.size, 4, none⟩) (by simp)).trans (show _ = some _ from by simp [go_sem]; rfl); have q5 := (hb1.cell (p := ⟨w.heap.size, 5, none⟩) (by simp)).trans (show _ = some _ from by simp [go_sem]; rfl); have q6 := (hb1.cell (p := ⟨w.heap.size, 6, none⟩) (by simp)).trans (show _ = some _ from by simp [go_sem]; rfl); have q7 := (hb1.cell (p := ⟨w.heap.size, 7, none⟩) (by simp)).trans (show _ = some _ from by simp [go_sem]; rfl); have q8 := (hb1.cell (p := ⟨w.heap.size, 8, none⟩) (by simp)).trans (show _ = some _ from by simp [go_sem]; rfl)) | (go_at_call 61; refine (sGoodCalls_any b.m b.bob b.sing _ ((H1.out.below hw1 (Nat.le_refl _)).more hw1.size) hnm hcl Hs.out hbs hss).mono ?_; rintro e w2 ⟨rfl, hb2⟩; have q1 := (hb2.cell (p := ⟨w.heap.size, 1, none⟩) (by omega)).trans q1; have q2 := (hb2.cell (p := ⟨w.heap.size, 2, none⟩) (by omega)).trans q2; have q5 := (hb2.cell (p := ⟨w.heap.size, 5, none⟩) (by omega)).trans q5; have q6 := (hb2.cell (p := ⟨w.heap.size, 6, none⟩) (by omega)).trans q6; have q7 := (hb2.cell (p := ⟨w.heap.size, 7, none⟩) (by omega)).trans q7; have q8 := (hb2.cell (p := ⟨w.heap.size, 8, none⟩) (by omega)).trans q8; have hw1 := hw1.trans (hb2.mono hw1.size); have hws := Nat.lt_of_lt_of_le hws hb2.size) | (go_at_call 123; (refine (l1Row_any b.tru _).mono ?_; rintro e w3 ⟨rfl, nn, hwn⟩; have hb3 : Below w2.heap.size w2 w3 := (by rw [hwn]; exact below_drewN (Below.refl _ _) _); clear hwn; have q1 := (hb3.cell (p := ⟨w.heap.size, 1, none⟩) (by omega)).trans q1; have q2 := (hb3.cell (p := ⟨w.heap.size, 2, none⟩) (by omega)).trans q2; have q5 := (hb3.cell (p := ⟨w.heap.size, 5, none⟩) (by omega)).trans q5; have q6 := (hb3.cell (p := ⟨w.heap.size, 6, none⟩) (by omega)).trans q6; have q7 := (hb3.cell (p := ⟨w.heap.size, 7, none⟩) (by omega)).trans q7; have q8 := (hb3.cell (p := ⟨w.heap.size, 8, none⟩) (by omega)).trans q8; have hw1 := hw1.trans (hb3.mono hw1.size); have hws := Nat.lt_of_lt_of_le hws hb3.size)) | (go_at_call 99; refine (l1In_any _ _ _ _).mono ?_; rintro e w' ⟨rfl, rfl⟩) | (go_at_call 124; refine (l24Call_any _ _).mono ?_; rintro e w' ⟨rfl, rfl⟩))
  go_ret
  exact ⟨ret_f (fun h => C0.out h.1.1), hw1⟩
end Go.Proofs.YtkegbbndmfnolaaGreatDoor

/-
 Contracts of the helper functions that the laws use for methods, calls and bands.
-/
namespace Go.Proofs.YtkegbbndmfnolaaGreatDoor
open Go.RowKit Go.ChangeShapes Go.WideShapes Go.Deep
set_option linter.unusedVariables false
set_option linter.unusedSimpArgs false
set_option maxRecDepth 100000

theorem sBand_any (b : Bnd) (w : World) (h : b.Ok w) :
  Calls Tryz.prog 23 #[.agg #[.string b.m.name, .int .i64 b.m.stage, .slice b.m.A b.m.x.length b.m.c, .string b.bob, .string b.sing, .int .i64 b.step, .string b.call, .string b.tru, .slice b.RA b.rx.length b.rc]] w fun e w' => e = .returned (.bool (B (bandP b))) ∧ Below w.heap.size w w' := by
 have hb0 : Hid (Below w.heap.size w (w.alloc (.cells #[.string b.m.name, .int .i64 b.m.stage, .slice b.m.A b.m.x.length b.m.c, .string b.bob, .string b.sing, .int .i64 b.step, .string b.call, .string b.tru, .slice b.RA b.rx.length b.rc] 36))) := Lib.hid ((Below.refl _ _).alloc (Nat.le_refl _) _)
 have h2 : Hid (b.Ok (w.alloc (.cells #[.string b.m.name, .int .i64 b.m.stage, .slice b.m.A b.m.x.length b.m.c, .string b.bob, .string b.sing, .int .i64 b.step, .string b.call, .string b.tru, .slice b.RA b.rx.length b.rc] 36))) :=
  Lib.hid ⟨(h.ch.below hb0.out (Nat.le_refl _)).more hb0.out.size, (h.ri.below hb0.out (Nat.le_refl _)).more hb0.out.size, h.nm, h.cl, h.cs, h.bs, h.ss, h.ks, h.ts, h.rl⟩
 clear h
 go_enter Tryz.func23, Tryz.ntmps23
 go_wp2_with (go_at_call 68; refine (l24Good_any b _ h2.out).mono ?_; rintro e w1 ⟨rfl, hb1⟩)
 go_ret
 exact ⟨rfl, hb0.out.trans (hb1.mono hb0.out.size)⟩
/-- Sizes that the machine's integers hold. -/
structure Mth.Fits (m : Mth) : Prop where
 nm : (m.name.size : Int) ≤ 9223372036854775807
 cl : m.x.length ≤ 9223372036854775807
 cs : ∀ x ∈ m.x, String_small 9223372036854775807 x

/-- A band that the machine holds. -/
structure Bnd.Fits (b : Bnd) : Prop where
 me : b.m.Fits
 bs : (b.bob.size : Int) ≤ 9223372036854775807
 ss : (b.sing.size : Int) ≤ 9223372036854775807
 ks : (b.call.size : Int) ≤ 9223372036854775807
 ts : (b.tru.size : Int) ≤ 9223372036854775807
 rl : b.rx.length ≤ 9223372036854775807
/-- All sizes of a band are small. -/
def Bnd.Small (b : Bnd) (lim : Int) : Prop := (b.m.name.size : Int) ≤ lim ∧ (b.m.x.length : Int) ≤ lim ∧ (∀ x ∈ b.m.x, String_small lim x) ∧ (b.bob.size : Int) ≤ lim ∧ (b.sing.size : Int) ≤ lim ∧ (b.call.size : Int) ≤ lim ∧ (b.tru.size : Int) ≤ lim ∧ (b.rx.length : Int) ≤ lim


end Go.Proofs.YtkegbbndmfnolaaGreatDoor
