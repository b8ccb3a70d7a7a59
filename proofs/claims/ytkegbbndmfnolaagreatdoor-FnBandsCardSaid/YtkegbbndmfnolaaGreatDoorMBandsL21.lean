import Derived.Test.YtkegbbndmfnolaaGreatDoorMBandsL18
import Derived.Test.YtkegbbndmfnolaaGreatDoorMBandsL20
/-
 DoBand: contracts of both sides.
-/
namespace Go.Proofs.YtkegbbndmfnolaaGreatDoor
open Go.RowKit
set_option linter.unusedVariables false
set_option linter.unusedSimpArgs false
set_option maxRecDepth 100000

theorem doR_no2 {b : Bnd} {kd bl yy : Int} {cl : ByteArray} (h : (doR b kd bl yy cl).2 = false) : doR b kd bl yy cl = (Bd.zero, false) := by
 unfold doR at h ⊢
 split at h
 ·cases h
 ·rename_i h1
  rw [if_neg h1]
  split at h
  ·cases h
  ·rename_i h2
   rw [if_neg h2]
   split at h
   ·rename_i h3; rw [if_pos h3]
   ·rename_i h3
    rw [if_neg h3]
    split at h
    ·cases h
    ·rename_i h4
     rw [if_neg h4]
     split at h
     ·cases h
     ·rename_i h5
      rw [if_neg h5]
      split at h
      ·cases h
      ·rename_i h6; rw [if_neg h6]













set_option maxHeartbeats 3200000 in
theorem iDoBand_any (b : Bnd) (kd bl yy : Int) (cl : ByteArray) (w : World) (h : b.Ok w) : Calls Tryz.prog 18 #[.agg #[.string b.m.name, .int .i64 b.m.stage, .slice b.m.A b.m.x.length b.m.c, .string b.bob, .string b.sing, .int .i64 b.step, .string b.call, .string b.tru, .slice b.RA b.rx.length b.rc], .agg #[.int .i64 kd, .int .i64 bl, .int .i64 yy, .string cl]] w fun e w' => BdRet (doBD b kd bl yy cl).1 (doBD b kd bl yy cl).2 w e w' := by
 by_cases c0 : bandP b
 ·have e0 := B_t c0
  have C0 := Lib.hid c0
  have hcl := h.cl
  have hD : Hid (doBD b kd bl yy cl = doR b kd bl yy cl) := Lib.hid (by unfold doBD; rw [if_pos c0])
  clear c0
  have hW : ∃ W : World, Hid ((((w.alloc (.cells #[.string b.m.name, .int .i64 b.m.stage, .slice b.m.A b.m.x.length b.m.c, .string b.bob, .string b.sing, .int .i64 b.step, .string b.call, .string b.tru, .slice b.RA b.rx.length b.rc] 36)).alloc (.cells #[.int .i64 kd, .int .i64 bl, .int .i64 yy, .string cl] 45)).alloc (.cells #[Value.string ⟨#[]⟩, .int .i64 0, .slice none 0 0, .string ⟨#[]⟩, .string ⟨#[]⟩, .int .i64 0, .string ⟨#[]⟩, .string ⟨#[]⟩, .slice none 0 0] 36)) = W) ∧ Hid (W.heap.size = w.heap.size + 3) ∧ Hid (Below w.heap.size w W) ∧ Hid (Cells W w.heap.size 9 (fun i => (#[Value.string b.m.name, .int .i64 b.m.stage, .slice b.m.A b.m.x.length b.m.c, .string b.bob, .string b.sing, .int .i64 b.step, .string b.call, .string b.tru, .slice b.RA b.rx.length b.rc] : Array Value).getD i undef)) ∧ Hid (Cells W (w.heap.size + 1) 4 (fun i => (#[Value.int .i64 kd, .int .i64 bl, .int .i64 yy, .string cl] : Array Value).getD i undef)) ∧ Hid (Cells W (w.heap.size + 1 + 1) 9 (fun i => (#[Value.string ⟨#[]⟩, .int .i64 0, .slice none 0 0, .string ⟨#[]⟩, .string ⟨#[]⟩, .int .i64 0, .string ⟨#[]⟩, .string ⟨#[]⟩, .slice none 0 0] : Array Value).getD i undef)) := by
   have z1 : w.heap.size + 1 = (w.alloc (.cells #[.string b.m.name, .int .i64 b.m.stage, .slice b.m.A b.m.x.length b.m.c, .string b.bob, .string b.sing, .int .i64 b.step, .string b.call, .string b.tru, .slice b.RA b.rx.length b.rc] 36)).heap.size := by simp
   have z2 : w.heap.size + 1 + 1 = ((w.alloc (.cells #[.string b.m.name, .int .i64 b.m.stage, .slice b.m.A b.m.x.length b.m.c, .string b.bob, .string b.sing, .int .i64 b.step, .string b.call, .string b.tru, .slice b.RA b.rx.length b.rc] 36)).alloc (.cells #[.int .i64 kd, .int .i64 bl, .int .i64 yy, .string cl] 45)).heap.size := by simp
   refine ⟨_, Lib.hid rfl, Lib.hid (by simp), Lib.hid ((((Below.refl _ _).alloc (Nat.le_refl _) _).alloc (by simp) _).alloc (by simp; omega) _), Lib.hid ?_, Lib.hid ?_, Lib.hid ?_⟩
   ·exact ((Cells.newD _ #[.string b.m.name, .int .i64 b.m.stage, .slice b.m.A b.m.x.length b.m.c, .string b.bob, .string b.sing, .int .i64 b.step, .string b.call, .string b.tru, .slice b.RA b.rx.length b.rc] _).alloc _).alloc _
   ·rw [z1]; exact (Cells.newD _ #[.int .i64 kd, .int .i64 bl, .int .i64 yy, .string cl] _).alloc _
   ·rw [z2]; exact Cells.newD _ #[Value.string ⟨#[]⟩, .int .i64 0, .slice none 0 0, .string ⟨#[]⟩, .string ⟨#[]⟩, .int .i64 0, .string ⟨#[]⟩, .string ⟨#[]⟩, .slice none 0 0] _
  obtain ⟨W, hWe, hWs, hWb, hB, hA, hZ⟩ := hW
  have hWs1 : w.heap.size + 3 ≤ W.heap.size := by have := hWs.out; omega
  have hok : Hid (b.Ok W) := Lib.hid (⟨(h.ch.below hWb.out (Nat.le_refl _)).more hWb.out.size, (h.ri.below hWb.out (Nat.le_refl _)).more hWb.out.size, h.nm, h.cl, h.cs, h.bs, h.ss, h.ks, h.ts, h.rl⟩)
  clear h
  have u0 : W.cell? ⟨w.heap.size, 0, none⟩ = some (.string b.m.name) := hB.out.cell (i := 0) (by omega); have u1 : W.cell? ⟨w.heap.size, 1, none⟩ = some (.int .i64 b.m.stage) := hB.out.cell (i := 1) (by omega); have u2 : W.cell? ⟨w.heap.size, 2, none⟩ = some (.slice b.m.A b.m.x.length b.m.c) := hB.out.cell (i := 2) (by omega); have u3 : W.cell? ⟨w.heap.size, 3, none⟩ = some (.string b.bob) := hB.out.cell (i := 3) (by omega); have u4 : W.cell? ⟨w.heap.size, 4, none⟩ = some (.string b.sing) := hB.out.cell (i := 4) (by omega); have u5 : W.cell? ⟨w.heap.size, 5, none⟩ = some (.int .i64 b.step) := hB.out.cell (i := 5) (by omega); have u6 : W.cell? ⟨w.heap.size, 6, none⟩ = some (.string b.call) := hB.out.cell (i := 6) (by omega); have u7 : W.cell? ⟨w.heap.size, 7, none⟩ = some (.string b.tru) := hB.out.cell (i := 7) (by omega); have u8 : W.cell? ⟨w.heap.size, 8, none⟩ = some (.slice b.RA b.rx.length b.rc) := hB.out.cell (i := 8) (by omega)
  go_enter Tryz.func18, Tryz.ntmps18
  go_wp2_with fail
  rw [hWe.out]
  clear hWe
  go_upto_region 3 with (go_at_call 16; refine (iBand_any b _ hok.out).mono ?_; rintro e w1 ⟨rfl, hb1⟩; have hBW : Hid (Below W.heap.size W w1) := Lib.hid hb1; clear u0 u1 u2 u3 u4 u5 u6 u7 u8; have u0 : w1.cell? ⟨w.heap.size, 0, none⟩ = some (.string b.m.name) := (hB.out.later hb1).cell (i := 0) (by omega); have u1 : w1.cell? ⟨w.heap.size, 1, none⟩ = some (.int .i64 b.m.stage) := (hB.out.later hb1).cell (i := 1) (by omega); have u2 : w1.cell? ⟨w.heap.size, 2, none⟩ = some (.slice b.m.A b.m.x.length b.m.c) := (hB.out.later hb1).cell (i := 2) (by omega); have u3 : w1.cell? ⟨w.heap.size, 3, none⟩ = some (.string b.bob) := (hB.out.later hb1).cell (i := 3) (by omega); have u4 : w1.cell? ⟨w.heap.size, 4, none⟩ = some (.string b.sing) := (hB.out.later hb1).cell (i := 4) (by omega); have u5 : w1.cell? ⟨w.heap.size, 5, none⟩ = some (.int .i64 b.step) := (hB.out.later hb1).cell (i := 5) (by omega); have u6 : w1.cell? ⟨w.heap.size, 6, none⟩ = some (.string b.call) := (hB.out.later hb1).cell (i := 6) (by omega); have u7 : w1.cell? ⟨w.heap.size, 7, none⟩ = some (.string b.tru) := (hB.out.later hb1).cell (i := 7) (by omega); have u8 : w1.cell? ⟨w.heap.size, 8, none⟩ = some (.slice b.RA b.rx.length b.rc) := (hB.out.later hb1).cell (i := 8) (by omega); have a0 : w1.cell? ⟨w.heap.size + 1, 0, none⟩ = some (.int .i64 kd) := (hA.out.later hb1).cell (i := 0) (by omega); have a1 : w1.cell? ⟨w.heap.size + 1, 1, none⟩ = some (.int .i64 bl) := (hA.out.later hb1).cell (i := 1) (by omega); have a2 : w1.cell? ⟨w.heap.size + 1, 2, none⟩ = some (.int .i64 yy) := (hA.out.later hb1).cell (i := 2) (by omega); have a3 : w1.cell? ⟨w.heap.size + 1, 3, none⟩ = some (.string cl) := (hA.out.later hb1).cell (i := 3) (by omega))
  obtain ⟨D, hd⟩ : ∃ D, Hid (doR b kd bl yy cl = D) := ⟨_, Lib.hid rfl⟩
  obtain ⟨d, ok⟩ := D
  rw [hd.out] at hD
  go_wp2_with (go_at_call 78; refine (done_any b kd bl yy cl _ ((hok.out.ch.below hBW.out (Nat.le_refl _)).more hBW.out.size) ((hok.out.ri.below hBW.out (Nat.le_refl _)).more hBW.out.size) hcl C0.out).mono ?_; rw [hd.out]; rintro e w2 hbd; obtain ⟨v2, rfl, hbd1, hb2'⟩ := hbd; obtain ⟨A1, c1, A3, c3, gs, rfl, hg1, hg2, ho1, ho3⟩ := hbd1; have HO1 := Lib.hid ho1; have HO3 := Lib.hid ho3; have hb2 := Lib.hid hb2'; clear ho1 ho3 hb2'; clear u0 u1 u2 u3 u4 u5 u6 u7 u8; clear a0 a1 a2 a3; have hCr := (hZ.out.later (hBW.out)).later hb2.out; have r0 := hCr.cell (i := 0) (by omega); have rf0 := hCr.free (i := 0) (by omega); have r1 := hCr.cell (i := 1) (by omega); have rf1 := hCr.free (i := 1) (by omega); have r2 := hCr.cell (i := 2) (by omega); have rf2 := hCr.free (i := 2) (by omega); have r3 := hCr.cell (i := 3) (by omega); have rf3 := hCr.free (i := 3) (by omega); have r4 := hCr.cell (i := 4) (by omega); have rf4 := hCr.free (i := 4) (by omega); have r5 := hCr.cell (i := 5) (by omega); have rf5 := hCr.free (i := 5) (by omega); have r6 := hCr.cell (i := 6) (by omega); have rf6 := hCr.free (i := 6) (by omega); have r7 := hCr.cell (i := 7) (by omega); have rf7 := hCr.free (i := 7) (by omega); have r8 := hCr.cell (i := 8) (by omega); have rf8 := hCr.free (i := 8) (by omega); clear hCr)
  have hsz := hb2.out.size
  have hWsz := hBW.out.size
  refine bodyPost_ret (v := .tuple #[.agg #[.string d.name, .int .i64 d.stage, .slice A1 d.x.length c1, .string d.bob, .string d.sing, .int .i64 d.step, .string d.call, .string d.tru, .slice A3 d.rx.length c3], .bool ok]) (by simp [results, Tryz.results18, go_sem, r0, r1, r2, r3, r4, r5, r6, r7, r8, rf0, rf1, rf2, rf3, rf4, rf5, rf6, rf7, rf8]) rfl ?_
  have kk : Chg (w.heap.size + 1 + 1) (w.heap.size + 1 + 1 + 1) w2 (setN w2 (w.heap.size + 1 + 1) 0 [.string d.name, .int .i64 d.stage, .slice A1 d.x.length c1, .string d.bob, .string d.sing, .int .i64 d.step, .string d.call, .string d.tru, .slice A3 d.rx.length c3]) := Chg.setN (Nat.le_refl _) (Nat.lt_succ_self _) _ (Chg.refl _ _ w2)
  have hO1 := (HO1.out.chg kk (.inr (by omega))).mono (show w.heap.size ≤ w1.heap.size by omega) (Nat.le_refl _)
  have hO3 := (HO3.out.chg kk (.inr (by omega))).mono (Nat.le_refl _) (Nat.le_trans (Nat.le_refl _) kk.size)
  have hBB := Below.chg ((hWb.out.trans (hBW.out.mono hWb.out.size)).trans (hb2.out.mono (by omega))) kk (by omega) (by omega)
  have hks := Nat.le_trans (Nat.le_refl _) kk.size
  refine ⟨_, by rw [hD.out], ?_, hBB⟩
  rw [hD.out]
  exact ⟨A1, c1, A3, c3, gs, rfl, by omega, Nat.le_trans hg2 hks, hO1, hO3⟩
 ·have e0 := B_f c0
  have hD : Hid (doBD b kd bl yy cl = (Bd.zero, false)) := Lib.hid (by unfold doBD; rw [if_neg c0])
  clear c0
  have hW : ∃ W : World, Hid ((((w.alloc (.cells #[.string b.m.name, .int .i64 b.m.stage, .slice b.m.A b.m.x.length b.m.c, .string b.bob, .string b.sing, .int .i64 b.step, .string b.call, .string b.tru, .slice b.RA b.rx.length b.rc] 36)).alloc (.cells #[.int .i64 kd, .int .i64 bl, .int .i64 yy, .string cl] 45)).alloc (.cells #[Value.string ⟨#[]⟩, .int .i64 0, .slice none 0 0, .string ⟨#[]⟩, .string ⟨#[]⟩, .int .i64 0, .string ⟨#[]⟩, .string ⟨#[]⟩, .slice none 0 0] 36)) = W) ∧ Hid (W.heap.size = w.heap.size + 3) ∧ Hid (Below w.heap.size w W) ∧ Hid (Cells W w.heap.size 9 (fun i => (#[Value.string b.m.name, .int .i64 b.m.stage, .slice b.m.A b.m.x.length b.m.c, .string b.bob, .string b.sing, .int .i64 b.step, .string b.call, .string b.tru, .slice b.RA b.rx.length b.rc] : Array Value).getD i undef)) ∧ Hid (Cells W (w.heap.size + 1) 4 (fun i => (#[Value.int .i64 kd, .int .i64 bl, .int .i64 yy, .string cl] : Array Value).getD i undef)) ∧ Hid (Cells W (w.heap.size + 1 + 1) 9 (fun i => (#[Value.string ⟨#[]⟩, .int .i64 0, .slice none 0 0, .string ⟨#[]⟩, .string ⟨#[]⟩, .int .i64 0, .string ⟨#[]⟩, .string ⟨#[]⟩, .slice none 0 0] : Array Value).getD i undef)) := by
   have z1 : w.heap.size + 1 = (w.alloc (.cells #[.string b.m.name, .int .i64 b.m.stage, .slice b.m.A b.m.x.length b.m.c, .string b.bob, .string b.sing, .int .i64 b.step, .string b.call, .string b.tru, .slice b.RA b.rx.length b.rc] 36)).heap.size := by simp
   have z2 : w.heap.size + 1 + 1 = ((w.alloc (.cells #[.string b.m.name, .int .i64 b.m.stage, .slice b.m.A b.m.x.length b.m.c, .string b.bob, .string b.sing, .int .i64 b.step, .string b.call, .string b.tru, .slice b.RA b.rx.length b.rc] 36)).alloc (.cells #[.int .i64 kd, .int .i64 bl, .int .i64 yy, .string cl] 45)).heap.size := by simp
   refine ⟨_, Lib.hid rfl, Lib.hid (by simp), Lib.hid ((((Below.refl _ _).alloc (Nat.le_refl _) _).alloc (by simp) _).alloc (by simp; omega) _), Lib.hid ?_, Lib.hid ?_, Lib.hid ?_⟩
   ·exact ((Cells.newD _ #[.string b.m.name, .int .i64 b.m.stage, .slice b.m.A b.m.x.length b.m.c, .string b.bob, .string b.sing, .int .i64 b.step, .string b.call, .string b.tru, .slice b.RA b.rx.length b.rc] _).alloc _).alloc _
   ·rw [z1]; exact (Cells.newD _ #[.int .i64 kd, .int .i64 bl, .int .i64 yy, .string cl] _).alloc _
   ·rw [z2]; exact Cells.newD _ #[Value.string ⟨#[]⟩, .int .i64 0, .slice none 0 0, .string ⟨#[]⟩, .string ⟨#[]⟩, .int .i64 0, .string ⟨#[]⟩, .string ⟨#[]⟩, .slice none 0 0] _
  obtain ⟨W, hWe, hWs, hWb, hB, hA, hZ⟩ := hW
  have hWs1 : w.heap.size + 3 ≤ W.heap.size := by have := hWs.out; omega
  have hok : Hid (b.Ok W) := Lib.hid (⟨(h.ch.below hWb.out (Nat.le_refl _)).more hWb.out.size, (h.ri.below hWb.out (Nat.le_refl _)).more hWb.out.size, h.nm, h.cl, h.cs, h.bs, h.ss, h.ks, h.ts, h.rl⟩)
  clear h
  have u0 : W.cell? ⟨w.heap.size, 0, none⟩ = some (.string b.m.name) := hB.out.cell (i := 0) (by omega); have u1 : W.cell? ⟨w.heap.size, 1, none⟩ = some (.int .i64 b.m.stage) := hB.out.cell (i := 1) (by omega); have u2 : W.cell? ⟨w.heap.size, 2, none⟩ = some (.slice b.m.A b.m.x.length b.m.c) := hB.out.cell (i := 2) (by omega); have u3 : W.cell? ⟨w.heap.size, 3, none⟩ = some (.string b.bob) := hB.out.cell (i := 3) (by omega); have u4 : W.cell? ⟨w.heap.size, 4, none⟩ = some (.string b.sing) := hB.out.cell (i := 4) (by omega); have u5 : W.cell? ⟨w.heap.size, 5, none⟩ = some (.int .i64 b.step) := hB.out.cell (i := 5) (by omega); have u6 : W.cell? ⟨w.heap.size, 6, none⟩ = some (.string b.call) := hB.out.cell (i := 6) (by omega); have u7 : W.cell? ⟨w.heap.size, 7, none⟩ = some (.string b.tru) := hB.out.cell (i := 7) (by omega); have u8 : W.cell? ⟨w.heap.size, 8, none⟩ = some (.slice b.RA b.rx.length b.rc) := hB.out.cell (i := 8) (by omega)
  go_enter Tryz.func18, Tryz.ntmps18
  go_wp2_with fail
  rw [hWe.out]
  clear hWe
  go_wp2_with (go_at_call 16; refine (iBand_any b _ hok.out).mono ?_; rintro e w1 ⟨rfl, hb1⟩; have hBW : Hid (Below W.heap.size W w1) := Lib.hid hb1; clear u0 u1 u2 u3 u4 u5 u6 u7 u8; have hCr := hZ.out.later hBW.out; have r0 := hCr.cell (i := 0) (by omega); have rf0 := hCr.free (i := 0) (by omega); have r1 := hCr.cell (i := 1) (by omega); have rf1 := hCr.free (i := 1) (by omega); have r2 := hCr.cell (i := 2) (by omega); have rf2 := hCr.free (i := 2) (by omega); have r3 := hCr.cell (i := 3) (by omega); have rf3 := hCr.free (i := 3) (by omega); have r4 := hCr.cell (i := 4) (by omega); have rf4 := hCr.free (i := 4) (by omega); have r5 := hCr.cell (i := 5) (by omega); have rf5 := hCr.free (i := 5) (by omega); have r6 := hCr.cell (i := 6) (by omega); have rf6 := hCr.free (i := 6) (by omega); have r7 := hCr.cell (i := 7) (by omega); have rf7 := hCr.free (i := 7) (by omega); have r8 := hCr.cell (i := 8) (by omega); have rf8 := hCr.free (i := 8) (by omega); clear hCr)
  refine bodyPost_ret (v := .tuple #[.agg #[Value.string ⟨#[]⟩, .int .i64 0, .slice none 0 0, .string ⟨#[]⟩, .string ⟨#[]⟩, .int .i64 0, .string ⟨#[]⟩, .string ⟨#[]⟩, .slice none 0 0], .bool false]) (by simp [results, Tryz.results18, go_sem, r0, r1, r2, r3, r4, r5, r6, r7, r8, rf0, rf1, rf2, rf3, rf4, rf5, rf6, rf7, rf8]) rfl ?_
  have kk : Chg (w.heap.size + 1 + 1) (w.heap.size + 1 + 1 + 1) w1 (setN w1 (w.heap.size + 1 + 1) 0 [Value.string ⟨#[]⟩, .int .i64 0, .slice none 0 0, .string ⟨#[]⟩, .string ⟨#[]⟩, .int .i64 0, .string ⟨#[]⟩, .string ⟨#[]⟩, .slice none 0 0]) := Chg.setN (Nat.le_refl _) (Nat.lt_succ_self _) _ (Chg.refl _ _ w1)
  have hBB := Below.chg (hWb.out.trans (hBW.out.mono hWb.out.size)) kk (by omega) (by have := hWb.out.size; have := hBW.out.size; omega)
  exact ⟨_, by rw [hD.out], by rw [hD.out]; exact BdAt.zero _ _ _ hBB.size, hBB⟩
set_option maxHeartbeats 3200000 in
theorem sDoBand_any (b : Bnd) (kd bl yy : Int) (cl : ByteArray) (w : World) (h : b.Ok w) : Calls Tryz.prog 19 #[.agg #[.string b.m.name, .int .i64 b.m.stage, .slice b.m.A b.m.x.length b.m.c, .string b.bob, .string b.sing, .int .i64 b.step, .string b.call, .string b.tru, .slice b.RA b.rx.length b.rc], .agg #[.int .i64 kd, .int .i64 bl, .int .i64 yy, .string cl]] w fun e w' => BdRet (doBD b kd bl yy cl).1 (doBD b kd bl yy cl).2 w e w' := by
 by_cases c0 : bandP b
 ·have e0 := B_t c0
  have C0 := Lib.hid c0
  have hcl := h.cl
  have hD : Hid (doBD b kd bl yy cl = doR b kd bl yy cl) := Lib.hid (by unfold doBD; rw [if_pos c0])
  clear c0
  have hW : ∃ W : World, Hid ((((w.alloc (.cells #[.string b.m.name, .int .i64 b.m.stage, .slice b.m.A b.m.x.length b.m.c, .string b.bob, .string b.sing, .int .i64 b.step, .string b.call, .string b.tru, .slice b.RA b.rx.length b.rc] 36)).alloc (.cells #[.int .i64 kd, .int .i64 bl, .int .i64 yy, .string cl] 45)).alloc (.cells #[Value.string ⟨#[]⟩, .int .i64 0, .slice none 0 0, .string ⟨#[]⟩, .string ⟨#[]⟩, .int .i64 0, .string ⟨#[]⟩, .string ⟨#[]⟩, .slice none 0 0] 36)) = W) ∧ Hid (W.heap.size = w.heap.size + 3) ∧ Hid (Below w.heap.size w W) ∧ Hid (Cells W w.heap.size 9 (fun i => (#[Value.string b.m.name, .int .i64 b.m.stage, .slice b.m.A b.m.x.length b.m.c, .string b.bob, .string b.sing, .int .i64 b.step, .string b.call, .string b.tru, .slice b.RA b.rx.length b.rc] : Array Value).getD i undef)) ∧ Hid (Cells W (w.heap.size + 1) 4 (fun i => (#[Value.int .i64 kd, .int .i64 bl, .int .i64 yy, .string cl] : Array Value).getD i undef)) ∧ Hid (Cells W (w.heap.size + 1 + 1) 9 (fun i => (#[Value.string ⟨#[]⟩, .int .i64 0, .slice none 0 0, .string ⟨#[]⟩, .string ⟨#[]⟩, .int .i64 0, .string ⟨#[]⟩, .string ⟨#[]⟩, .slice none 0 0] : Array Value).getD i undef)) := by
   have z1 : w.heap.size + 1 = (w.alloc (.cells #[.string b.m.name, .int .i64 b.m.stage, .slice b.m.A b.m.x.length b.m.c, .string b.bob, .string b.sing, .int .i64 b.step, .string b.call, .string b.tru, .slice b.RA b.rx.length b.rc] 36)).heap.size := by simp
   have z2 : w.heap.size + 1 + 1 = ((w.alloc (.cells #[.string b.m.name, .int .i64 b.m.stage, .slice b.m.A b.m.x.length b.m.c, .string b.bob, .string b.sing, .int .i64 b.step, .string b.call, .string b.tru, .slice b.RA b.rx.length b.rc] 36)).alloc (.cells #[.int .i64 kd, .int .i64 bl, .int .i64 yy, .string cl] 45)).heap.size := by simp
   refine ⟨_, Lib.hid rfl, Lib.hid (by simp), Lib.hid ((((Below.refl _ _).alloc (Nat.le_refl _) _).alloc (by simp) _).alloc (by simp; omega) _), Lib.hid ?_, Lib.hid ?_, Lib.hid ?_⟩
   ·exact ((Cells.newD _ #[.string b.m.name, .int .i64 b.m.stage, .slice b.m.A b.m.x.length b.m.c, .string b.bob, .string b.sing, .int .i64 b.step, .string b.call, .string b.tru, .slice b.RA b.rx.length b.rc] _).alloc _).alloc _
   ·rw [z1]; exact (Cells.newD _ #[.int .i64 kd, .int .i64 bl, .int .i64 yy, .string cl] _).alloc _
   ·rw [z2]; exact Cells.newD _ #[Value.string ⟨#[]⟩, .int .i64 0, .slice none 0 0, .string ⟨#[]⟩, .string ⟨#[]⟩, .int .i64 0, .string ⟨#[]⟩, .string ⟨#[]⟩, .slice none 0 0] _
  obtain ⟨W, hWe, hWs, hWb, hB, hA, hZ⟩ := hW
  have hWs1 : w.heap.size + 3 ≤ W.heap.size := by have := hWs.out; omega
  have hok : Hid (b.Ok W) := Lib.hid (⟨(h.ch.below hWb.out (Nat.le_refl _)).more hWb.out.size, (h.ri.below hWb.out (Nat.le_refl _)).more hWb.out.size, h.nm, h.cl, h.cs, h.bs, h.ss, h.ks, h.ts, h.rl⟩)
  clear h
  have u0 : W.cell? ⟨w.heap.size, 0, none⟩ = some (.string b.m.name) := hB.out.cell (i := 0) (by omega); have u1 : W.cell? ⟨w.heap.size, 1, none⟩ = some (.int .i64 b.m.stage) := hB.out.cell (i := 1) (by omega); have u2 : W.cell? ⟨w.heap.size, 2, none⟩ = some (.slice b.m.A b.m.x.length b.m.c) := hB.out.cell (i := 2) (by omega); have u3 : W.cell? ⟨w.heap.size, 3, none⟩ = some (.string b.bob) := hB.out.cell (i := 3) (by omega); have u4 : W.cell? ⟨w.heap.size, 4, none⟩ = some (.string b.sing) := hB.out.cell (i := 4) (by omega); have u5 : W.cell? ⟨w.heap.size, 5, none⟩ = some (.int .i64 b.step) := hB.out.cell (i := 5) (by omega); have u6 : W.cell? ⟨w.heap.size, 6, none⟩ = some (.string b.call) := hB.out.cell (i := 6) (by omega); have u7 : W.cell? ⟨w.heap.size, 7, none⟩ = some (.string b.tru) := hB.out.cell (i := 7) (by omega); have u8 : W.cell? ⟨w.heap.size, 8, none⟩ = some (.slice b.RA b.rx.length b.rc) := hB.out.cell (i := 8) (by omega)
  obtain ⟨D, hd⟩ : ∃ D, Hid (doR b kd bl yy cl = D) := ⟨_, Lib.hid rfl⟩
  have hno := Lib.hid (doR_no2 (b := b) (kd := kd) (bl := bl) (yy := yy) (cl := cl))
  obtain ⟨d0, ok⟩ := D
  rw [hd.out] at hD hno
  have hcall : Hid (∀ w1, Below W.heap.size W w1 → Calls Tryz.prog 79 #[.agg #[.string b.m.name, .int .i64 b.m.stage, .slice b.m.A b.m.x.length b.m.c, .string b.bob, .string b.sing, .int .i64 b.step, .string b.call, .string b.tru, .slice b.RA b.rx.length b.rc], .agg #[.int .i64 kd, .int .i64 bl, .int .i64 yy, .string cl]] w1 fun e w' => DoOut (d0, ok) w1 e w') := Lib.hid (fun w1 hb1 => by
   rw [← hd.out]
   exact l24Do_any b kd bl yy cl _ ((hok.out.ch.below hb1 (Nat.le_refl _)).more hb1.size) ((hok.out.ri.below hb1 (Nat.le_refl _)).more hb1.size) hcl C0.out)
  go_enter Tryz.func19, Tryz.ntmps19
  go_wp2_with fail
  rw [hWe.out]
  clear hWe
  go_upto_region 4 with (first | (go_at_call 68; refine (l24Good_any b _ hok.out).mono ?_; rintro e w1 ⟨rfl, hb1⟩; have hBW : Hid (Below W.heap.size W w1) := Lib.hid hb1; clear u0 u1 u2 u3 u4 u5 u6 u7 u8; have u0 : w1.cell? ⟨w.heap.size, 0, none⟩ = some (.string b.m.name) := (hB.out.later hb1).cell (i := 0) (by omega); have u1 : w1.cell? ⟨w.heap.size, 1, none⟩ = some (.int .i64 b.m.stage) := (hB.out.later hb1).cell (i := 1) (by omega); have u2 : w1.cell? ⟨w.heap.size, 2, none⟩ = some (.slice b.m.A b.m.x.length b.m.c) := (hB.out.later hb1).cell (i := 2) (by omega); have u3 : w1.cell? ⟨w.heap.size, 3, none⟩ = some (.string b.bob) := (hB.out.later hb1).cell (i := 3) (by omega); have u4 : w1.cell? ⟨w.heap.size, 4, none⟩ = some (.string b.sing) := (hB.out.later hb1).cell (i := 4) (by omega); have u5 : w1.cell? ⟨w.heap.size, 5, none⟩ = some (.int .i64 b.step) := (hB.out.later hb1).cell (i := 5) (by omega); have u6 : w1.cell? ⟨w.heap.size, 6, none⟩ = some (.string b.call) := (hB.out.later hb1).cell (i := 6) (by omega); have u7 : w1.cell? ⟨w.heap.size, 7, none⟩ = some (.string b.tru) := (hB.out.later hb1).cell (i := 7) (by omega); have u8 : w1.cell? ⟨w.heap.size, 8, none⟩ = some (.slice b.RA b.rx.length b.rc) := (hB.out.later hb1).cell (i := 8) (by omega); have a0 : w1.cell? ⟨w.heap.size + 1, 0, none⟩ = some (.int .i64 kd) := (hA.out.later hb1).cell (i := 0) (by omega); have a1 : w1.cell? ⟨w.heap.size + 1, 1, none⟩ = some (.int .i64 bl) := (hA.out.later hb1).cell (i := 1) (by omega); have a2 : w1.cell? ⟨w.heap.size + 1, 2, none⟩ = some (.int .i64 yy) := (hA.out.later hb1).cell (i := 2) (by omega); have a3 : w1.cell? ⟨w.heap.size + 1, 3, none⟩ = some (.string cl) := (hA.out.later hb1).cell (i := 3) (by omega)) | (go_at_call 79; refine (hcall.out _ hBW.out).mono ?_; rintro e w2 hbd; obtain ⟨v2, d, rfl, hbd1, hb2', hdd⟩ := hbd; obtain ⟨A1, c1, A3, c3, gs, rfl, hg1, hg2, ho1, ho3⟩ := hbd1; have HO1 := Lib.hid ho1; have HO3 := Lib.hid ho3; have hb2 := Lib.hid hb2'; have Hdd := Lib.hid hdd; clear ho1 ho3 hb2' hdd; clear u0 u1 u2 u3 u4 u5 u6 u7 u8; clear a0 a1 a2 a3))
  have hg2z := hb2.out.size
  have hWsz := hBW.out.size
  have hQ : ∃ Q : World, Hid (w2.alloc (.cells #[.string d.name, .int .i64 d.stage, .slice A1 d.x.length c1, .string d.bob, .string d.sing, .int .i64 d.step, .string d.call, .string d.tru, .slice A3 d.rx.length c3] 36) = Q) ∧ Hid (Below w2.heap.size w2 Q) ∧ Hid (Cells Q w2.heap.size 9 (fun i => (#[Value.string d.name, .int .i64 d.stage, .slice A1 d.x.length c1, .string d.bob, .string d.sing, .int .i64 d.step, .string d.call, .string d.tru, .slice A3 d.rx.length c3] : Array Value).getD i undef)) := ⟨_, Lib.hid rfl, Lib.hid ((Below.refl _ _).alloc (Nat.le_refl _) _), Lib.hid (Cells.newD _ #[.string d.name, .int .i64 d.stage, .slice A1 d.x.length c1, .string d.bob, .string d.sing, .int .i64 d.step, .string d.call, .string d.tru, .slice A3 d.rx.length c3] _)⟩
  obtain ⟨Q, hQe, hbQ, hCQ⟩ := hQ
  rw [hQe.out]
  clear hQe
  have HO1 := Lib.hid (HO1.out.later hbQ.out)
  have HO3 := Lib.hid (HO3.out.later hbQ.out)
  have hbB := Lib.hid (hb2.out.trans (hbQ.out.mono hb2.out.size))
  have hQsz := hbQ.out.size
  have u0 : Q.cell? ⟨w2.heap.size, 0, none⟩ = some (.string d.name) := hCQ.out.cell (i := 0) (by omega)
  have u1 : Q.cell? ⟨w2.heap.size, 1, none⟩ = some (.int .i64 d.stage) := hCQ.out.cell (i := 1) (by omega)
  have u2 : Q.cell? ⟨w2.heap.size, 2, none⟩ = some (.slice A1 d.x.length c1) := hCQ.out.cell (i := 2) (by omega)
  have u3 : Q.cell? ⟨w2.heap.size, 3, none⟩ = some (.string d.bob) := hCQ.out.cell (i := 3) (by omega)
  have u4 : Q.cell? ⟨w2.heap.size, 4, none⟩ = some (.string d.sing) := hCQ.out.cell (i := 4) (by omega)
  have u5 : Q.cell? ⟨w2.heap.size, 5, none⟩ = some (.int .i64 d.step) := hCQ.out.cell (i := 5) (by omega)
  have u6 : Q.cell? ⟨w2.heap.size, 6, none⟩ = some (.string d.call) := hCQ.out.cell (i := 6) (by omega)
  have u7 : Q.cell? ⟨w2.heap.size, 7, none⟩ = some (.string d.tru) := hCQ.out.cell (i := 7) (by omega)
  have u8 : Q.cell? ⟨w2.heap.size, 8, none⟩ = some (.slice A3 d.rx.length c3) := hCQ.out.cell (i := 8) (by omega)
  have hZQ := Lib.hid ((hZ.out.later hBW.out).later hbB.out)
  have hCr := hZQ.out; have r0 := hCr.cell (i := 0) (by omega); have rf0 := hCr.free (i := 0) (by omega); have r1 := hCr.cell (i := 1) (by omega); have rf1 := hCr.free (i := 1) (by omega); have r2 := hCr.cell (i := 2) (by omega); have rf2 := hCr.free (i := 2) (by omega); have r3 := hCr.cell (i := 3) (by omega); have rf3 := hCr.free (i := 3) (by omega); have r4 := hCr.cell (i := 4) (by omega); have rf4 := hCr.free (i := 4) (by omega); have r5 := hCr.cell (i := 5) (by omega); have rf5 := hCr.free (i := 5) (by omega); have r6 := hCr.cell (i := 6) (by omega); have rf6 := hCr.free (i := 6) (by omega); have r7 := hCr.cell (i := 7) (by omega); have rf7 := hCr.free (i := 7) (by omega); have r8 := hCr.cell (i := 8) (by omega); have rf8 := hCr.free (i := 8) (by omega); clear hCr
  by_cases ho : ok = true
  ·obtain rfl : d = d0 := Hdd.out ho
   have ho' := ho
   subst ho
   go_wp2
   obtain ⟨ok, hokt⟩ : ∃ ok, ok = true := ⟨true, rfl⟩
   rw [← hokt] at hD ⊢
   have hsz := hb2.out.size
   have hWsz := hBW.out.size
   refine bodyPost_ret (v := .tuple #[.agg #[.string d.name, .int .i64 d.stage, .slice A1 d.x.length c1, .string d.bob, .string d.sing, .int .i64 d.step, .string d.call, .string d.tru, .slice A3 d.rx.length c3], .bool ok]) (by simp [results, Tryz.results19, go_sem, r0, r1, r2, r3, r4, r5, r6, r7, r8, rf0, rf1, rf2, rf3, rf4, rf5, rf6, rf7, rf8]) rfl ?_
   have kk : Chg (w.heap.size + 1 + 1) (w.heap.size + 1 + 1 + 1) Q (setN Q (w.heap.size + 1 + 1) 0 [.string d.name, .int .i64 d.stage, .slice A1 d.x.length c1, .string d.bob, .string d.sing, .int .i64 d.step, .string d.call, .string d.tru, .slice A3 d.rx.length c3]) := Chg.setN (Nat.le_refl _) (Nat.lt_succ_self _) _ (Chg.refl _ _ Q)
   have hO1 := (HO1.out.chg kk (.inr (by omega))).mono (show w.heap.size ≤ w1.heap.size by omega) (Nat.le_refl _)
   have hO3 := (HO3.out.chg kk (.inr (by omega))).mono (Nat.le_refl _) (Nat.le_trans hbQ.out.size kk.size)
   have hBB := Below.chg ((hWb.out.trans (hBW.out.mono hWb.out.size)).trans (hbB.out.mono (by omega))) kk (by omega) (by omega)
   have hks := Nat.le_trans hbQ.out.size kk.size
   refine ⟨_, by rw [hD.out], ?_, hBB⟩
   rw [hD.out]
   exact ⟨A1, c1, A3, c3, gs, rfl, by omega, Nat.le_trans hg2 hks, hO1, hO3⟩
  ·have ho' : ok = false := by cases ok <;> simp_all
   subst ho'
   rw [hno.out rfl] at hD
   go_wp2
   refine bodyPost_ret (v := .tuple #[.agg #[Value.string ⟨#[]⟩, .int .i64 0, .slice none 0 0, .string ⟨#[]⟩, .string ⟨#[]⟩, .int .i64 0, .string ⟨#[]⟩, .string ⟨#[]⟩, .slice none 0 0], .bool false]) (by simp [results, Tryz.results19, go_sem, r0, r1, r2, r3, r4, r5, r6, r7, r8, rf0, rf1, rf2, rf3, rf4, rf5, rf6, rf7, rf8]) rfl ?_
   have kk : Chg (w.heap.size + 1 + 1) (w.heap.size + 1 + 1 + 1) Q (setN Q (w.heap.size + 1 + 1) 0 [Value.string ⟨#[]⟩, .int .i64 0, .slice none 0 0, .string ⟨#[]⟩, .string ⟨#[]⟩, .int .i64 0, .string ⟨#[]⟩, .string ⟨#[]⟩, .slice none 0 0]) := Chg.setN (Nat.le_refl _) (Nat.lt_succ_self _) _ (Chg.refl _ _ Q)
   have hBB := Below.chg ((hWb.out.trans (hBW.out.mono hWb.out.size)).trans (hbB.out.mono (by omega))) kk (by omega) (by have := hWb.out.size; have := hBW.out.size; omega)
   exact ⟨_, by rw [hD.out], by rw [hD.out]; exact BdAt.zero _ _ _ hBB.size, hBB⟩
 ·have e0 := B_f c0
  have hD : Hid (doBD b kd bl yy cl = (Bd.zero, false)) := Lib.hid (by unfold doBD; rw [if_neg c0])
  clear c0
  have hW : ∃ W : World, Hid ((((w.alloc (.cells #[.string b.m.name, .int .i64 b.m.stage, .slice b.m.A b.m.x.length b.m.c, .string b.bob, .string b.sing, .int .i64 b.step, .string b.call, .string b.tru, .slice b.RA b.rx.length b.rc] 36)).alloc (.cells #[.int .i64 kd, .int .i64 bl, .int .i64 yy, .string cl] 45)).alloc (.cells #[Value.string ⟨#[]⟩, .int .i64 0, .slice none 0 0, .string ⟨#[]⟩, .string ⟨#[]⟩, .int .i64 0, .string ⟨#[]⟩, .string ⟨#[]⟩, .slice none 0 0] 36)) = W) ∧ Hid (W.heap.size = w.heap.size + 3) ∧ Hid (Below w.heap.size w W) ∧ Hid (Cells W w.heap.size 9 (fun i => (#[Value.string b.m.name, .int .i64 b.m.stage, .slice b.m.A b.m.x.length b.m.c, .string b.bob, .string b.sing, .int .i64 b.step, .string b.call, .string b.tru, .slice b.RA b.rx.length b.rc] : Array Value).getD i undef)) ∧ Hid (Cells W (w.heap.size + 1) 4 (fun i => (#[Value.int .i64 kd, .int .i64 bl, .int .i64 yy, .string cl] : Array Value).getD i undef)) ∧ Hid (Cells W (w.heap.size + 1 + 1) 9 (fun i => (#[Value.string ⟨#[]⟩, .int .i64 0, .slice none 0 0, .string ⟨#[]⟩, .string ⟨#[]⟩, .int .i64 0, .string ⟨#[]⟩, .string ⟨#[]⟩, .slice none 0 0] : Array Value).getD i undef)) := by
   have z1 : w.heap.size + 1 = (w.alloc (.cells #[.string b.m.name, .int .i64 b.m.stage, .slice b.m.A b.m.x.length b.m.c, .string b.bob, .string b.sing, .int .i64 b.step, .string b.call, .string b.tru, .slice b.RA b.rx.length b.rc] 36)).heap.size := by simp
   have z2 : w.heap.size + 1 + 1 = ((w.alloc (.cells #[.string b.m.name, .int .i64 b.m.stage, .slice b.m.A b.m.x.length b.m.c, .string b.bob, .string b.sing, .int .i64 b.step, .string b.call, .string b.tru, .slice b.RA b.rx.length b.rc] 36)).alloc (.cells #[.int .i64 kd, .int .i64 bl, .int .i64 yy, .string cl] 45)).heap.size := by simp
   refine ⟨_, Lib.hid rfl, Lib.hid (by simp), Lib.hid ((((Below.refl _ _).alloc (Nat.le_refl _) _).alloc (by simp) _).alloc (by simp; omega) _), Lib.hid ?_, Lib.hid ?_, Lib.hid ?_⟩
   ·exact ((Cells.newD _ #[.string b.m.name, .int .i64 b.m.stage, .slice b.m.A b.m.x.length b.m.c, .string b.bob, .string b.sing, .int .i64 b.step, .string b.call, .string b.tru, .slice b.RA b.rx.length b.rc] _).alloc _).alloc _
   ·rw [z1]; exact (Cells.newD _ #[.int .i64 kd, .int .i64 bl, .int .i64 yy, .string cl] _).alloc _
   ·rw [z2]; exact Cells.newD _ #[Value.string ⟨#[]⟩, .int .i64 0, .slice none 0 0, .string ⟨#[]⟩, .string ⟨#[]⟩, .int .i64 0, .string ⟨#[]⟩, .string ⟨#[]⟩, .slice none 0 0] _
  obtain ⟨W, hWe, hWs, hWb, hB, hA, hZ⟩ := hW
  have hWs1 : w.heap.size + 3 ≤ W.heap.size := by have := hWs.out; omega
  have hok : Hid (b.Ok W) := Lib.hid (⟨(h.ch.below hWb.out (Nat.le_refl _)).more hWb.out.size, (h.ri.below hWb.out (Nat.le_refl _)).more hWb.out.size, h.nm, h.cl, h.cs, h.bs, h.ss, h.ks, h.ts, h.rl⟩)
  clear h
  have u0 : W.cell? ⟨w.heap.size, 0, none⟩ = some (.string b.m.name) := hB.out.cell (i := 0) (by omega); have u1 : W.cell? ⟨w.heap.size, 1, none⟩ = some (.int .i64 b.m.stage) := hB.out.cell (i := 1) (by omega); have u2 : W.cell? ⟨w.heap.size, 2, none⟩ = some (.slice b.m.A b.m.x.length b.m.c) := hB.out.cell (i := 2) (by omega); have u3 : W.cell? ⟨w.heap.size, 3, none⟩ = some (.string b.bob) := hB.out.cell (i := 3) (by omega); have u4 : W.cell? ⟨w.heap.size, 4, none⟩ = some (.string b.sing) := hB.out.cell (i := 4) (by omega); have u5 : W.cell? ⟨w.heap.size, 5, none⟩ = some (.int .i64 b.step) := hB.out.cell (i := 5) (by omega); have u6 : W.cell? ⟨w.heap.size, 6, none⟩ = some (.string b.call) := hB.out.cell (i := 6) (by omega); have u7 : W.cell? ⟨w.heap.size, 7, none⟩ = some (.string b.tru) := hB.out.cell (i := 7) (by omega); have u8 : W.cell? ⟨w.heap.size, 8, none⟩ = some (.slice b.RA b.rx.length b.rc) := hB.out.cell (i := 8) (by omega)
  go_enter Tryz.func19, Tryz.ntmps19
  go_wp2_with fail
  rw [hWe.out]
  clear hWe
  go_wp2_with (go_at_call 68; refine (l24Good_any b _ hok.out).mono ?_; rintro e w1 ⟨rfl, hb1⟩; have hBW : Hid (Below W.heap.size W w1) := Lib.hid hb1; clear u0 u1 u2 u3 u4 u5 u6 u7 u8; have hCr := hZ.out.later hBW.out; have r0 := hCr.cell (i := 0) (by omega); have rf0 := hCr.free (i := 0) (by omega); have r1 := hCr.cell (i := 1) (by omega); have rf1 := hCr.free (i := 1) (by omega); have r2 := hCr.cell (i := 2) (by omega); have rf2 := hCr.free (i := 2) (by omega); have r3 := hCr.cell (i := 3) (by omega); have rf3 := hCr.free (i := 3) (by omega); have r4 := hCr.cell (i := 4) (by omega); have rf4 := hCr.free (i := 4) (by omega); have r5 := hCr.cell (i := 5) (by omega); have rf5 := hCr.free (i := 5) (by omega); have r6 := hCr.cell (i := 6) (by omega); have rf6 := hCr.free (i := 6) (by omega); have r7 := hCr.cell (i := 7) (by omega); have rf7 := hCr.free (i := 7) (by omega); have r8 := hCr.cell (i := 8) (by omega); have rf8 := hCr.free (i := 8) (by omega); clear hCr)
  refine bodyPost_ret (v := .tuple #[.agg #[Value.string ⟨#[]⟩, .int .i64 0, .slice none 0 0, .string ⟨#[]⟩, .string ⟨#[]⟩, .int .i64 0, .string ⟨#[]⟩, .string ⟨#[]⟩, .slice none 0 0], .bool false]) (by simp [results, Tryz.results19, go_sem, r0, r1, r2, r3, r4, r5, r6, r7, r8, rf0, rf1, rf2, rf3, rf4, rf5, rf6, rf7, rf8]) rfl ?_
  have kk : Chg (w.heap.size + 1 + 1) (w.heap.size + 1 + 1 + 1) w1 (setN w1 (w.heap.size + 1 + 1) 0 [Value.string ⟨#[]⟩, .int .i64 0, .slice none 0 0, .string ⟨#[]⟩, .string ⟨#[]⟩, .int .i64 0, .string ⟨#[]⟩, .string ⟨#[]⟩, .slice none 0 0]) := Chg.setN (Nat.le_refl _) (Nat.lt_succ_self _) _ (Chg.refl _ _ w1)
  have hBB := Below.chg (hWb.out.trans (hBW.out.mono hWb.out.size)) kk (by omega) (by have := hWb.out.size; have := hBW.out.size; omega)
  exact ⟨_, by rw [hD.out], by rw [hD.out]; exact BdAt.zero _ _ _ hBB.size, hBB⟩
end Go.Proofs.YtkegbbndmfnolaaGreatDoor
