import Derived.Test.YtkegbbndmfnolaaGreatDoorMBandsL12
import Derived.Test.YtkegbbndmfnolaaGreatDoorMBandsL05
import Derived.Test.YtkegbbndmfnolaaGreatDoorRows
import Derived.Test.YtkegbbndmfnolaaGreatDoorMBandsL01
import Derived.StillTailTactics
import Derived.Deep.RegionHeld3
import Derived.Test.YtkegbbndmfnolaaGreatDoorMBandsL09
import Derived.Laws.StructEq
import Derived.Test.YtkegbbndmfnolaaGreatDoorMBandsL00
import Derived.Test.YtkegbbndmfnolaaGreatDoorMBandsL14
import Derived.Test.YtkegbbndmfnolaaGreatDoorMBandsLSh
import Derived.Lib.LaidTab
import Derived.Deep.CutRange
import Derived.Lib.ItoaNum
import Derived.Shelf.Strconv.Itoa3
/-
 StepBand: contracts of both sides.
-/
namespace Go.Proofs.YtkegbbndmfnolaaGreatDoor
open Go.RowKit
set_option linter.unusedVariables false
set_option linter.unusedSimpArgs false
set_option maxRecDepth 100000

open Classical in
/-- What StepBand answers. -/
noncomputable def stepBD (b : Bnd) : Bd × Bool := if bandP b then (stepD b, true) else (Bd.zero, false)
theorem stepBD_small {b : Bnd} (h : b.m.x.length ≤ 1048576) (hr : b.rx.length ≤ 1048576) : (stepBD b).1.x.length ≤ 1048576 ∧ (stepBD b).1.rx.length ≤ 1048576 := by
 unfold stepBD
 split
 ·exact ⟨h, by show (stepRs b).length ≤ _; rw [stepRs_len]; exact hr⟩
 ·exact ⟨Nat.zero_le _, Nat.zero_le _⟩












theorem stepped_any (b : Bnd) (w : World) (h : RdL w w.heap.size b.m.A 1 encString b.m.x) (hr : RdL w w.heap.size b.RA 2 Rgr.enc b.rx) (hl : b.m.x.length ≤ 1048576) (hp : bandP b) : Calls Tryz.prog 81 #[.agg #[.string b.m.name, .int .i64 b.m.stage, .slice b.m.A b.m.x.length b.m.c, .string b.bob, .string b.sing, .int .i64 b.step, .string b.call, .string b.tru, .slice b.RA b.rx.length b.rc]] w fun e w' => BdOne (stepD b) w e w' := by
 obtain ⟨⟨nm, st, x, A, c⟩, bob, sing, sp, call, tru, rx, RA, rc⟩ := b
 have hF := stepF_of hp
 have hn : ((st.toNat : Nat) : Int) = st := by have := hp.1.1.2.stage.1; simp only at this; omega
 have hk : ((sp.toNat : Nat) : Int) = sp := by have := hp.2.1.1; simp only at this; omega
 have := steppedF st.toNat sp.toNat nm x A c bob sing call tru rx RA rc _ _ _ _ w (Lib.hid hF) h hr hl
 rw [hn, hk] at this
 exact this
set_option maxHeartbeats 1600000 in
theorem iStepBand_any (b : Bnd) (w : World) (h : b.Ok w) : Calls Tryz.prog 21 #[.agg #[.string b.m.name, .int .i64 b.m.stage, .slice b.m.A b.m.x.length b.m.c, .string b.bob, .string b.sing, .int .i64 b.step, .string b.call, .string b.tru, .slice b.RA b.rx.length b.rc]] w fun e w' => BdRet (stepBD b).1 (stepBD b).2 w e w' := by
 by_cases c0 : bandP b
 ·have e0 := B_t c0
  have C0 := Lib.hid c0
  have hcl := h.cl
  have hD : Hid (stepBD b = (stepD b, true)) := Lib.hid (by unfold stepBD; rw [if_pos c0])
  clear c0
  have hW : ∃ W : World, Hid (((w.alloc (.cells #[.string b.m.name, .int .i64 b.m.stage, .slice b.m.A b.m.x.length b.m.c, .string b.bob, .string b.sing, .int .i64 b.step, .string b.call, .string b.tru, .slice b.RA b.rx.length b.rc] 36)).alloc (.cells #[Value.string ⟨#[]⟩, .int .i64 0, .slice none 0 0, .string ⟨#[]⟩, .string ⟨#[]⟩, .int .i64 0, .string ⟨#[]⟩, .string ⟨#[]⟩, .slice none 0 0] 36)) = W) ∧ Hid (W.heap.size = w.heap.size + 2) ∧ Hid (Below w.heap.size w W) ∧ Hid (Cells W w.heap.size 9 (fun i => (#[Value.string b.m.name, .int .i64 b.m.stage, .slice b.m.A b.m.x.length b.m.c, .string b.bob, .string b.sing, .int .i64 b.step, .string b.call, .string b.tru, .slice b.RA b.rx.length b.rc] : Array Value).getD i undef)) ∧ Hid (Cells W (w.heap.size + 1) 9 (fun i => (#[Value.string ⟨#[]⟩, .int .i64 0, .slice none 0 0, .string ⟨#[]⟩, .string ⟨#[]⟩, .int .i64 0, .string ⟨#[]⟩, .string ⟨#[]⟩, .slice none 0 0] : Array Value).getD i undef)) := by
   have z1 : w.heap.size + 1 = (w.alloc (.cells #[.string b.m.name, .int .i64 b.m.stage, .slice b.m.A b.m.x.length b.m.c, .string b.bob, .string b.sing, .int .i64 b.step, .string b.call, .string b.tru, .slice b.RA b.rx.length b.rc] 36)).heap.size := by simp
   refine ⟨_, Lib.hid rfl, Lib.hid (by simp), Lib.hid (((Below.refl _ _).alloc (Nat.le_refl _) _).alloc (by simp) _), Lib.hid ?_, Lib.hid ?_⟩
   ·exact (Cells.newD _ #[.string b.m.name, .int .i64 b.m.stage, .slice b.m.A b.m.x.length b.m.c, .string b.bob, .string b.sing, .int .i64 b.step, .string b.call, .string b.tru, .slice b.RA b.rx.length b.rc] _).alloc _
   ·rw [z1]; exact Cells.newD _ #[Value.string ⟨#[]⟩, .int .i64 0, .slice none 0 0, .string ⟨#[]⟩, .string ⟨#[]⟩, .int .i64 0, .string ⟨#[]⟩, .string ⟨#[]⟩, .slice none 0 0] _
  obtain ⟨W, hWe, hWs, hWb, hB, hZ⟩ := hW
  have hWs1 : w.heap.size + 2 ≤ W.heap.size := by have := hWs.out; omega
  have hok : Hid (b.Ok W) := Lib.hid (⟨(h.ch.below hWb.out (Nat.le_refl _)).more hWb.out.size, (h.ri.below hWb.out (Nat.le_refl _)).more hWb.out.size, h.nm, h.cl, h.cs, h.bs, h.ss, h.ks, h.ts, h.rl⟩)
  clear h
  have u0 : W.cell? ⟨w.heap.size, 0, none⟩ = some (.string b.m.name) := hB.out.cell (i := 0) (by omega)
  have u1 : W.cell? ⟨w.heap.size, 1, none⟩ = some (.int .i64 b.m.stage) := hB.out.cell (i := 1) (by omega)
  have u2 : W.cell? ⟨w.heap.size, 2, none⟩ = some (.slice b.m.A b.m.x.length b.m.c) := hB.out.cell (i := 2) (by omega)
  have u3 : W.cell? ⟨w.heap.size, 3, none⟩ = some (.string b.bob) := hB.out.cell (i := 3) (by omega)
  have u4 : W.cell? ⟨w.heap.size, 4, none⟩ = some (.string b.sing) := hB.out.cell (i := 4) (by omega)
  have u5 : W.cell? ⟨w.heap.size, 5, none⟩ = some (.int .i64 b.step) := hB.out.cell (i := 5) (by omega)
  have u6 : W.cell? ⟨w.heap.size, 6, none⟩ = some (.string b.call) := hB.out.cell (i := 6) (by omega)
  have u7 : W.cell? ⟨w.heap.size, 7, none⟩ = some (.string b.tru) := hB.out.cell (i := 7) (by omega)
  have u8 : W.cell? ⟨w.heap.size, 8, none⟩ = some (.slice b.RA b.rx.length b.rc) := hB.out.cell (i := 8) (by omega)
  go_enter Tryz.func21, Tryz.ntmps21
  go_wp2_with fail
  rw [hWe.out]
  clear hWe
  go_upto_region 3 with (go_at_call 16; refine (iBand_any b _ hok.out).mono ?_; rintro e w1 ⟨rfl, hb1⟩; have hBW : Hid (Below W.heap.size W w1) := Lib.hid hb1; clear u0 u1 u2 u3 u4 u5 u6 u7 u8; have u0 : w1.cell? ⟨w.heap.size, 0, none⟩ = some (.string b.m.name) := (hB.out.later hb1).cell (i := 0) (by omega); have u1 : w1.cell? ⟨w.heap.size, 1, none⟩ = some (.int .i64 b.m.stage) := (hB.out.later hb1).cell (i := 1) (by omega); have u2 : w1.cell? ⟨w.heap.size, 2, none⟩ = some (.slice b.m.A b.m.x.length b.m.c) := (hB.out.later hb1).cell (i := 2) (by omega); have u3 : w1.cell? ⟨w.heap.size, 3, none⟩ = some (.string b.bob) := (hB.out.later hb1).cell (i := 3) (by omega); have u4 : w1.cell? ⟨w.heap.size, 4, none⟩ = some (.string b.sing) := (hB.out.later hb1).cell (i := 4) (by omega); have u5 : w1.cell? ⟨w.heap.size, 5, none⟩ = some (.int .i64 b.step) := (hB.out.later hb1).cell (i := 5) (by omega); have u6 : w1.cell? ⟨w.heap.size, 6, none⟩ = some (.string b.call) := (hB.out.later hb1).cell (i := 6) (by omega); have u7 : w1.cell? ⟨w.heap.size, 7, none⟩ = some (.string b.tru) := (hB.out.later hb1).cell (i := 7) (by omega); have u8 : w1.cell? ⟨w.heap.size, 8, none⟩ = some (.slice b.RA b.rx.length b.rc) := (hB.out.later hb1).cell (i := 8) (by omega))
  obtain ⟨d, hd⟩ : ∃ d, Hid (stepD b = d) := ⟨_, Lib.hid rfl⟩
  rw [hd.out] at hD
  go_wp2_with (go_at_call 81; refine (stepped_any b _ ((hok.out.ch.below hBW.out (Nat.le_refl _)).more hBW.out.size) ((hok.out.ri.below hBW.out (Nat.le_refl _)).more hBW.out.size) hcl C0.out).mono ?_; rw [hd.out]; rintro e w2 hbd; obtain ⟨v2, rfl, hbd1, hb2'⟩ := hbd; obtain ⟨A1, c1, A3, c3, gs, rfl, hg1, hg2, ho1, ho3⟩ := hbd1; have HO1 := Lib.hid ho1; have HO3 := Lib.hid ho3; have hb2 := Lib.hid hb2'; clear ho1 ho3 hb2'; clear u0 u1 u2 u3 u4 u5 u6 u7 u8; have hCr := (hZ.out.later (hBW.out)).later hb2.out; have r0 := hCr.cell (i := 0) (by omega); have rf0 := hCr.free (i := 0) (by omega); have r1 := hCr.cell (i := 1) (by omega); have rf1 := hCr.free (i := 1) (by omega); have r2 := hCr.cell (i := 2) (by omega); have rf2 := hCr.free (i := 2) (by omega); have r3 := hCr.cell (i := 3) (by omega); have rf3 := hCr.free (i := 3) (by omega); have r4 := hCr.cell (i := 4) (by omega); have rf4 := hCr.free (i := 4) (by omega); have r5 := hCr.cell (i := 5) (by omega); have rf5 := hCr.free (i := 5) (by omega); have r6 := hCr.cell (i := 6) (by omega); have rf6 := hCr.free (i := 6) (by omega); have r7 := hCr.cell (i := 7) (by omega); have rf7 := hCr.free (i := 7) (by omega); have r8 := hCr.cell (i := 8) (by omega); have rf8 := hCr.free (i := 8) (by omega); clear hCr)
  have hsz := hb2.out.size
  have hWsz := hBW.out.size
  refine bodyPost_ret (v := .tuple #[.agg #[.string d.name, .int .i64 d.stage, .slice A1 d.x.length c1, .string d.bob, .string d.sing, .int .i64 d.step, .string d.call, .string d.tru, .slice A3 d.rx.length c3], .bool true]) (by simp [results, Tryz.results21, go_sem, r0, r1, r2, r3, r4, r5, r6, r7, r8, rf0, rf1, rf2, rf3, rf4, rf5, rf6, rf7, rf8]) rfl ?_
  have kk : Chg (w.heap.size + 1) (w.heap.size + 1 + 1) w2 (setN w2 (w.heap.size + 1) 0 [.string d.name, .int .i64 d.stage, .slice A1 d.x.length c1, .string d.bob, .string d.sing, .int .i64 d.step, .string d.call, .string d.tru, .slice A3 d.rx.length c3]) := Chg.setN (Nat.le_refl _) (Nat.lt_succ_self _) _ (Chg.refl _ _ w2)
  have hO1 := (HO1.out.chg kk (.inr (by omega))).mono (show w.heap.size ≤ w1.heap.size by omega) (Nat.le_refl _)
  have hO3 := (HO3.out.chg kk (.inr (by omega))).mono (Nat.le_refl _) kk.size
  have hBB := Below.chg ((hWb.out.trans (hBW.out.mono hWb.out.size)).trans (hb2.out.mono (by omega))) kk (by omega) (by omega)
  have hks := kk.size
  refine ⟨_, by rw [hD.out], ?_, hBB⟩
  rw [hD.out]
  exact ⟨A1, c1, A3, c3, gs, rfl, by omega, Nat.le_trans hg2 kk.size, hO1, hO3⟩
 ·have e0 := B_f c0
  have C0 := Lib.hid c0
  clear c0
  have hW : ∃ W : World, Hid (((w.alloc (.cells #[.string b.m.name, .int .i64 b.m.stage, .slice b.m.A b.m.x.length b.m.c, .string b.bob, .string b.sing, .int .i64 b.step, .string b.call, .string b.tru, .slice b.RA b.rx.length b.rc] 36)).alloc (.cells #[Value.string ⟨#[]⟩, .int .i64 0, .slice none 0 0, .string ⟨#[]⟩, .string ⟨#[]⟩, .int .i64 0, .string ⟨#[]⟩, .string ⟨#[]⟩, .slice none 0 0] 36)) = W) ∧ Hid (W.heap.size = w.heap.size + 2) ∧ Hid (Below w.heap.size w W) ∧ Hid (Cells W w.heap.size 9 (fun i => (#[Value.string b.m.name, .int .i64 b.m.stage, .slice b.m.A b.m.x.length b.m.c, .string b.bob, .string b.sing, .int .i64 b.step, .string b.call, .string b.tru, .slice b.RA b.rx.length b.rc] : Array Value).getD i undef)) ∧ Hid (Cells W (w.heap.size + 1) 9 (fun i => (#[Value.string ⟨#[]⟩, .int .i64 0, .slice none 0 0, .string ⟨#[]⟩, .string ⟨#[]⟩, .int .i64 0, .string ⟨#[]⟩, .string ⟨#[]⟩, .slice none 0 0] : Array Value).getD i undef)) := by
   have z1 : w.heap.size + 1 = (w.alloc (.cells #[.string b.m.name, .int .i64 b.m.stage, .slice b.m.A b.m.x.length b.m.c, .string b.bob, .string b.sing, .int .i64 b.step, .string b.call, .string b.tru, .slice b.RA b.rx.length b.rc] 36)).heap.size := by simp
   refine ⟨_, Lib.hid rfl, Lib.hid (by simp), Lib.hid (((Below.refl _ _).alloc (Nat.le_refl _) _).alloc (by simp) _), Lib.hid ?_, Lib.hid ?_⟩
   ·exact (Cells.newD _ #[.string b.m.name, .int .i64 b.m.stage, .slice b.m.A b.m.x.length b.m.c, .string b.bob, .string b.sing, .int .i64 b.step, .string b.call, .string b.tru, .slice b.RA b.rx.length b.rc] _).alloc _
   ·rw [z1]; exact Cells.newD _ #[Value.string ⟨#[]⟩, .int .i64 0, .slice none 0 0, .string ⟨#[]⟩, .string ⟨#[]⟩, .int .i64 0, .string ⟨#[]⟩, .string ⟨#[]⟩, .slice none 0 0] _
  obtain ⟨W, hWe, hWs, hWb, hB, hZ⟩ := hW
  have hWs1 : w.heap.size + 2 ≤ W.heap.size := by have := hWs.out; omega
  have hok : Hid (b.Ok W) := Lib.hid (⟨(h.ch.below hWb.out (Nat.le_refl _)).more hWb.out.size, (h.ri.below hWb.out (Nat.le_refl _)).more hWb.out.size, h.nm, h.cl, h.cs, h.bs, h.ss, h.ks, h.ts, h.rl⟩)
  clear h
  have u0 : W.cell? ⟨w.heap.size, 0, none⟩ = some (.string b.m.name) := hB.out.cell (i := 0) (by omega)
  have u1 : W.cell? ⟨w.heap.size, 1, none⟩ = some (.int .i64 b.m.stage) := hB.out.cell (i := 1) (by omega)
  have u2 : W.cell? ⟨w.heap.size, 2, none⟩ = some (.slice b.m.A b.m.x.length b.m.c) := hB.out.cell (i := 2) (by omega)
  have u3 : W.cell? ⟨w.heap.size, 3, none⟩ = some (.string b.bob) := hB.out.cell (i := 3) (by omega)
  have u4 : W.cell? ⟨w.heap.size, 4, none⟩ = some (.string b.sing) := hB.out.cell (i := 4) (by omega)
  have u5 : W.cell? ⟨w.heap.size, 5, none⟩ = some (.int .i64 b.step) := hB.out.cell (i := 5) (by omega)
  have u6 : W.cell? ⟨w.heap.size, 6, none⟩ = some (.string b.call) := hB.out.cell (i := 6) (by omega)
  have u7 : W.cell? ⟨w.heap.size, 7, none⟩ = some (.string b.tru) := hB.out.cell (i := 7) (by omega)
  have u8 : W.cell? ⟨w.heap.size, 8, none⟩ = some (.slice b.RA b.rx.length b.rc) := hB.out.cell (i := 8) (by omega)
  go_enter Tryz.func21, Tryz.ntmps21
  go_wp2_with fail
  rw [hWe.out]
  clear hWe
  go_wp2_with (go_at_call 16; refine (iBand_any b _ hok.out).mono ?_; rintro e w1 ⟨rfl, hb1⟩; have hBW : Hid (Below W.heap.size W w1) := Lib.hid hb1; clear u0 u1 u2 u3 u4 u5 u6 u7 u8; have hCr := hZ.out.later hBW.out; have r0 := hCr.cell (i := 0) (by omega); have rf0 := hCr.free (i := 0) (by omega); have r1 := hCr.cell (i := 1) (by omega); have rf1 := hCr.free (i := 1) (by omega); have r2 := hCr.cell (i := 2) (by omega); have rf2 := hCr.free (i := 2) (by omega); have r3 := hCr.cell (i := 3) (by omega); have rf3 := hCr.free (i := 3) (by omega); have r4 := hCr.cell (i := 4) (by omega); have rf4 := hCr.free (i := 4) (by omega); have r5 := hCr.cell (i := 5) (by omega); have rf5 := hCr.free (i := 5) (by omega); have r6 := hCr.cell (i := 6) (by omega); have rf6 := hCr.free (i := 6) (by omega); have r7 := hCr.cell (i := 7) (by omega); have rf7 := hCr.free (i := 7) (by omega); have r8 := hCr.cell (i := 8) (by omega); have rf8 := hCr.free (i := 8) (by omega); clear hCr)
  have hWsz := hBW.out.size
  refine bodyPost_ret (v := .tuple #[.agg #[Value.string ⟨#[]⟩, .int .i64 0, .slice none 0 0, .string ⟨#[]⟩, .string ⟨#[]⟩, .int .i64 0, .string ⟨#[]⟩, .string ⟨#[]⟩, .slice none 0 0], .bool false]) (by simp [results, Tryz.results21, go_sem, r0, r1, r2, r3, r4, r5, r6, r7, r8, rf0, rf1, rf2, rf3, rf4, rf5, rf6, rf7, rf8]) rfl ?_
  have kk : Chg (w.heap.size + 1) (w.heap.size + 1 + 1) w1 (setN w1 (w.heap.size + 1) 0 [Value.string ⟨#[]⟩, .int .i64 0, .slice none 0 0, .string ⟨#[]⟩, .string ⟨#[]⟩, .int .i64 0, .string ⟨#[]⟩, .string ⟨#[]⟩, .slice none 0 0]) := Chg.setN (Nat.le_refl _) (Nat.lt_succ_self _) _ (Chg.refl _ _ w1)
  have hBB := Below.chg (hWb.out.trans (hBW.out.mono hWb.out.size)) kk (by omega) (by omega)
  exact ⟨_, by unfold stepBD; rw [if_neg C0.out], by unfold stepBD; rw [if_neg C0.out]; exact BdAt.zero _ _ _ hBB.size, hBB⟩
theorem l24Step_any (b : Bnd) (w : World) (h : RdL w w.heap.size b.m.A 1 encString b.m.x) (hr : RdL w w.heap.size b.RA 2 Rgr.enc b.rx) (hl : b.m.x.length ≤ 1048576) (hp : bandP b) : Calls Tryz.prog 82 #[.agg #[.string b.m.name, .int .i64 b.m.stage, .slice b.m.A b.m.x.length b.m.c, .string b.bob, .string b.sing, .int .i64 b.step, .string b.call, .string b.tru, .slice b.RA b.rx.length b.rc]] w fun e w' => BdOne (stepD b) w e w' := by
 obtain ⟨⟨nm, st, x, A, c⟩, bob, sing, sp, call, tru, rx, RA, rc⟩ := b
 have hF := stepF_of hp
 have hn : ((st.toNat : Nat) : Int) = st := by have := hp.1.1.2.stage.1; simp only at this; omega
 have hk : ((sp.toNat : Nat) : Int) = sp := by have := hp.2.1.1; simp only at this; omega
 have := l24StepF st.toNat sp.toNat nm x A c bob sing call tru rx RA rc _ _ _ _ w (Lib.hid hF) h hr hl
 rw [hn, hk] at this
 exact this
set_option maxHeartbeats 1600000 in
theorem sStepBand_any (b : Bnd) (w : World) (h : b.Ok w) : Calls Tryz.prog 22 #[.agg #[.string b.m.name, .int .i64 b.m.stage, .slice b.m.A b.m.x.length b.m.c, .string b.bob, .string b.sing, .int .i64 b.step, .string b.call, .string b.tru, .slice b.RA b.rx.length b.rc]] w fun e w' => BdRet (stepBD b).1 (stepBD b).2 w e w' := by
 by_cases c0 : bandP b
 ·have e0 := B_t c0
  have C0 := Lib.hid c0
  have hcl := h.cl
  have hD : Hid (stepBD b = (stepD b, true)) := Lib.hid (by unfold stepBD; rw [if_pos c0])
  clear c0
  have hW : ∃ W : World, Hid (((w.alloc (.cells #[.string b.m.name, .int .i64 b.m.stage, .slice b.m.A b.m.x.length b.m.c, .string b.bob, .string b.sing, .int .i64 b.step, .string b.call, .string b.tru, .slice b.RA b.rx.length b.rc] 36)).alloc (.cells #[Value.string ⟨#[]⟩, .int .i64 0, .slice none 0 0, .string ⟨#[]⟩, .string ⟨#[]⟩, .int .i64 0, .string ⟨#[]⟩, .string ⟨#[]⟩, .slice none 0 0] 36)) = W) ∧ Hid (W.heap.size = w.heap.size + 2) ∧ Hid (Below w.heap.size w W) ∧ Hid (Cells W w.heap.size 9 (fun i => (#[Value.string b.m.name, .int .i64 b.m.stage, .slice b.m.A b.m.x.length b.m.c, .string b.bob, .string b.sing, .int .i64 b.step, .string b.call, .string b.tru, .slice b.RA b.rx.length b.rc] : Array Value).getD i undef)) ∧ Hid (Cells W (w.heap.size + 1) 9 (fun i => (#[Value.string ⟨#[]⟩, .int .i64 0, .slice none 0 0, .string ⟨#[]⟩, .string ⟨#[]⟩, .int .i64 0, .string ⟨#[]⟩, .string ⟨#[]⟩, .slice none 0 0] : Array Value).getD i undef)) := by
   have z1 : w.heap.size + 1 = (w.alloc (.cells #[.string b.m.name, .int .i64 b.m.stage, .slice b.m.A b.m.x.length b.m.c, .string b.bob, .string b.sing, .int .i64 b.step, .string b.call, .string b.tru, .slice b.RA b.rx.length b.rc] 36)).heap.size := by simp
   refine ⟨_, Lib.hid rfl, Lib.hid (by simp), Lib.hid (((Below.refl _ _).alloc (Nat.le_refl _) _).alloc (by simp) _), Lib.hid ?_, Lib.hid ?_⟩
   ·exact (Cells.newD _ #[.string b.m.name, .int .i64 b.m.stage, .slice b.m.A b.m.x.length b.m.c, .string b.bob, .string b.sing, .int .i64 b.step, .string b.call, .string b.tru, .slice b.RA b.rx.length b.rc] _).alloc _
   ·rw [z1]; exact Cells.newD _ #[Value.string ⟨#[]⟩, .int .i64 0, .slice none 0 0, .string ⟨#[]⟩, .string ⟨#[]⟩, .int .i64 0, .string ⟨#[]⟩, .string ⟨#[]⟩, .slice none 0 0] _
  obtain ⟨W, hWe, hWs, hWb, hB, hZ⟩ := hW
  have hWs1 : w.heap.size + 2 ≤ W.heap.size := by have := hWs.out; omega
  have hok : Hid (b.Ok W) := Lib.hid (⟨(h.ch.below hWb.out (Nat.le_refl _)).more hWb.out.size, (h.ri.below hWb.out (Nat.le_refl _)).more hWb.out.size, h.nm, h.cl, h.cs, h.bs, h.ss, h.ks, h.ts, h.rl⟩)
  clear h
  have u0 : W.cell? ⟨w.heap.size, 0, none⟩ = some (.string b.m.name) := hB.out.cell (i := 0) (by omega)
  have u1 : W.cell? ⟨w.heap.size, 1, none⟩ = some (.int .i64 b.m.stage) := hB.out.cell (i := 1) (by omega)
  have u2 : W.cell? ⟨w.heap.size, 2, none⟩ = some (.slice b.m.A b.m.x.length b.m.c) := hB.out.cell (i := 2) (by omega)
  have u3 : W.cell? ⟨w.heap.size, 3, none⟩ = some (.string b.bob) := hB.out.cell (i := 3) (by omega)
  have u4 : W.cell? ⟨w.heap.size, 4, none⟩ = some (.string b.sing) := hB.out.cell (i := 4) (by omega)
  have u5 : W.cell? ⟨w.heap.size, 5, none⟩ = some (.int .i64 b.step) := hB.out.cell (i := 5) (by omega)
  have u6 : W.cell? ⟨w.heap.size, 6, none⟩ = some (.string b.call) := hB.out.cell (i := 6) (by omega)
  have u7 : W.cell? ⟨w.heap.size, 7, none⟩ = some (.string b.tru) := hB.out.cell (i := 7) (by omega)
  have u8 : W.cell? ⟨w.heap.size, 8, none⟩ = some (.slice b.RA b.rx.length b.rc) := hB.out.cell (i := 8) (by omega)
  go_enter Tryz.func22, Tryz.ntmps22
  go_wp2_with fail
  rw [hWe.out]
  clear hWe
  go_upto_region 3 with (go_at_call 68; refine (l24Good_any b _ hok.out).mono ?_; rintro e w1 ⟨rfl, hb1⟩; have hBW : Hid (Below W.heap.size W w1) := Lib.hid hb1; clear u0 u1 u2 u3 u4 u5 u6 u7 u8; have u0 : w1.cell? ⟨w.heap.size, 0, none⟩ = some (.string b.m.name) := (hB.out.later hb1).cell (i := 0) (by omega); have u1 : w1.cell? ⟨w.heap.size, 1, none⟩ = some (.int .i64 b.m.stage) := (hB.out.later hb1).cell (i := 1) (by omega); have u2 : w1.cell? ⟨w.heap.size, 2, none⟩ = some (.slice b.m.A b.m.x.length b.m.c) := (hB.out.later hb1).cell (i := 2) (by omega); have u3 : w1.cell? ⟨w.heap.size, 3, none⟩ = some (.string b.bob) := (hB.out.later hb1).cell (i := 3) (by omega); have u4 : w1.cell? ⟨w.heap.size, 4, none⟩ = some (.string b.sing) := (hB.out.later hb1).cell (i := 4) (by omega); have u5 : w1.cell? ⟨w.heap.size, 5, none⟩ = some (.int .i64 b.step) := (hB.out.later hb1).cell (i := 5) (by omega); have u6 : w1.cell? ⟨w.heap.size, 6, none⟩ = some (.string b.call) := (hB.out.later hb1).cell (i := 6) (by omega); have u7 : w1.cell? ⟨w.heap.size, 7, none⟩ = some (.string b.tru) := (hB.out.later hb1).cell (i := 7) (by omega); have u8 : w1.cell? ⟨w.heap.size, 8, none⟩ = some (.slice b.RA b.rx.length b.rc) := (hB.out.later hb1).cell (i := 8) (by omega))
  obtain ⟨d, hd⟩ : ∃ d, Hid (stepD b = d) := ⟨_, Lib.hid rfl⟩
  rw [hd.out] at hD
  go_wp2_with (go_at_call 82; refine (l24Step_any b _ ((hok.out.ch.below hBW.out (Nat.le_refl _)).more hBW.out.size) ((hok.out.ri.below hBW.out (Nat.le_refl _)).more hBW.out.size) hcl C0.out).mono ?_; rw [hd.out]; rintro e w2 hbd; obtain ⟨v2, rfl, hbd1, hb2'⟩ := hbd; obtain ⟨A1, c1, A3, c3, gs, rfl, hg1, hg2, ho1, ho3⟩ := hbd1; have HO1 := Lib.hid ho1; have HO3 := Lib.hid ho3; have hb2 := Lib.hid hb2'; clear ho1 ho3 hb2'; clear u0 u1 u2 u3 u4 u5 u6 u7 u8; have hCr := (hZ.out.later (hBW.out)).later hb2.out; have r0 := hCr.cell (i := 0) (by omega); have rf0 := hCr.free (i := 0) (by omega); have r1 := hCr.cell (i := 1) (by omega); have rf1 := hCr.free (i := 1) (by omega); have r2 := hCr.cell (i := 2) (by omega); have rf2 := hCr.free (i := 2) (by omega); have r3 := hCr.cell (i := 3) (by omega); have rf3 := hCr.free (i := 3) (by omega); have r4 := hCr.cell (i := 4) (by omega); have rf4 := hCr.free (i := 4) (by omega); have r5 := hCr.cell (i := 5) (by omega); have rf5 := hCr.free (i := 5) (by omega); have r6 := hCr.cell (i := 6) (by omega); have rf6 := hCr.free (i := 6) (by omega); have r7 := hCr.cell (i := 7) (by omega); have rf7 := hCr.free (i := 7) (by omega); have r8 := hCr.cell (i := 8) (by omega); have rf8 := hCr.free (i := 8) (by omega); clear hCr)
  have hsz := hb2.out.size
  have hWsz := hBW.out.size
  refine bodyPost_ret (v := .tuple #[.agg #[.string d.name, .int .i64 d.stage, .slice A1 d.x.length c1, .string d.bob, .string d.sing, .int .i64 d.step, .string d.call, .string d.tru, .slice A3 d.rx.length c3], .bool true]) (by simp [results, Tryz.results22, go_sem, r0, r1, r2, r3, r4, r5, r6, r7, r8, rf0, rf1, rf2, rf3, rf4, rf5, rf6, rf7, rf8]) rfl ?_
  have kk : Chg (w.heap.size + 1) (w.heap.size + 1 + 1) w2 (setN w2 (w.heap.size + 1) 0 [.string d.name, .int .i64 d.stage, .slice A1 d.x.length c1, .string d.bob, .string d.sing, .int .i64 d.step, .string d.call, .string d.tru, .slice A3 d.rx.length c3]) := Chg.setN (Nat.le_refl _) (Nat.lt_succ_self _) _ (Chg.refl _ _ w2)
  have hO1 := (HO1.out.chg kk (.inr (by omega))).mono (show w.heap.size ≤ w1.heap.size by omega) (Nat.le_refl _)
  have hO3 := (HO3.out.chg kk (.inr (by omega))).mono (Nat.le_refl _) kk.size
  have hBB := Below.chg ((hWb.out.trans (hBW.out.mono hWb.out.size)).trans (hb2.out.mono (by omega))) kk (by omega) (by omega)
  have hks := kk.size
  refine ⟨_, by rw [hD.out], ?_, hBB⟩
  rw [hD.out]
  exact ⟨A1, c1, A3, c3, gs, rfl, by omega, Nat.le_trans hg2 kk.size, hO1, hO3⟩
 ·have e0 := B_f c0
  have C0 := Lib.hid c0
  clear c0
  have hW : ∃ W : World, Hid (((w.alloc (.cells #[.string b.m.name, .int .i64 b.m.stage, .slice b.m.A b.m.x.length b.m.c, .string b.bob, .string b.sing, .int .i64 b.step, .string b.call, .string b.tru, .slice b.RA b.rx.length b.rc] 36)).alloc (.cells #[Value.string ⟨#[]⟩, .int .i64 0, .slice none 0 0, .string ⟨#[]⟩, .string ⟨#[]⟩, .int .i64 0, .string ⟨#[]⟩, .string ⟨#[]⟩, .slice none 0 0] 36)) = W) ∧ Hid (W.heap.size = w.heap.size + 2) ∧ Hid (Below w.heap.size w W) ∧ Hid (Cells W w.heap.size 9 (fun i => (#[Value.string b.m.name, .int .i64 b.m.stage, .slice b.m.A b.m.x.length b.m.c, .string b.bob, .string b.sing, .int .i64 b.step, .string b.call, .string b.tru, .slice b.RA b.rx.length b.rc] : Array Value).getD i undef)) ∧ Hid (Cells W (w.heap.size + 1) 9 (fun i => (#[Value.string ⟨#[]⟩, .int .i64 0, .slice none 0 0, .string ⟨#[]⟩, .string ⟨#[]⟩, .int .i64 0, .string ⟨#[]⟩, .string ⟨#[]⟩, .slice none 0 0] : Array Value).getD i undef)) := by
   have z1 : w.heap.size + 1 = (w.alloc (.cells #[.string b.m.name, .int .i64 b.m.stage, .slice b.m.A b.m.x.length b.m.c, .string b.bob, .string b.sing, .int .i64 b.step, .string b.call, .string b.tru, .slice b.RA b.rx.length b.rc] 36)).heap.size := by simp
   refine ⟨_, Lib.hid rfl, Lib.hid (by simp), Lib.hid (((Below.refl _ _).alloc (Nat.le_refl _) _).alloc (by simp) _), Lib.hid ?_, Lib.hid ?_⟩
   ·exact (Cells.newD _ #[.string b.m.name, .int .i64 b.m.stage, .slice b.m.A b.m.x.length b.m.c, .string b.bob, .string b.sing, .int .i64 b.step, .string b.call, .string b.tru, .slice b.RA b.rx.length b.rc] _).alloc _
   ·rw [z1]; exact Cells.newD _ #[Value.string ⟨#[]⟩, .int .i64 0, .slice none 0 0, .string ⟨#[]⟩, .string ⟨#[]⟩, .int .i64 0, .string ⟨#[]⟩, .string ⟨#[]⟩, .slice none 0 0] _
  obtain ⟨W, hWe, hWs, hWb, hB, hZ⟩ := hW
  have hWs1 : w.heap.size + 2 ≤ W.heap.size := by have := hWs.out; omega
  have hok : Hid (b.Ok W) := Lib.hid (⟨(h.ch.below hWb.out (Nat.le_refl _)).more hWb.out.size, (h.ri.below hWb.out (Nat.le_refl _)).more hWb.out.size, h.nm, h.cl, h.cs, h.bs, h.ss, h.ks, h.ts, h.rl⟩)
  clear h
  have u0 : W.cell? ⟨w.heap.size, 0, none⟩ = some (.string b.m.name) := hB.out.cell (i := 0) (by omega)
  have u1 : W.cell? ⟨w.heap.size, 1, none⟩ = some (.int .i64 b.m.stage) := hB.out.cell (i := 1) (by omega)
  have u2 : W.cell? ⟨w.heap.size, 2, none⟩ = some (.slice b.m.A b.m.x.length b.m.c) := hB.out.cell (i := 2) (by omega)
  have u3 : W.cell? ⟨w.heap.size, 3, none⟩ = some (.string b.bob) := hB.out.cell (i := 3) (by omega)
  have u4 : W.cell? ⟨w.heap.size, 4, none⟩ = some (.string b.sing) := hB.out.cell (i := 4) (by omega)
  have u5 : W.cell? ⟨w.heap.size, 5, none⟩ = some (.int .i64 b.step) := hB.out.cell (i := 5) (by omega)
  have u6 : W.cell? ⟨w.heap.size, 6, none⟩ = some (.string b.call) := hB.out.cell (i := 6) (by omega)
  have u7 : W.cell? ⟨w.heap.size, 7, none⟩ = some (.string b.tru) := hB.out.cell (i := 7) (by omega)
  have u8 : W.cell? ⟨w.heap.size, 8, none⟩ = some (.slice b.RA b.rx.length b.rc) := hB.out.cell (i := 8) (by omega)
  go_enter Tryz.func22, Tryz.ntmps22
  go_wp2_with fail
  rw [hWe.out]
  clear hWe
  go_wp2_with (go_at_call 68; refine (l24Good_any b _ hok.out).mono ?_; rintro e w1 ⟨rfl, hb1⟩; have hBW : Hid (Below W.heap.size W w1) := Lib.hid hb1; clear u0 u1 u2 u3 u4 u5 u6 u7 u8; have hCr := hZ.out.later hBW.out; have r0 := hCr.cell (i := 0) (by omega); have rf0 := hCr.free (i := 0) (by omega); have r1 := hCr.cell (i := 1) (by omega); have rf1 := hCr.free (i := 1) (by omega); have r2 := hCr.cell (i := 2) (by omega); have rf2 := hCr.free (i := 2) (by omega); have r3 := hCr.cell (i := 3) (by omega); have rf3 := hCr.free (i := 3) (by omega); have r4 := hCr.cell (i := 4) (by omega); have rf4 := hCr.free (i := 4) (by omega); have r5 := hCr.cell (i := 5) (by omega); have rf5 := hCr.free (i := 5) (by omega); have r6 := hCr.cell (i := 6) (by omega); have rf6 := hCr.free (i := 6) (by omega); have r7 := hCr.cell (i := 7) (by omega); have rf7 := hCr.free (i := 7) (by omega); have r8 := hCr.cell (i := 8) (by omega); have rf8 := hCr.free (i := 8) (by omega); clear hCr)
  have hWsz := hBW.out.size
  refine bodyPost_ret (v := .tuple #[.agg #[Value.string ⟨#[]⟩, .int .i64 0, .slice none 0 0, .string ⟨#[]⟩, .string ⟨#[]⟩, .int .i64 0, .string ⟨#[]⟩, .string ⟨#[]⟩, .slice none 0 0], .bool false]) (by simp [results, Tryz.results22, go_sem, r0, r1, r2, r3, r4, r5, r6, r7, r8, rf0, rf1, rf2, rf3, rf4, rf5, rf6, rf7, rf8]) rfl ?_
  have kk : Chg (w.heap.size + 1) (w.heap.size + 1 + 1) w1 (setN w1 (w.heap.size + 1) 0 [Value.string ⟨#[]⟩, .int .i64 0, .slice none 0 0, .string ⟨#[]⟩, .string ⟨#[]⟩, .int .i64 0, .string ⟨#[]⟩, .string ⟨#[]⟩, .slice none 0 0]) := Chg.setN (Nat.le_refl _) (Nat.lt_succ_self _) _ (Chg.refl _ _ w1)
  have hBB := Below.chg (hWb.out.trans (hBW.out.mono hWb.out.size)) kk (by omega) (by omega)
  exact ⟨_, by unfold stepBD; rw [if_neg C0.out], by unfold stepBD; rw [if_neg C0.out]; exact BdAt.zero _ _ _ hBB.size, hBB⟩
end Go.Proofs.YtkegbbndmfnolaaGreatDoor

/-
 Contracts of the helper functions that the laws use for lists of RingAct.
-/
namespace Go.Proofs.YtkegbbndmfnolaaGreatDoor
open Go.RowKit Go.ChangeShapes Go.WideShapes
set_option linter.unusedVariables false
set_option linter.unusedSimpArgs false
set_option maxRecDepth 100000


structure Act_ where
 kind : Int
 bell : Int
 by_ : Int
 call : ByteArray

def Act_.enc (x : Act_) : List Value := [.int .i64 x.kind, .int .i64 x.bell, .int .i64 x.by_, .string x.call]
theorem Act__enc_len (x : Act_) : (Act_.enc x).length = 4 := rfl
def RingAct_small (lim : Int) (x : Act_) : Prop := (x.call.size : Int) ≤ lim
theorem RingAct_info : (Tryz.prog.info? 45).map (fun i => (i.zero, i.size, i.bytes)) = some (some (.agg #[.int .i64 0, .int .i64 0, .int .i64 0, .string ⟨#[]⟩]), 4, 40) := by kernel_rfl

/-- What the marks make of a list of so many elements. -/
def markRingActL (m q : Nat) : List Act_ := (List.range m).map fun i : Nat => (⟨((q + i * 4 : Nat) : Int), ((q + i * 4 + 1 : Nat) : Int), ((q + i * 4 + 2 : Nat) : Int), (markT (q + i * 4 + 3))⟩ : Act_)
end Go.Proofs.YtkegbbndmfnolaaGreatDoor
/-
 DoBand: what an action makes of a band.
-/
namespace Go.Proofs.YtkegbbndmfnolaaGreatDoor
open Go.RowKit
set_option linter.unusedVariables false
set_option linter.unusedSimpArgs false
set_option maxRecDepth 100000

theorem eqAct_any (k' b' y' : Int) (c' : ByteArray) (k b y : Int) (c : ByteArray) (w : World) : (binOp .eql 45 (.agg #[.int .i64 k', .int .i64 b', .int .i64 y', .string c']) (.agg #[.int .i64 k, .int .i64 b, .int .i64 y, .string c])).run Tryz.prog w = .ok (.bool (k' == k && (b' == b && (y' == y && c'.toList == c.toList)))) w := by
 have hs : (Tryz.prog).stoodInHeld 45 = false := by kernel_rfl
 rw [run_eql_struct, show (10000 : Nat) = 9999 + 1 from rfl, run_equalIn_struct w 9999 45 _ _ (by simp [Program.fieldsOf, Tryz.underlying45]) hs]
 simp only [Program.fieldsOf, Tryz.underlying45]
 by_cases h1 : k' = k <;> by_cases h2 : b' = b <;> by_cases h3 : y' = y <;> by_cases h4 : c'.toList = c.toList <;>
  simp [go_sem, h1, h2, h3, h4]
/-- An action is the one with these fields. -/
def actE (k' b' y' : Int) (c' : ByteArray) (k b y : Int) (c : ByteArray) : Prop := k' = k ∧ b' = b ∧ y' = y ∧ c'.toList = c.toList
theorem eqAct_t {k' b' y' : Int} {c' : ByteArray} {k b y : Int} {c : ByteArray} (h : actE k' b' y' c' k b y c) (w : World) : (binOp .eql 45 (.agg #[.int .i64 k', .int .i64 b', .int .i64 y', .string c']) (.agg #[.int .i64 k, .int .i64 b, .int .i64 y, .string c])).run Tryz.prog w = .ok (.bool true) w := by
 rw [eqAct_any]; simp [h.1, h.2.1, h.2.2.1, h.2.2.2]
theorem eqAct_f {k' b' y' : Int} {c' : ByteArray} {k b y : Int} {c : ByteArray} (h : ¬ actE k' b' y' c' k b y c) (w : World) : (binOp .eql 45 (.agg #[.int .i64 k', .int .i64 b', .int .i64 y', .string c']) (.agg #[.int .i64 k, .int .i64 b, .int .i64 y, .string c])).run Tryz.prog w = .ok (.bool false) w := by
 rw [eqAct_any]
 have : (k' == k && (b' == b && (y' == y && c'.toList == c.toList))) = false := by
  rw [Bool.eq_false_iff]; intro e; apply h; simpa [actE] using e
 rw [this]
/-- A ringer of the band, by the bell. -/
def Bnd.at_ (b : Bnd) (bl : Int) : Rgr := b.rx.getD (bl.toNat - 1) ⟨0, false⟩
def Bnd.put (b : Bnd) (bl : Int) (r : Rgr) : Bd := { b.bd with rx := b.rx.set (bl.toNat - 1) r }
open Classical in
/-- What an action makes of a valid band. -/
noncomputable def doR (b : Bnd) (kd bl yy : Int) (cl : ByteArray) : Bd × Bool :=
 if actE kd bl yy cl 1 0 0 ⟨#[]⟩ then (stepD b, true)
 else if actE kd bl yy cl 2 0 0 cl ∧ isCallP cl then ({ b.bd with call := cl }, true)
 else if ¬ inB bl 1 b.m.stage then (Bd.zero, false)
 else if actE kd bl yy cl 3 bl 0 ⟨#[]⟩ then (b.put bl ⟨(b.at_ bl).place, true⟩, true)
 else if actE kd bl yy cl 5 bl 0 ⟨#[]⟩ then (b.put bl ⟨placeS b.tru bl, (b.at_ bl).deaf⟩, true)
 else if actE kd bl yy cl 4 bl yy ⟨#[]⟩ ∧ (yy = 1 ∨ yy = -1) ∧ inB ((b.at_ bl).place + yy) 1 b.m.stage then (b.put bl ⟨(b.at_ bl).place + yy, (b.at_ bl).deaf⟩, true)
 else (Bd.zero, false)
open Classical in
/-- What DoBand answers. -/
noncomputable def doBD (b : Bnd) (kd bl yy : Int) (cl : ByteArray) : Bd × Bool := if bandP b then doR b kd bl yy cl else (Bd.zero, false)
theorem doR_small {b : Bnd} {kd bl yy : Int} {cl : ByteArray} (h : b.m.x.length ≤ 1048576) (hr : b.rx.length ≤ 1048576) : (doR b kd bl yy cl).1.x.length ≤ 1048576 ∧ (doR b kd bl yy cl).1.rx.length ≤ 1048576 := by
 have hp : ∀ r, (b.put bl r).x.length ≤ 1048576 ∧ (b.put bl r).rx.length ≤ 1048576 := fun r => ⟨h, by show (b.rx.set _ r).length ≤ _; rw [List.length_set]; exact hr⟩
 have hz : Bd.zero.x.length ≤ 1048576 ∧ Bd.zero.rx.length ≤ 1048576 := ⟨Nat.zero_le _, Nat.zero_le _⟩
 unfold doR
 split
 ·exact ⟨h, by show (stepRs b).length ≤ _; rw [stepRs_len]; exact hr⟩
 ·split
  ·exact ⟨h, hr⟩
  ·split
   ·exact hz
   ·split
    ·exact hp _
    ·split
     ·exact hp _
     ·split
      ·exact hp _
      ·exact hz
theorem doBD_small {b : Bnd} {kd bl yy : Int} {cl : ByteArray} (h : b.m.x.length ≤ 1048576) (hr : b.rx.length ≤ 1048576) : (doBD b kd bl yy cl).1.x.length ≤ 1048576 ∧ (doBD b kd bl yy cl).1.rx.length ≤ 1048576 := by
 unfold doBD
 split
 ·exact doR_small h hr
 ·exact ⟨Nat.zero_le _, Nat.zero_le _⟩
section
variable {b : Bnd} {kd bl yy : Int} {cl : ByteArray}
theorem doR_1 (h : actE kd bl yy cl 1 0 0 ⟨#[]⟩) : doR b kd bl yy cl = (stepD b, true) := by unfold doR; rw [if_pos h]
theorem doR_2 (h1 : ¬ actE kd bl yy cl 1 0 0 ⟨#[]⟩) (h : actE kd bl yy cl 2 0 0 cl ∧ isCallP cl) : doR b kd bl yy cl = ({ b.bd with call := cl }, true) := by unfold doR; rw [if_neg h1, if_pos h]
theorem doR_n (h1 : ¬ actE kd bl yy cl 1 0 0 ⟨#[]⟩) (h2 : ¬ (actE kd bl yy cl 2 0 0 cl ∧ isCallP cl)) (h : ¬ inB bl 1 b.m.stage) : doR b kd bl yy cl = (Bd.zero, false) := by unfold doR; rw [if_neg h1, if_neg h2, if_pos h]
theorem not1 (h : inB bl 1 b.m.stage) : ¬ actE kd bl yy cl 1 0 0 ⟨#[]⟩ := fun e => by have := e.2.1; have := h.1; omega
theorem not2 (h : inB bl 1 b.m.stage) : ¬ (actE kd bl yy cl 2 0 0 cl ∧ isCallP cl) := fun e => by have := e.1.2.1; have := h.1; omega
theorem doR_3 (h : inB bl 1 b.m.stage) (h3 : actE kd bl yy cl 3 bl 0 ⟨#[]⟩) : doR b kd bl yy cl = (b.put bl ⟨(b.at_ bl).place, true⟩, true) := by unfold doR; rw [if_neg (not1 h), if_neg (not2 h), if_neg (fun e => e h), if_pos h3]
theorem doR_5 (h : inB bl 1 b.m.stage) (h3 : actE kd bl yy cl 5 bl 0 ⟨#[]⟩) : doR b kd bl yy cl = (b.put bl ⟨placeS b.tru bl, (b.at_ bl).deaf⟩, true) := by unfold doR; rw [if_neg (not1 h), if_neg (not2 h), if_neg (fun e => e h), if_neg (fun e => by have := e.1; have := h3.1; omega), if_pos h3]
theorem doR_4 (h : inB bl 1 b.m.stage) (h3 : actE kd bl yy cl 4 bl yy ⟨#[]⟩ ∧ (yy = 1 ∨ yy = -1) ∧ inB ((b.at_ bl).place + yy) 1 b.m.stage) : doR b kd bl yy cl = (b.put bl ⟨(b.at_ bl).place + yy, (b.at_ bl).deaf⟩, true) := by unfold doR; rw [if_neg (not1 h), if_neg (not2 h), if_neg (fun e => e h), if_neg (fun e => by have := e.1; have := h3.1.1; omega), if_neg (fun e => by have := e.1; have := h3.1.1; omega), if_pos h3]
theorem doR_no (h : inB bl 1 b.m.stage) (h3 : ¬ actE kd bl yy cl 3 bl 0 ⟨#[]⟩) (h5 : ¬ actE kd bl yy cl 5 bl 0 ⟨#[]⟩) (h4 : ¬ (actE kd bl yy cl 4 bl yy ⟨#[]⟩ ∧ (yy = 1 ∨ yy = -1) ∧ inB ((b.at_ bl).place + yy) 1 b.m.stage)) : doR b kd bl yy cl = (Bd.zero, false) := by unfold doR; rw [if_neg (not1 h), if_neg (not2 h), if_neg (fun e => e h), if_neg h3, if_neg h5, if_neg h4]
end
end Go.Proofs.YtkegbbndmfnolaaGreatDoor

/-
 Decimal numbers: contracts of both sides (the library's Itoa by the shelf).
-/
namespace Go.Proofs.YtkegbbndmfnolaaGreatDoor
open Go.RowKit
set_option linter.unusedVariables false
set_option linter.unusedSimpArgs false
set_option maxRecDepth 100000

/-- The library's table of powers lies as its text lays it. -/
def Tab (w : World) : Prop := Lib.TabIs Tryz.prog w "internal/strconv.uint64pow10" .u64 Lib.pow10Tab
theorem Tab.later {w w' : World} (h : Tab w) (hb : Below w.heap.size w w') : Tab w' := by
 unfold Tab Lib.TabIs World.var? at *
 cases hg : (Tryz.prog).globalNamed "internal/strconv.uint64pow10" with
 | none => rw [hg] at h; simp at h
 | some g =>
  rw [hg] at h
  simp only [Option.bind_some] at h ⊢
  have hlt : g < w.heap.size := by
   rcases Nat.lt_or_ge g w.heap.size with x | x
   ·exact x
   ·rw [Array.getElem?_eq_none x] at h; simp at h
  rw [hb.block g hlt]; exact h
/-- A number in decimal. -/
def numS (n : Nat) : ByteArray := ⟨(Lib.decDigits n).toArray⟩
theorem numS_small {n : Nat} (h : n < 10) : numS n = ⟨#[UInt8.ofNat (48 + n)]⟩ := by unfold numS; rw [Lib.decDigits_one h]
theorem numS_big {n : Nat} (h : ¬ n < 10) : numS n = numS (n / 10) ++ ⟨#[UInt8.ofNat (48 + n % 10)]⟩ := by
 unfold numS
 rw [Lib.decDigits, dif_neg h]
 apply ByteArray.ext
 simp [ByteArray.data_append]
theorem numS_size (n : Nat) : (numS n).size = Lib.nDigits n := by
 unfold numS
 have := Lib.decDigits_length n
 simpa [ByteArray.size] using this
theorem nDigits_le : ∀ (k n : Nat), n < 10 ^ k → Lib.nDigits n ≤ k + 1
 | 0, n, h => by
  have : n = 0 := by simpa using h
  subst this; unfold Lib.nDigits; rw [dif_pos (by omega)]; omega
 | k + 1, n, h => by
  unfold Lib.nDigits
  split
  ·omega
  ·have := nDigits_le k (n / 10) (by rw [Nat.pow_succ] at h; omega)
   omega
theorem numS_bd {n : Nat} (h : n < 1000000000) : (numS n).size ≤ 10 := by rw [numS_size]; exact nDigits_le 9 n h
theorem mkS_dig (d : Nat) (h : d < 10) : mkS [48 + (d : Int)] = ⟨#[UInt8.ofNat (48 + d)]⟩ := by
 unfold mkS
 have : ((48 : Int) + (d : Int)).toNat = 48 + d := by omega
 simp [this]
theorem decimal_any (n : Nat) (w : World) (h : n ≤ 1000000000000) (ht : Tab w) : Calls Tryz.prog 85 #[.int .i64 (n : Int)] w fun e w' => e = .returned (.string (numS n)) ∧ Below w.heap.size w w' := by
 have hcon := Tryz.strconv_Itoa (n : Int) (by omega) (by omega) w ht
 have he : Lib.itoa (n : Int) = Lib.decDigits n := by unfold Lib.itoa; rw [if_neg (by omega)]; simp
 rw [he] at hcon
 change Calls Tryz.prog 139 _ _ _ at hcon
 have Hcon := Lib.hid hcon
 clear hcon ht he
 go_enter Tryz.func85, Tryz.ntmps85
 go_wp2_with (go_at_call 139; refine Hcon.out.mono ?_; rintro e w' ⟨rfl, k, os, rfl⟩)
 go_ret
 refine ⟨rfl, ⟨rfl, rfl, rfl, ?_, fun i hi => ?_⟩⟩
 ·show w.heap.size ≤ (Sort.grow (w.drewN k) os).heap.size
  unfold Sort.grow; simp
 ·show (Sort.grow (w.drewN k) os).heap[i]? = w.heap[i]?
  unfold Sort.grow
  rw [Array.getElem?_append_left (by simpa using hi)]; rfl
theorem l1Num_any : ∀ (f n : Nat) (w : World), n ≤ f → n ≤ 1000000000000 → Calls Tryz.prog 87 #[.int .i64 (n : Int)] w fun e w' => e = .returned (.string (numS n)) ∧ Below w.heap.size w w' := by
 intro f
 induction f with
 | zero =>
  intro n w h h9
  obtain rfl : n = 0 := by omega
  have e := Lib.hid (numS_small (n := 0) (by omega))
  go_enter Tryz.func87, Tryz.ntmps87
  go_wp2
  go_ret
  exact ⟨ret_str (by rw [e.out]; rfl), (Below.refl _ _).alloc (Nat.le_refl _) _⟩
 | succ f ih =>
  intro n w h h9
  by_cases hs : n < 10
  ·have e := Lib.hid (numS_small hs)
   have e2 := Lib.hid (mkS_dig n hs)
   go_enter Tryz.func87, Tryz.ntmps87
   go_wp2
   go_ret
   exact ⟨ret_str (by rw [e.out, ← e2.out]), (Below.refl _ _).alloc (Nat.le_refl _) _⟩
  ·have e := Lib.hid (numS_big hs)
   have e2 := Lib.hid (mkS_dig (n % 10) (by omega))
   have hih : Hid (∀ W, Calls Tryz.prog 87 #[.int .i64 ((n : Int) / 10)] W fun e w' => ∃ v, e = .returned v ∧ (v = .string (numS (n / 10)) ∧ Below W.heap.size W w')) := Lib.hid (fun W => by have := ih (n / 10) W (by omega) (by omega); rw [show ((n / 10 : Nat) : Int) = (n : Int) / 10 by omega] at this; exact this.mono fun e w' h => ⟨_, h.1, rfl, h.2⟩)
   have hsz : (numS (n / 10)).size ≤ 20 := by rw [numS_size]; exact Nat.le_trans (nDigits_le 12 _ (by omega)) (by omega)
   have hsz2 : (mkS [48 + (n : Int) % 10]).size ≤ 1 := by simp [mkS, ByteArray.size]
   have e3 : Hid (numS (n / 10) ++ mkS [48 + (n : Int) % 10] = numS n) := Lib.hid (by rw [e.out, ← e2.out, show ((n % 10 : Nat) : Int) = (n : Int) % 10 by omega])
   have hsum : ¬ 9223372036854775807 < (numS (n / 10)).size + (mkS [48 + (n : Int) % 10]).size := by omega
   have a1 : IntKind.i64.wrap ((n : Int) / 10) = (n : Int) / 10 := IntWalk.i64_in _ (by omega)
   have a2 : (n : Int).tmod 10 = (n : Int) % 10 := Int.tmod_eq_emod_of_nonneg (by omega)
   have a3 : IntKind.i64.wrap (48 + (n : Int) % 10) = 48 + (n : Int) % 10 := IntWalk.i64_in _ (by omega)
   have a4 : IntKind.u8.wrap (48 + (n : Int) % 10) = 48 + (n : Int) % 10 := IntWalk.u8_in _ (by omega)
   clear ih
   go_enter Tryz.func87, Tryz.ntmps87
   have hc1 : (convert 22 9 (.slice (some ⟨w.heap.size, 0, none⟩) 1 1)).run Tryz.prog (w.alloc (.cells #[.int .u8 (48 + (n : Int) % 10)] 5)).drew = .ok (.string (mkS [48 + (n : Int) % 10])) (w.alloc (.cells #[.int .u8 (48 + (n : Int) % 10)] 5)).drew := run_convert_bytes_arg (P := Tryz.prog) _ 22 5 (by rfl) (by rfl) w.heap.size 0 1 1 [48 + (n : Int) % 10] rfl (fun i hi => by
    obtain rfl : i = 0 := by simp at hi; omega
    show (w.alloc (.cells #[.int .u8 (48 + (n : Int) % 10)] 5)).cell? _ = _
    rw [World.cell?_alloc_new]; rfl) 9 (by rfl)
   go_upto_region 3 with fail
   go_region_law (refine step_callsX (by rfl) 87 (by rfl) #[.int .i64 ((n : Int) / 10)] (by go_simp) (hih.out _) ?_; rintro v w2 ⟨rfl, hb2⟩; (first | (have hq : (convert 22 9 (.slice (some ⟨w.heap.size, 0, none⟩) 1 1)).run Tryz.prog w2 = .ok (.string (mkS [48 + (n : Int) % 10])) w2 := run_convert_bytes_arg (P := Tryz.prog) w2 22 5 (by rfl) (by rfl) w.heap.size 0 1 1 [48 + (n : Int) % 10] rfl (fun i hi => by obtain rfl : i = 0 := (by simp at hi; omega); refine (hb2.cell (p := ⟨w.heap.size, 0 + 0, none⟩) (by simp)).trans ?_; first | (show (w.alloc (.cells #[.int .u8 (48 + (n : Int) % 10)] 5)).cell? _ = _; rw [World.cell?_alloc_new]; rfl) | (show (w.drew.alloc (.cells #[.int .u8 (48 + (n : Int) % 10)] 5)).cell? _ = _; rw [World.cell?_alloc_new]; rfl)) 9 (by rfl)) | (have hq := True.intro)))
   all_goals
    go_wp2
    go_ret
    refine ⟨ret_str e3.out, ?_⟩
    first
     | exact ((Below.refl _ _).drew.trans hb2).alloc (by have := hb2.size; simpa using this) _
     | exact (((Below.refl _ w).alloc (Nat.le_refl _) _).drew).trans (hb2.mono (by simp))
     | exact ((Below.refl _ w).drew.alloc (Nat.le_refl _) _).trans (hb2.mono (by simp))
end Go.Proofs.YtkegbbndmfnolaaGreatDoor
