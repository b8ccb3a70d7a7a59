import Derived.Test.YtkegbbndmfnolaaGreatDoorMBandsL16
/-
 DoBand: the program's side.
-/
namespace Go.Proofs.YtkegbbndmfnolaaGreatDoor
open Go.RowKit
set_option linter.unusedVariables false
set_option linter.unusedSimpArgs false
set_option maxRecDepth 100000
attribute [-go_sem] run_eql_struct run_neq_struct

set_option maxHeartbeats 12800000 in
theorem done_any (b : Bnd) (kd bl yy : Int) (cl : ByteArray) (w : World) (h : RdL w w.heap.size b.m.A 1 encString b.m.x) (hr : RdL w w.heap.size b.RA 2 Rgr.enc b.rx) (hl : b.m.x.length ≤ 1048576) (hp : bandP b) :
  Calls Tryz.prog 78 #[.agg #[.string b.m.name, .int .i64 b.m.stage, .slice b.m.A b.m.x.length b.m.c, .string b.bob, .string b.sing, .int .i64 b.step, .string b.call, .string b.tru, .slice b.RA b.rx.length b.rc], .agg #[.int .i64 kd, .int .i64 bl, .int .i64 yy, .string cl]] w fun e w' => BdRet (doR b kd bl yy cl).1 (doR b kd bl yy cl).2 w e w' := by
 have hx0 : 0 < b.m.x.length := by have := hp.2.1.1; have := hp.2.1.2; omega
 have hrlen : (b.rx.length : Int) = b.m.stage := hp.2.2.2.2.1
 have hst3 : 3 ≤ b.m.stage := hp.1.1.2.stage.1
 have hst8 : b.m.stage ≤ 8 := hp.1.1.2.stage.2
 have hrl0 : 0 < b.rx.length := by omega
 have hrl8 : b.rx.length ≤ 8 := by omega
 have hrow : Hid (isRow b.tru) := Lib.hid hp.2.2.2.1.2
 have hpl : Hid (∀ (i : Nat) (hi : i < b.rx.length), inB b.rx[i].place 1 b.m.stage) := Lib.hid hp.2.2.2.2.2
 have HP := Lib.hid hp
 clear hp
 have hW : ∃ W : World, Hid ((((w.alloc (.cells #[.string b.m.name, .int .i64 b.m.stage, .slice b.m.A b.m.x.length b.m.c, .string b.bob, .string b.sing, .int .i64 b.step, .string b.call, .string b.tru, .slice b.RA b.rx.length b.rc] 36)).alloc (.cells #[.int .i64 kd, .int .i64 bl, .int .i64 yy, .string cl] 45)).alloc (.cells #[Value.string ⟨#[]⟩, .int .i64 0, .slice none 0 0, .string ⟨#[]⟩, .string ⟨#[]⟩, .int .i64 0, .string ⟨#[]⟩, .string ⟨#[]⟩, .slice none 0 0] 36)) = W) ∧ Hid (W.heap.size = w.heap.size + 3) ∧ Hid (Below w.heap.size w W) ∧ Hid (Cells W w.heap.size 9 (fun i => (#[Value.string b.m.name, .int .i64 b.m.stage, .slice b.m.A b.m.x.length b.m.c, .string b.bob, .string b.sing, .int .i64 b.step, .string b.call, .string b.tru, .slice b.RA b.rx.length b.rc] : Array Value).getD i undef)) ∧ Hid (Cells W (w.heap.size + 1) 4 (fun i => (#[Value.int .i64 kd, .int .i64 bl, .int .i64 yy, .string cl] : Array Value).getD i undef)) ∧ Hid (Cells W (w.heap.size + 1 + 1) 9 (fun i => (#[Value.string ⟨#[]⟩, .int .i64 0, .slice none 0 0, .string ⟨#[]⟩, .string ⟨#[]⟩, .int .i64 0, .string ⟨#[]⟩, .string ⟨#[]⟩, .slice none 0 0] : Array Value).getD i undef)) := by
  have z1 : w.heap.size + 1 = (w.alloc (.cells #[.string b.m.name, .int .i64 b.m.stage, .slice b.m.A b.m.x.length b.m.c, .string b.bob, .string b.sing, .int .i64 b.step, .string b.call, .string b.tru, .slice b.RA b.rx.length b.rc] 36)).heap.size := by simp
  have z2 : w.heap.size + 1 + 1 = ((w.alloc (.cells #[.string b.m.name, .int .i64 b.m.stage, .slice b.m.A b.m.x.length b.m.c, .string b.bob, .string b.sing, .int .i64 b.step, .string b.call, .string b.tru, .slice b.RA b.rx.length b.rc] 36)).alloc (.cells #[.int .i64 kd, .int .i64 bl, .int .i64 yy, .string cl] 45)).heap.size := by simp
  refine ⟨_, Lib.hid rfl, Lib.hid (by simp), Lib.hid ((((Below.refl _ _).alloc (Nat.le_refl _) _).alloc (by simp) _).alloc (by simp; omega) _), Lib.hid ?_, Lib.hid ?_, Lib.hid ?_⟩
  ·exact ((Cells.newD _ #[.string b.m.name, .int .i64 b.m.stage, .slice b.m.A b.m.x.length b.m.c, .string b.bob, .string b.sing, .int .i64 b.step, .string b.call, .string b.tru, .slice b.RA b.rx.length b.rc] _).alloc _).alloc _
  ·rw [z1]; exact (Cells.newD _ #[.int .i64 kd, .int .i64 bl, .int .i64 yy, .string cl] _).alloc _
  ·rw [z2]; exact Cells.newD _ #[Value.string ⟨#[]⟩, .int .i64 0, .slice none 0 0, .string ⟨#[]⟩, .string ⟨#[]⟩, .int .i64 0, .string ⟨#[]⟩, .string ⟨#[]⟩, .slice none 0 0] _
 obtain ⟨W, hWe, hWs, hWb, hB, hA, hZ⟩ := hW
 have hWs1 : w.heap.size + 3 ≤ W.heap.size := by have := hWs.out; omega
 have H0 := Lib.hid h
 have Hr0 := Lib.hid hr
 clear h hr
 have u0 : W.cell? ⟨w.heap.size, 0, none⟩ = some (.string b.m.name) := hB.out.cell (i := 0) (by omega)
 have u1 : W.cell? ⟨w.heap.size, 1, none⟩ = some (.int .i64 b.m.stage) := hB.out.cell (i := 1) (by omega)
 have u2 : W.cell? ⟨w.heap.size, 2, none⟩ = some (.slice b.m.A b.m.x.length b.m.c) := hB.out.cell (i := 2) (by omega)
 have u3 : W.cell? ⟨w.heap.size, 3, none⟩ = some (.string b.bob) := hB.out.cell (i := 3) (by omega)
 have u4 : W.cell? ⟨w.heap.size, 4, none⟩ = some (.string b.sing) := hB.out.cell (i := 4) (by omega)
 have u5 : W.cell? ⟨w.heap.size, 5, none⟩ = some (.int .i64 b.step) := hB.out.cell (i := 5) (by omega)
 have u6 : W.cell? ⟨w.heap.size, 6, none⟩ = some (.string b.call) := hB.out.cell (i := 6) (by omega)
 have u7 : W.cell? ⟨w.heap.size, 7, none⟩ = some (.string b.tru) := hB.out.cell (i := 7) (by omega)
 have u8 : W.cell? ⟨w.heap.size, 8, none⟩ = some (.slice b.RA b.rx.length b.rc) := hB.out.cell (i := 8) (by omega)
 go_enter Tryz.func78, Tryz.ntmps78
 go_wp2_with fail
 rw [hWe.out]
 clear hWe
 go_upto_region 4 with (go_at_call 110; refine (copyBand_any b _ ((H0.out.below hWb.out (Nat.le_refl _)).more hWb.out.size) ((Hr0.out.below hWb.out (Nat.le_refl _)).more hWb.out.size) hl hx0 (by omega) hrl0).mono ?_; rintro e wA ⟨v, rfl, hbd, hb1⟩; have hbd2 : ∃ A1 c1 A3 c3 gs, v = .agg #[.string b.m.name, .int .i64 b.m.stage, .slice A1 b.m.x.length c1, .string b.bob, .string b.sing, .int .i64 b.step, .string b.call, .string b.tru, .slice A3 b.rx.length c3] ∧ W.heap.size ≤ gs ∧ gs ≤ wA.heap.size ∧ OwnL wA W.heap.size gs A1 1 encString b.m.x ∧ OwnL wA gs wA.heap.size A3 2 Rgr.enc b.rx := hbd; obtain ⟨A1, c1, A3, c3, gs, rfl, hg1, hg2, ho1, ho3⟩ := hbd2; obtain ⟨ga, rfl, hga1, hga2, _⟩ := ho3.someRgr hrl0; have hO1 := Lib.hid ho1; have hO3 := Lib.hid ho3; have hb1' := Lib.hid hb1; have hs1 := hb1.size; clear ho1 ho3 hbd hb1; clear u0 u1 u2 u3 u4 u5 u6 u7 u8)
 have hbV0 : Below wA.heap.size wA (wA.alloc (.cells #[.string b.m.name, .int .i64 b.m.stage, .slice A1 b.m.x.length c1, .string b.bob, .string b.sing, .int .i64 b.step, .string b.call, .string b.tru, .slice (some ⟨ga, 0, none⟩) b.rx.length c3] 36)) := (Below.refl _ _).alloc (Nat.le_refl _) _
 have hCo : Hid (Cells (wA.alloc (.cells #[.string b.m.name, .int .i64 b.m.stage, .slice A1 b.m.x.length c1, .string b.bob, .string b.sing, .int .i64 b.step, .string b.call, .string b.tru, .slice (some ⟨ga, 0, none⟩) b.rx.length c3] 36)) wA.heap.size 9 (fun i => ([Value.string b.m.name, .int .i64 b.m.stage, .slice A1 b.m.x.length c1, .string b.bob, .string b.sing, .int .i64 b.step, .string b.call, .string b.tru, .slice (some ⟨ga, 0, none⟩) b.rx.length c3] : List Value).getD i undef)) := Lib.hid ((Cells.newD wA #[.string b.m.name, .int .i64 b.m.stage, .slice A1 b.m.x.length c1, .string b.bob, .string b.sing, .int .i64 b.step, .string b.call, .string b.tru, .slice (some ⟨ga, 0, none⟩) b.rx.length c3] 36).congr fun i hi => by
  match i, hi with
  | 0, _ => rfl
  | 1, _ => rfl
  | 2, _ => rfl
  | 3, _ => rfl
  | 4, _ => rfl
  | 5, _ => rfl
  | 6, _ => rfl
  | 7, _ => rfl
  | 8, _ => rfl)
 have hbV := Lib.hid (hb1'.out.trans (hbV0.mono hb1'.out.size))
 have hBV := Lib.hid (hB.out.below hbV.out (by omega))
 have hAV := Lib.hid (hA.out.below hbV.out (by omega))
 have hZV := Lib.hid (hZ.out.below hbV.out (by omega))
 have hO1V := Lib.hid (hO1.out.later hbV0)
 have hO3V := Lib.hid (hO3.out.later hbV0)
 have hsV : wA.heap.size + 1 ≤ (wA.alloc (.cells #[.string b.m.name, .int .i64 b.m.stage, .slice A1 b.m.x.length c1, .string b.bob, .string b.sing, .int .i64 b.step, .string b.call, .string b.tru, .slice (some ⟨ga, 0, none⟩) b.rx.length c3] 36)).heap.size := by simp
 have hWV := Lib.hid (hWb.out.trans (hbV.out.mono hWb.out.size))
 clear hbV0 hO1 hO3 hB hZ hA hbV hb1'
 generalize (wA.alloc (.cells #[.string b.m.name, .int .i64 b.m.stage, .slice A1 b.m.x.length c1, .string b.bob, .string b.sing, .int .i64 b.step, .string b.call, .string b.tru, .slice (some ⟨ga, 0, none⟩) b.rx.length c3] 36)) = V at *
 have a0 : V.cell? ⟨w.heap.size + 1, 0, none⟩ = some (.int .i64 kd) := hAV.out.cell (i := 0) (by omega)
 have a1 : V.cell? ⟨w.heap.size + 1, 1, none⟩ = some (.int .i64 bl) := hAV.out.cell (i := 1) (by omega)
 have a2 : V.cell? ⟨w.heap.size + 1, 2, none⟩ = some (.int .i64 yy) := hAV.out.cell (i := 2) (by omega)
 have a3 : V.cell? ⟨w.heap.size + 1, 3, none⟩ = some (.string cl) := hAV.out.cell (i := 3) (by omega)
 by_cases c1 : actE kd bl yy cl 1 0 0 ⟨#[]⟩
 ·have D := Lib.hid (doR_1 (b := b) c1)
  have E1 : ∀ w : World, (binOp .eql 45 (.agg #[.int .i64 kd, .int .i64 bl, .int .i64 yy, .string cl]) (.agg #[.int .i64 1, .int .i64 0, .int .i64 0, .string ⟨#[]⟩])).run Tryz.prog w = .ok (.bool true) w := fun w => eqAct_t (c1) w
  clear c1
  obtain ⟨d, hd⟩ : ∃ d, Hid (stepD b = d) := ⟨_, Lib.hid rfl⟩
  rw [hd.out] at D
  have u0 : V.cell? ⟨w.heap.size, 0, none⟩ = some (.string b.m.name) := hBV.out.cell (i := 0) (by omega)
  have u1 : V.cell? ⟨w.heap.size, 1, none⟩ = some (.int .i64 b.m.stage) := hBV.out.cell (i := 1) (by omega)
  have u2 : V.cell? ⟨w.heap.size, 2, none⟩ = some (.slice b.m.A b.m.x.length b.m.c) := hBV.out.cell (i := 2) (by omega)
  have u3 : V.cell? ⟨w.heap.size, 3, none⟩ = some (.string b.bob) := hBV.out.cell (i := 3) (by omega)
  have u4 : V.cell? ⟨w.heap.size, 4, none⟩ = some (.string b.sing) := hBV.out.cell (i := 4) (by omega)
  have u5 : V.cell? ⟨w.heap.size, 5, none⟩ = some (.int .i64 b.step) := hBV.out.cell (i := 5) (by omega)
  have u6 : V.cell? ⟨w.heap.size, 6, none⟩ = some (.string b.call) := hBV.out.cell (i := 6) (by omega)
  have u7 : V.cell? ⟨w.heap.size, 7, none⟩ = some (.string b.tru) := hBV.out.cell (i := 7) (by omega)
  have u8 : V.cell? ⟨w.heap.size, 8, none⟩ = some (.slice b.RA b.rx.length b.rc) := hBV.out.cell (i := 8) (by omega)
  go_wp2_with (go_at_call 81; refine (stepped_any b _ ((H0.out.below hWV.out (Nat.le_refl _)).more hWV.out.size) ((Hr0.out.below hWV.out (Nat.le_refl _)).more hWV.out.size) hl HP.out).mono ?_; rw [hd.out]; rintro e w2 ⟨v2, rfl, hbd1, hb2'⟩; obtain ⟨B1, e1, B3, e3, gz, rfl, hq1, hq2, ho1, ho3⟩ := hbd1; have HO1 := Lib.hid ho1; have HO3 := Lib.hid ho3; have hb2 := Lib.hid hb2'; clear ho1 ho3 hb2'; clear u0 u1 u2 u3 u4 u5 u6 u7 u8; have hCr := hZV.out.later hb2.out; have r0 := hCr.cell (i := 0) (by omega); have rf0 := hCr.free (i := 0) (by omega); have r1 := hCr.cell (i := 1) (by omega); have rf1 := hCr.free (i := 1) (by omega); have r2 := hCr.cell (i := 2) (by omega); have rf2 := hCr.free (i := 2) (by omega); have r3 := hCr.cell (i := 3) (by omega); have rf3 := hCr.free (i := 3) (by omega); have r4 := hCr.cell (i := 4) (by omega); have rf4 := hCr.free (i := 4) (by omega); have r5 := hCr.cell (i := 5) (by omega); have rf5 := hCr.free (i := 5) (by omega); have r6 := hCr.cell (i := 6) (by omega); have rf6 := hCr.free (i := 6) (by omega); have r7 := hCr.cell (i := 7) (by omega); have rf7 := hCr.free (i := 7) (by omega); have r8 := hCr.cell (i := 8) (by omega); have rf8 := hCr.free (i := 8) (by omega); clear hCr)
  have hsz := hb2.out.size
  refine bodyPost_ret (v := .tuple #[.agg #[.string d.name, .int .i64 d.stage, .slice B1 d.x.length e1, .string d.bob, .string d.sing, .int .i64 d.step, .string d.call, .string d.tru, .slice B3 d.rx.length e3], .bool true]) (by simp [results, Tryz.results78, go_sem, r0, rf0, r1, rf1, r2, rf2, r3, rf3, r4, rf4, r5, rf5, r6, rf6, r7, rf7, r8, rf8]) rfl ?_
  have kk : Chg (w.heap.size + 1 + 1) (w.heap.size + 1 + 1 + 1) w2 (setN w2 (w.heap.size + 1 + 1) 0 [Value.string d.name, .int .i64 d.stage, .slice B1 d.x.length e1, .string d.bob, .string d.sing, .int .i64 d.step, .string d.call, .string d.tru, .slice B3 d.rx.length e3]) := Chg.setN (Nat.le_refl _) (Nat.lt_succ_self _) _ (Chg.refl _ _ w2)
  have kO1 := (HO1.out.chg kk (.inr (by omega))).mono (show w.heap.size ≤ V.heap.size by omega) (Nat.le_refl _)
  have kO3 := (HO3.out.chg kk (.inr (by omega))).mono (Nat.le_refl _) kk.size
  have kBB := Below.chg (hWV.out.trans (hb2.out.mono hWV.out.size)) kk (by omega) (by omega)
  have kks := kk.size
  refine ⟨_, by rw [D.out], ?_, kBB⟩
  rw [D.out]
  exact ⟨B1, e1, B3, e3, gz, rfl, by omega, Nat.le_trans hq2 kks, kO1, kO3⟩
 have E1 : ∀ w : World, (binOp .eql 45 (.agg #[.int .i64 kd, .int .i64 bl, .int .i64 yy, .string cl]) (.agg #[.int .i64 1, .int .i64 0, .int .i64 0, .string ⟨#[]⟩])).run Tryz.prog w = .ok (.bool false) w := fun w => eqAct_f (c1) w
 by_cases c2 : actE kd bl yy cl 2 0 0 cl ∧ isCallP cl
 ·have D := Lib.hid (doR_2 (b := b) c1 c2)
  have E2 : ∀ w : World, (binOp .eql 45 (.agg #[.int .i64 kd, .int .i64 bl, .int .i64 yy, .string cl]) (.agg #[.int .i64 2, .int .i64 0, .int .i64 0, .string cl])).run Tryz.prog w = .ok (.bool true) w := fun w => eqAct_t (c2.1) w
  have e2 := B_t c2.2
  clear c1 c2
  have p6 := hCo.out.cell (i := 6) (by omega)
  have p6f := hCo.out.free (i := 6) (by omega)
  go_upto_region 16 with ((go_at_call 72; refine (isCall_any _ _).mono ?_; rintro e w' ⟨rfl, rfl⟩))
  have kE : Chg wA.heap.size (wA.heap.size + 1) V (V.setCell ⟨wA.heap.size, 6, none⟩ (.string cl)) := (Chg.refl _ _ V).setCell (p := ⟨wA.heap.size, 6, none⟩) (Nat.le_refl _) (Nat.lt_succ_self _) _
  have hCoF : Hid (Cells (V.setCell ⟨wA.heap.size, 6, none⟩ (.string cl)) wA.heap.size 9 (fun i => ([Value.string b.m.name, .int .i64 b.m.stage, .slice A1 b.m.x.length c1, .string b.bob, .string b.sing, .int .i64 b.step, .string cl, .string b.tru, .slice (some ⟨ga, 0, none⟩) b.rx.length c3] : List Value).getD i undef)) := Lib.hid ((hCo.out.set (i := 6) (by omega) (.string cl)).congr fun i hi => by
   match i, hi with
   | 0, _ => rfl
   | 1, _ => rfl
   | 2, _ => rfl
   | 3, _ => rfl
   | 4, _ => rfl
   | 5, _ => rfl
   | 6, _ => rfl
   | 7, _ => rfl
   | 8, _ => rfl)
  have hZF := Lib.hid (hZV.out.chg kE (.inl (show w.heap.size + 1 + 1 < wA.heap.size by omega)))
  have hO1F := Lib.hid (hO1V.out.chg kE (.inl hg2))
  have hO3F := Lib.hid (hO3V.out.chg kE (.inl (Nat.le_refl _)))
  have hWF := Lib.hid (Below.chg hWV.out kE (by omega) hWV.out.size)
  have hsF := Nat.le_trans hsV kE.size
  clear kE hCo hZV hO1V hO3V hWV hAV hBV p6 p6f a0 a1 a2 a3
  generalize (V.setCell ⟨wA.heap.size, 6, none⟩ (.string cl)) = VF at *
  have c0_ : VF.cell? ⟨wA.heap.size, 0, none⟩ = some (.string b.m.name) := hCoF.out.cell (i := 0) (by omega)
  have c1_ : VF.cell? ⟨wA.heap.size, 1, none⟩ = some (.int .i64 b.m.stage) := hCoF.out.cell (i := 1) (by omega)
  have c2_ : VF.cell? ⟨wA.heap.size, 2, none⟩ = some (.slice A1 b.m.x.length c1) := hCoF.out.cell (i := 2) (by omega)
  have c3_ : VF.cell? ⟨wA.heap.size, 3, none⟩ = some (.string b.bob) := hCoF.out.cell (i := 3) (by omega)
  have c4_ : VF.cell? ⟨wA.heap.size, 4, none⟩ = some (.string b.sing) := hCoF.out.cell (i := 4) (by omega)
  have c5_ : VF.cell? ⟨wA.heap.size, 5, none⟩ = some (.int .i64 b.step) := hCoF.out.cell (i := 5) (by omega)
  have c6_ : VF.cell? ⟨wA.heap.size, 6, none⟩ = some (.string cl) := hCoF.out.cell (i := 6) (by omega)
  have c7_ : VF.cell? ⟨wA.heap.size, 7, none⟩ = some (.string b.tru) := hCoF.out.cell (i := 7) (by omega)
  have c8_ : VF.cell? ⟨wA.heap.size, 8, none⟩ = some (.slice (some ⟨ga, 0, none⟩) b.rx.length c3) := hCoF.out.cell (i := 8) (by omega)
  have hCr := hZF.out
  have r0 := hCr.cell (i := 0) (by omega)
  have rf0 := hCr.free (i := 0) (by omega)
  have r1 := hCr.cell (i := 1) (by omega)
  have rf1 := hCr.free (i := 1) (by omega)
  have r2 := hCr.cell (i := 2) (by omega)
  have rf2 := hCr.free (i := 2) (by omega)
  have r3 := hCr.cell (i := 3) (by omega)
  have rf3 := hCr.free (i := 3) (by omega)
  have r4 := hCr.cell (i := 4) (by omega)
  have rf4 := hCr.free (i := 4) (by omega)
  have r5 := hCr.cell (i := 5) (by omega)
  have rf5 := hCr.free (i := 5) (by omega)
  have r6 := hCr.cell (i := 6) (by omega)
  have rf6 := hCr.free (i := 6) (by omega)
  have r7 := hCr.cell (i := 7) (by omega)
  have rf7 := hCr.free (i := 7) (by omega)
  have r8 := hCr.cell (i := 8) (by omega)
  have rf8 := hCr.free (i := 8) (by omega)
  clear hCr
  go_wp2_with fail
  refine bodyPost_ret (v := .tuple #[.agg #[.string b.m.name, .int .i64 b.m.stage, .slice A1 b.m.x.length c1, .string b.bob, .string b.sing, .int .i64 b.step, .string cl, .string b.tru, .slice (some ⟨ga, 0, none⟩) b.rx.length c3], .bool true]) (by simp [results, Tryz.results78, go_sem, r0, rf0, r1, rf1, r2, rf2, r3, rf3, r4, rf4, r5, rf5, r6, rf6, r7, rf7, r8, rf8]) rfl ?_
  have kk : Chg (w.heap.size + 1 + 1) (w.heap.size + 1 + 1 + 1) VF (setN VF (w.heap.size + 1 + 1) 0 [Value.string b.m.name, .int .i64 b.m.stage, .slice A1 b.m.x.length c1, .string b.bob, .string b.sing, .int .i64 b.step, .string cl, .string b.tru, .slice (some ⟨ga, 0, none⟩) b.rx.length c3]) := Chg.setN (Nat.le_refl _) (Nat.lt_succ_self _) _ (Chg.refl _ _ VF)
  have kO1 := (hO1F.out.chg kk (.inr (by omega))).mono (show w.heap.size ≤ W.heap.size by omega) (Nat.le_refl _)
  have kO3 := (hO3F.out.chg kk (.inr (by omega))).mono (Nat.le_refl _) (Nat.le_trans (show wA.heap.size ≤ VF.heap.size by omega) kk.size)
  have kBB := Below.chg hWF.out kk (by omega) (by omega)
  have kks := kk.size
  have hlr : (b.rx).length = b.rx.length := by simp
  refine ⟨_, by rw [D.out], ?_, kBB⟩
  rw [D.out]
  exact ⟨A1, c1, some ⟨ga, 0, none⟩, c3, gs, by first | (simp only [List.length_set]; done) | rfl, by omega, Nat.le_trans hg2 (Nat.le_trans (show wA.heap.size ≤ VF.heap.size by omega) kks), kO1, kO3⟩
 by_cases c3 : inB bl 1 b.m.stage
 case neg =>
  have D := Lib.hid (doR_n (b := b) c1 c2 c3)
  have e3 := B_f c3
  clear c1
  by_cases c4 : actE kd bl yy cl 2 0 0 cl
  ·have e2 := B_f (show ¬ isCallP cl from fun x => c2 ⟨c4, x⟩)
   have E2 : ∀ w : World, (binOp .eql 45 (.agg #[.int .i64 kd, .int .i64 bl, .int .i64 yy, .string cl]) (.agg #[.int .i64 2, .int .i64 0, .int .i64 0, .string cl])).run Tryz.prog w = .ok (.bool true) w := fun w => eqAct_t (c4) w
   clear c2 c3 c4
   have hCr := hZV.out
   have r0 := hCr.cell (i := 0) (by omega)
   have rf0 := hCr.free (i := 0) (by omega)
   have r1 := hCr.cell (i := 1) (by omega)
   have rf1 := hCr.free (i := 1) (by omega)
   have r2 := hCr.cell (i := 2) (by omega)
   have rf2 := hCr.free (i := 2) (by omega)
   have r3 := hCr.cell (i := 3) (by omega)
   have rf3 := hCr.free (i := 3) (by omega)
   have r4 := hCr.cell (i := 4) (by omega)
   have rf4 := hCr.free (i := 4) (by omega)
   have r5 := hCr.cell (i := 5) (by omega)
   have rf5 := hCr.free (i := 5) (by omega)
   have r6 := hCr.cell (i := 6) (by omega)
   have rf6 := hCr.free (i := 6) (by omega)
   have r7 := hCr.cell (i := 7) (by omega)
   have rf7 := hCr.free (i := 7) (by omega)
   have r8 := hCr.cell (i := 8) (by omega)
   have rf8 := hCr.free (i := 8) (by omega)
   clear hCr
   go_wp2_with (first | (go_at_call 72; refine (isCall_any _ _).mono ?_; rintro e w' ⟨rfl, rfl⟩) | (go_at_call 74; refine (isBell_any _ _ _).mono ?_; rintro e w' ⟨rfl, rfl⟩))
   refine bodyPost_ret (v := .tuple #[.agg #[Value.string ⟨#[]⟩, .int .i64 0, .slice none 0 0, .string ⟨#[]⟩, .string ⟨#[]⟩, .int .i64 0, .string ⟨#[]⟩, .string ⟨#[]⟩, .slice none 0 0], .bool false]) (by simp [results, Tryz.results78, go_sem, r0, rf0, r1, rf1, r2, rf2, r3, rf3, r4, rf4, r5, rf5, r6, rf6, r7, rf7, r8, rf8]) rfl ?_
   have kk : Chg (w.heap.size + 1 + 1) (w.heap.size + 1 + 1 + 1) V (setN V (w.heap.size + 1 + 1) 0 [Value.string ⟨#[]⟩, .int .i64 0, .slice none 0 0, .string ⟨#[]⟩, .string ⟨#[]⟩, .int .i64 0, .string ⟨#[]⟩, .string ⟨#[]⟩, .slice none 0 0]) := Chg.setN (Nat.le_refl _) (Nat.lt_succ_self _) _ (Chg.refl _ _ V)
   have kBB := Below.chg hWV.out kk (by omega) (by omega)
   exact ⟨_, by rw [D.out], by rw [D.out]; exact BdAt.zero _ _ _ kBB.size, kBB⟩
  have E2 : ∀ w : World, (binOp .eql 45 (.agg #[.int .i64 kd, .int .i64 bl, .int .i64 yy, .string cl]) (.agg #[.int .i64 2, .int .i64 0, .int .i64 0, .string cl])).run Tryz.prog w = .ok (.bool false) w := fun w => eqAct_f (c4) w
  clear c2 c3 c4
  have hCr := hZV.out
  have r0 := hCr.cell (i := 0) (by omega)
  have rf0 := hCr.free (i := 0) (by omega)
  have r1 := hCr.cell (i := 1) (by omega)
  have rf1 := hCr.free (i := 1) (by omega)
  have r2 := hCr.cell (i := 2) (by omega)
  have rf2 := hCr.free (i := 2) (by omega)
  have r3 := hCr.cell (i := 3) (by omega)
  have rf3 := hCr.free (i := 3) (by omega)
  have r4 := hCr.cell (i := 4) (by omega)
  have rf4 := hCr.free (i := 4) (by omega)
  have r5 := hCr.cell (i := 5) (by omega)
  have rf5 := hCr.free (i := 5) (by omega)
  have r6 := hCr.cell (i := 6) (by omega)
  have rf6 := hCr.free (i := 6) (by omega)
  have r7 := hCr.cell (i := 7) (by omega)
  have rf7 := hCr.free (i := 7) (by omega)
  have r8 := hCr.cell (i := 8) (by omega)
  have rf8 := hCr.free (i := 8) (by omega)
  clear hCr
  go_wp2_with (first | (go_at_call 72; refine (isCall_any _ _).mono ?_; rintro e w' ⟨rfl, rfl⟩) | (go_at_call 74; refine (isBell_any _ _ _).mono ?_; rintro e w' ⟨rfl, rfl⟩))
  refine bodyPost_ret (v := .tuple #[.agg #[Value.string ⟨#[]⟩, .int .i64 0, .slice none 0 0, .string ⟨#[]⟩, .string ⟨#[]⟩, .int .i64 0, .string ⟨#[]⟩, .string ⟨#[]⟩, .slice none 0 0], .bool false]) (by simp [results, Tryz.results78, go_sem, r0, rf0, r1, rf1, r2, rf2, r3, rf3, r4, rf4, r5, rf5, r6, rf6, r7, rf7, r8, rf8]) rfl ?_
  have kk : Chg (w.heap.size + 1 + 1) (w.heap.size + 1 + 1 + 1) V (setN V (w.heap.size + 1 + 1) 0 [Value.string ⟨#[]⟩, .int .i64 0, .slice none 0 0, .string ⟨#[]⟩, .string ⟨#[]⟩, .int .i64 0, .string ⟨#[]⟩, .string ⟨#[]⟩, .slice none 0 0]) := Chg.setN (Nat.le_refl _) (Nat.lt_succ_self _) _ (Chg.refl _ _ V)
  have kBB := Below.chg hWV.out kk (by omega) (by omega)
  exact ⟨_, by rw [D.out], by rw [D.out]; exact BdAt.zero _ _ _ kBB.size, kBB⟩
 have C3 := Lib.hid c3
 have e3 := B_t c3
 obtain ⟨i, hi⟩ : ∃ i : Nat, bl = (i : Int) + 1 := ⟨(bl - 1).toNat, by have := c3.1; omega⟩
 subst hi
 have hil : i < b.rx.length := by have := c3.2; omega
 have hbi : Hid (b.at_ ((i : Int) + 1) = b.rx[i]) := Lib.hid (by unfold Bnd.at_; rw [show ((i : Int) + 1).toNat - 1 = i by omega, List.getD_eq_getElem?_getD, List.getElem?_eq_getElem hil]; rfl)
 have hbp : Hid (∀ r, b.put ((i : Int) + 1) r = ⟨b.m.name, b.m.stage, b.m.x, b.bob, b.sing, b.step, b.call, b.tru, b.rx.set i r⟩) := Lib.hid (fun r => by unfold Bnd.put; rw [show ((i : Int) + 1).toNat - 1 = i by omega]; rfl)
 have E2 : ∀ w : World, (binOp .eql 45 (.agg #[.int .i64 kd, .int .i64 ((i : Int) + 1), .int .i64 yy, .string cl]) (.agg #[.int .i64 2, .int .i64 0, .int .i64 0, .string cl])).run Tryz.prog w = .ok (.bool false) w := fun w => eqAct_f (fun x => by have := x.2.1; omega) w
 clear c1 c2 c3
 obtain ⟨r0, r0f, r1, r1f⟩ := hO3V.out.cellRgr i hil
 obtain ⟨pl, hpl1⟩ : ∃ pl, Hid (b.rx[i].place = pl) := ⟨_, Lib.hid rfl⟩
 obtain ⟨df, hdf1⟩ : ∃ df, Hid (b.rx[i].deaf = df) := ⟨_, Lib.hid rfl⟩
 rw [hpl1.out] at r0
 rw [hdf1.out] at r1
 have hplb : 1 ≤ pl ∧ pl ≤ 8 := by have := hpl.out i hil; rw [hpl1.out] at this; have h1 := this.1; have h2 := this.2; omega
 have q8 : V.cell? ⟨wA.heap.size, 8, none⟩ = some (.slice (some ⟨ga, 0, none⟩) b.rx.length c3) := hCo.out.cell (i := 8) (by omega)
 by_cases c3 : actE kd ((i : Int) + 1) yy cl 3 ((i : Int) + 1) 0 ⟨#[]⟩
 ·have D := Lib.hid (doR_3 (b := b) C3.out c3)
  rw [hbi.out, hbp.out, hpl1.out] at D
  have E3 : ∀ w : World, (binOp .eql 45 (.agg #[.int .i64 kd, .int .i64 ((i : Int) + 1), .int .i64 yy, .string cl]) (.agg #[.int .i64 3, .int .i64 ((i : Int) + 1), .int .i64 0, .string ⟨#[]⟩])).run Tryz.prog w = .ok (.bool true) w := fun w => eqAct_t (c3) w
  clear c3
  go_upto_region 16 with ((go_at_call 74; refine (isBell_any _ _ _).mono ?_; rintro e w' ⟨rfl, rfl⟩))
  have kE : Chg ga (ga + 1) V (V.setCell ⟨ga, i * 2 + 1, none⟩ (.bool true)) := (Chg.refl _ _ V).setCell (p := ⟨ga, i * 2 + 1, none⟩) (Nat.le_refl _) (Nat.lt_succ_self _) _
  have hO3F : Hid (OwnL (V.setCell ⟨ga, i * 2 + 1, none⟩ (.bool true)) gs wA.heap.size (some ⟨ga, 0, none⟩) 2 Rgr.enc (b.rx.set i ⟨pl, true⟩)) := Lib.hid (by have := hO3V.out.setDeaf i hil (true); rw [hpl1.out] at this; exact this)
  have hCoF := Lib.hid (hCo.out.chg kE (.inr (show ga + 1 ≤ wA.heap.size by omega)))
  have hZF := Lib.hid (hZV.out.chg kE (.inl (show w.heap.size + 1 + 1 < ga by omega)))
  have hO1F := Lib.hid (hO1V.out.chg kE (.inl (by omega)))
  have hWF := Lib.hid (Below.chg hWV.out kE (by omega) hWV.out.size)
  have hsF := Nat.le_trans hsV kE.size
  clear kE hCo hZV hO1V hO3V hWV
  generalize (V.setCell ⟨ga, i * 2 + 1, none⟩ (.bool true)) = VF at *
  have c0_ : VF.cell? ⟨wA.heap.size, 0, none⟩ = some (.string b.m.name) := hCoF.out.cell (i := 0) (by omega)
  have c1_ : VF.cell? ⟨wA.heap.size, 1, none⟩ = some (.int .i64 b.m.stage) := hCoF.out.cell (i := 1) (by omega)
  have c2_ : VF.cell? ⟨wA.heap.size, 2, none⟩ = some (.slice A1 b.m.x.length c1) := hCoF.out.cell (i := 2) (by omega)
  have c3_ : VF.cell? ⟨wA.heap.size, 3, none⟩ = some (.string b.bob) := hCoF.out.cell (i := 3) (by omega)
  have c4_ : VF.cell? ⟨wA.heap.size, 4, none⟩ = some (.string b.sing) := hCoF.out.cell (i := 4) (by omega)
  have c5_ : VF.cell? ⟨wA.heap.size, 5, none⟩ = some (.int .i64 b.step) := hCoF.out.cell (i := 5) (by omega)
  have c6_ : VF.cell? ⟨wA.heap.size, 6, none⟩ = some (.string b.call) := hCoF.out.cell (i := 6) (by omega)
  have c7_ : VF.cell? ⟨wA.heap.size, 7, none⟩ = some (.string b.tru) := hCoF.out.cell (i := 7) (by omega)
  have c8_ : VF.cell? ⟨wA.heap.size, 8, none⟩ = some (.slice (some ⟨ga, 0, none⟩) b.rx.length c3) := hCoF.out.cell (i := 8) (by omega)
  have hCr := hZF.out
  have r0 := hCr.cell (i := 0) (by omega)
  have rf0 := hCr.free (i := 0) (by omega)
  have r1 := hCr.cell (i := 1) (by omega)
  have rf1 := hCr.free (i := 1) (by omega)
  have r2 := hCr.cell (i := 2) (by omega)
  have rf2 := hCr.free (i := 2) (by omega)
  have r3 := hCr.cell (i := 3) (by omega)
  have rf3 := hCr.free (i := 3) (by omega)
  have r4 := hCr.cell (i := 4) (by omega)
  have rf4 := hCr.free (i := 4) (by omega)
  have r5 := hCr.cell (i := 5) (by omega)
  have rf5 := hCr.free (i := 5) (by omega)
  have r6 := hCr.cell (i := 6) (by omega)
  have rf6 := hCr.free (i := 6) (by omega)
  have r7 := hCr.cell (i := 7) (by omega)
  have rf7 := hCr.free (i := 7) (by omega)
  have r8 := hCr.cell (i := 8) (by omega)
  have rf8 := hCr.free (i := 8) (by omega)
  clear hCr
  go_wp2_with fail
  refine bodyPost_ret (v := .tuple #[.agg #[.string b.m.name, .int .i64 b.m.stage, .slice A1 b.m.x.length c1, .string b.bob, .string b.sing, .int .i64 b.step, .string b.call, .string b.tru, .slice (some ⟨ga, 0, none⟩) b.rx.length c3], .bool true]) (by simp [results, Tryz.results78, go_sem, r0, rf0, r1, rf1, r2, rf2, r3, rf3, r4, rf4, r5, rf5, r6, rf6, r7, rf7, r8, rf8]) rfl ?_
  have kk : Chg (w.heap.size + 1 + 1) (w.heap.size + 1 + 1 + 1) VF (setN VF (w.heap.size + 1 + 1) 0 [Value.string b.m.name, .int .i64 b.m.stage, .slice A1 b.m.x.length c1, .string b.bob, .string b.sing, .int .i64 b.step, .string b.call, .string b.tru, .slice (some ⟨ga, 0, none⟩) b.rx.length c3]) := Chg.setN (Nat.le_refl _) (Nat.lt_succ_self _) _ (Chg.refl _ _ VF)
  have kO1 := (hO1F.out.chg kk (.inr (by omega))).mono (show w.heap.size ≤ W.heap.size by omega) (Nat.le_refl _)
  have kO3 := (hO3F.out.chg kk (.inr (by omega))).mono (Nat.le_refl _) (Nat.le_trans (show wA.heap.size ≤ VF.heap.size by omega) kk.size)
  have kBB := Below.chg hWF.out kk (by omega) (by omega)
  have kks := kk.size
  have hlr : (b.rx.set i ⟨pl, true⟩).length = b.rx.length := by simp
  refine ⟨_, by rw [D.out], ?_, kBB⟩
  rw [D.out]
  exact ⟨A1, c1, some ⟨ga, 0, none⟩, c3, gs, by first | (simp only [List.length_set]; done) | rfl, by omega, Nat.le_trans hg2 (Nat.le_trans (show wA.heap.size ≤ VF.heap.size by omega) kks), kO1, kO3⟩
 have E3 : ∀ w : World, (binOp .eql 45 (.agg #[.int .i64 kd, .int .i64 ((i : Int) + 1), .int .i64 yy, .string cl]) (.agg #[.int .i64 3, .int .i64 ((i : Int) + 1), .int .i64 0, .string ⟨#[]⟩])).run Tryz.prog w = .ok (.bool false) w := fun w => eqAct_f (c3) w
 by_cases c5 : actE kd ((i : Int) + 1) yy cl 5 ((i : Int) + 1) 0 ⟨#[]⟩
 ·have D := Lib.hid (doR_5 (b := b) C3.out c5)
  rw [hbi.out, hbp.out, hdf1.out] at D
  have E5 : ∀ w : World, (binOp .eql 45 (.agg #[.int .i64 kd, .int .i64 ((i : Int) + 1), .int .i64 yy, .string cl]) (.agg #[.int .i64 5, .int .i64 ((i : Int) + 1), .int .i64 0, .string ⟨#[]⟩])).run Tryz.prog w = .ok (.bool true) w := fun w => eqAct_t (c5) w
  clear c3 c5
  obtain ⟨ps, hps⟩ : ∃ ps, Hid (placeS b.tru ((i : Int) + 1) = ps) := ⟨_, Lib.hid rfl⟩
  rw [hps.out] at D
  have u7 : V.cell? ⟨w.heap.size, 7, none⟩ = some (.string b.tru) := hBV.out.cell (i := 7) (by omega)
  have hlti : (i : Int) < (b.rx.length : Int) := by omega
  go_upto_region 13 with ((go_at_call 74; refine (isBell_any _ _ _).mono ?_; rintro e w' ⟨rfl, rfl⟩))
  have la1 := Later.cell a1 (show w.heap.size + 1 < V.heap.size by omega)
  have lq8 := Later.cell q8 (show wA.heap.size < V.heap.size by omega)
  have lu7 := Later.cell u7 (show w.heap.size < V.heap.size by omega)
  clear a0 a1 a2 a3 q8 u7
  refine wp_region_G (by kernel_rfl) [.q, .q, .q, .q, .q, .q, .q, .q, .q, .s (fun _ u lo hi w' => u = .int .i64 ps), .q, .q, .u] [0, 0, 0, 0, 0, 0, 0, 0, 0, 1, 0, 0, 3] rfl 3 (by kernel_rfl) (inC V) (V).heap.size (inC.size V) (inC.of (Below.refl _ _).drew) ?_
  (refine wpG_quiets 9 _ _ _ _ (by first | exact cls_none rfl | exact fun w h => h.1) (by intro j hj; rcases j with _ | _ | _ | _ | _ | _ | _ | _ | _ | _ | j <;> first | exact ⟨rfl, ⟨_, rfl, rfl⟩, rfl⟩ | (exfalso; omega)) ?_; simp only [List.take_succ_cons, List.take_zero, List.drop_succ_cons, List.drop_zero, Nat.zero_add, Nat.reduceAdd]; change wpQuiet _ _ (fun wq9 => ∃ x : Later V, wq9 = x.W) _ _ _; (repeat (go_big_quiet_step (fail))); refine wpQuiet_nil ?_; try dsimp only)
  (refine wpG_call _ rfl rfl rfl rfl (fun u lo hi => loc_pure _) 102 #[.string b.tru, .int .i64 ((i : Int) + 1)] (by intro w; go_simp) (by intro w1 hw1 hd; (refine (placeOf_any b.tru ((i : Int) + 1) _ hrow.out (by omega) (by omega)).mono ?_; rintro e w2 ⟨rfl, rfl⟩; rw [hps.out]; exact ⟨_, rfl, hw1, eff_of_below (Below.refl _ _), rfl⟩)) ?_)
  (intro um lom him hsat; obtain ⟨w1, hw1⟩ := hsat; have hr : um = .int .i64 ps := (hw1.rec rfl 9).2.2; obtain rfl := hr; clear hw1; simp only [Act.put, List.setIfInBounds_toArray, List.set_cons_zero, List.set_cons_succ, Nat.reduceAdd])
  (refine wpG_quiets 2 _ _ _ _ (by first | exact cls_none rfl | exact fun w h => h.1) (by intro j hj; rcases j with _ | _ | _ | _ | _ | _ | _ | _ | _ | _ | j <;> first | exact ⟨rfl, ⟨_, rfl, rfl⟩, rfl⟩ | (exfalso; omega)) ?_; simp only [List.take_succ_cons, List.take_zero, List.drop_succ_cons, List.drop_zero, Nat.zero_add, Nat.reduceAdd]; change wpQuiet _ _ (fun wq9 => ∃ x : Later V, wq9 = x.W) _ _ _; (repeat (go_big_quiet_step (fail))); refine wpQuiet_nil ?_; try dsimp only)
  refine wpG_u (fun w' => w'.setCell ⟨ga, i * 2, none⟩ (.int .i64 ps)) rfl rfl rfl rfl (by intro w1 hw1; have hb1 := (hw1.cls rfl).below; have p0 := (hb1.cell (p := ⟨ga, i * 2, none⟩) (show ga < V.heap.size by omega)).trans r0; have p0f := (hb1.frozen (p := ⟨ga, i * 2, none⟩) (show ga < V.heap.size by omega)).trans r0f; clear hw1; go_simp; try rfl) ?_
  intro w' hh
  obtain ⟨wz, hz, rfl⟩ := hh
  have hbz := Lib.hid (hz.cls rfl).below
  clear hz r0 r0f r1 r1f la1 lq8 lu7
  have hCo := Lib.hid (hCo.out.later hbz.out)
  have hZV := Lib.hid (hZV.out.later hbz.out)
  have hO1V := Lib.hid (hO1V.out.later hbz.out)
  have hO3V := Lib.hid (hO3V.out.later hbz.out)
  have hWV := Lib.hid (hWV.out.trans (hbz.out.mono hWV.out.size))
  have hsV := Nat.le_trans hsV hbz.out.size
  have kE : Chg ga (ga + 1) wz (wz.setCell ⟨ga, i * 2, none⟩ (.int .i64 ps)) := (Chg.refl _ _ wz).setCell (p := ⟨ga, i * 2, none⟩) (Nat.le_refl _) (Nat.lt_succ_self _) _
  have hO3F : Hid (OwnL (wz.setCell ⟨ga, i * 2, none⟩ (.int .i64 ps)) gs wA.heap.size (some ⟨ga, 0, none⟩) 2 Rgr.enc (b.rx.set i ⟨ps, df⟩)) := Lib.hid (by have := hO3V.out.setPlace i hil (ps); rw [hdf1.out] at this; exact this)
  have hCoF := Lib.hid (hCo.out.chg kE (.inr (show ga + 1 ≤ wA.heap.size by omega)))
  have hZF := Lib.hid (hZV.out.chg kE (.inl (show w.heap.size + 1 + 1 < ga by omega)))
  have hO1F := Lib.hid (hO1V.out.chg kE (.inl (by omega)))
  have hWF := Lib.hid (Below.chg hWV.out kE (by omega) hWV.out.size)
  have hsF := Nat.le_trans hsV kE.size
  clear kE hCo hZV hO1V hO3V hWV
  generalize (wz.setCell ⟨ga, i * 2, none⟩ (.int .i64 ps)) = VF at *
  have c0_ : VF.cell? ⟨wA.heap.size, 0, none⟩ = some (.string b.m.name) := hCoF.out.cell (i := 0) (by omega)
  have c1_ : VF.cell? ⟨wA.heap.size, 1, none⟩ = some (.int .i64 b.m.stage) := hCoF.out.cell (i := 1) (by omega)
  have c2_ : VF.cell? ⟨wA.heap.size, 2, none⟩ = some (.slice A1 b.m.x.length c1) := hCoF.out.cell (i := 2) (by omega)
  have c3_ : VF.cell? ⟨wA.heap.size, 3, none⟩ = some (.string b.bob) := hCoF.out.cell (i := 3) (by omega)
  have c4_ : VF.cell? ⟨wA.heap.size, 4, none⟩ = some (.string b.sing) := hCoF.out.cell (i := 4) (by omega)
  have c5_ : VF.cell? ⟨wA.heap.size, 5, none⟩ = some (.int .i64 b.step) := hCoF.out.cell (i := 5) (by omega)
  have c6_ : VF.cell? ⟨wA.heap.size, 6, none⟩ = some (.string b.call) := hCoF.out.cell (i := 6) (by omega)
  have c7_ : VF.cell? ⟨wA.heap.size, 7, none⟩ = some (.string b.tru) := hCoF.out.cell (i := 7) (by omega)
  have c8_ : VF.cell? ⟨wA.heap.size, 8, none⟩ = some (.slice (some ⟨ga, 0, none⟩) b.rx.length c3) := hCoF.out.cell (i := 8) (by omega)
  have hCr := hZF.out
  have r0 := hCr.cell (i := 0) (by omega)
  have rf0 := hCr.free (i := 0) (by omega)
  have r1 := hCr.cell (i := 1) (by omega)
  have rf1 := hCr.free (i := 1) (by omega)
  have r2 := hCr.cell (i := 2) (by omega)
  have rf2 := hCr.free (i := 2) (by omega)
  have r3 := hCr.cell (i := 3) (by omega)
  have rf3 := hCr.free (i := 3) (by omega)
  have r4 := hCr.cell (i := 4) (by omega)
  have rf4 := hCr.free (i := 4) (by omega)
  have r5 := hCr.cell (i := 5) (by omega)
  have rf5 := hCr.free (i := 5) (by omega)
  have r6 := hCr.cell (i := 6) (by omega)
  have rf6 := hCr.free (i := 6) (by omega)
  have r7 := hCr.cell (i := 7) (by omega)
  have rf7 := hCr.free (i := 7) (by omega)
  have r8 := hCr.cell (i := 8) (by omega)
  have rf8 := hCr.free (i := 8) (by omega)
  clear hCr
  go_wp2_with fail
  refine bodyPost_ret (v := .tuple #[.agg #[.string b.m.name, .int .i64 b.m.stage, .slice A1 b.m.x.length c1, .string b.bob, .string b.sing, .int .i64 b.step, .string b.call, .string b.tru, .slice (some ⟨ga, 0, none⟩) b.rx.length c3], .bool true]) (by simp [results, Tryz.results78, go_sem, r0, rf0, r1, rf1, r2, rf2, r3, rf3, r4, rf4, r5, rf5, r6, rf6, r7, rf7, r8, rf8]) rfl ?_
  have kk : Chg (w.heap.size + 1 + 1) (w.heap.size + 1 + 1 + 1) VF (setN VF (w.heap.size + 1 + 1) 0 [Value.string b.m.name, .int .i64 b.m.stage, .slice A1 b.m.x.length c1, .string b.bob, .string b.sing, .int .i64 b.step, .string b.call, .string b.tru, .slice (some ⟨ga, 0, none⟩) b.rx.length c3]) := Chg.setN (Nat.le_refl _) (Nat.lt_succ_self _) _ (Chg.refl _ _ VF)
  have kO1 := (hO1F.out.chg kk (.inr (by omega))).mono (show w.heap.size ≤ W.heap.size by omega) (Nat.le_refl _)
  have kO3 := (hO3F.out.chg kk (.inr (by omega))).mono (Nat.le_refl _) (Nat.le_trans (show wA.heap.size ≤ VF.heap.size by omega) kk.size)
  have kBB := Below.chg hWF.out kk (by omega) (by omega)
  have kks := kk.size
  have hlr : (b.rx.set i ⟨ps, df⟩).length = b.rx.length := by simp
  refine ⟨_, by rw [D.out], ?_, kBB⟩
  rw [D.out]
  exact ⟨A1, c1, some ⟨ga, 0, none⟩, c3, gs, by first | (simp only [List.length_set]; done) | rfl, by omega, Nat.le_trans hg2 (Nat.le_trans (show wA.heap.size ≤ VF.heap.size by omega) kks), kO1, kO3⟩
 have E5 : ∀ w : World, (binOp .eql 45 (.agg #[.int .i64 kd, .int .i64 ((i : Int) + 1), .int .i64 yy, .string cl]) (.agg #[.int .i64 5, .int .i64 ((i : Int) + 1), .int .i64 0, .string ⟨#[]⟩])).run Tryz.prog w = .ok (.bool false) w := fun w => eqAct_f (c5) w
 have u8 : V.cell? ⟨w.heap.size, 8, none⟩ = some (.slice b.RA b.rx.length b.rc) := hBV.out.cell (i := 8) (by omega)
 have hlti : (i : Int) < (b.rx.length : Int) := by omega
 have hlti2 : (i : Int) < b.m.stage := by omega
 have hlti0 : (0 : Int) ≤ (i : Int) := by omega
 obtain ⟨gr, offr, hRA, hgr, hrc⟩ := Hr0.out.at hil
 have q0 : V.cell? ⟨gr, offr + i * 2, none⟩ = some (.int .i64 pl) := (hWV.out.cell (p := ⟨gr, offr + i * 2, none⟩) hgr).trans (by have := hrc 0 _ rfl; rw [hpl1.out] at this; exact this)
 rw [hRA] at u8
 have hwi : IntKind.i64.wrap (i : Int) = (i : Int) := IntWalk.i64_in _ (by omega)
 have hwp : IntKind.i64.wrap (pl + 1) = pl + 1 := IntWalk.i64_in _ (by omega)
 have hwm : IntKind.i64.wrap (pl + -1) = pl + -1 := IntWalk.i64_in _ (by omega)
 have HRA := Lib.hid hRA
 clear hRA hrc
 by_cases c4 : actE kd ((i : Int) + 1) yy cl 4 ((i : Int) + 1) yy ⟨#[]⟩
 case neg =>
  have D := Lib.hid (doR_no (b := b) C3.out c3 c5 (fun x => c4 x.1))
  have E4 : ∀ w : World, (binOp .eql 45 (.agg #[.int .i64 kd, .int .i64 ((i : Int) + 1), .int .i64 yy, .string cl]) (.agg #[.int .i64 4, .int .i64 ((i : Int) + 1), .int .i64 yy, .string ⟨#[]⟩])).run Tryz.prog w = .ok (.bool false) w := fun w => eqAct_f (c4) w
  clear c3 c4 c5
  go_upto_region 14 with (go_at_call 74; refine (isBell_any _ _ _).mono ?_; rintro e w' ⟨rfl, rfl⟩)
  go_quiet ((go_at_call 74; exact Calls.quiet_of_same (calls_bool ((isBell_any _ _ _).mono fun _ _ h => ⟨h.1, h.2.symm⟩) (by assumption))))
  have hCo := Lib.hid (Cells.drewN hCo.out nq)
  have hZV := Lib.hid (Cells.drewN hZV.out nq)
  have hAV := Lib.hid (Cells.drewN hAV.out nq)
  have hO1V := Lib.hid (show OwnL (V.drewN nq) W.heap.size gs A1 1 encString b.m.x from hO1V.out)
  have hO3V := Lib.hid (show OwnL (V.drewN nq) gs wA.heap.size (some ⟨ga, 0, none⟩) 2 Rgr.enc b.rx from hO3V.out)
  have hWV := Lib.hid (below_drewN hWV.out nq)
  have hsV : wA.heap.size + 1 ≤ (V.drewN nq).heap.size := hsV
  clear a0 a1 a2 a3 q8 r0 r1 r0f r1f u8 q0
  generalize V.drewN nq = Q at *
  have z0 := hZV.out.cell (i := 0) (by omega)
  have zf0 := hZV.out.free (i := 0) (by omega)
  have z1 := hZV.out.cell (i := 1) (by omega)
  have zf1 := hZV.out.free (i := 1) (by omega)
  have z2 := hZV.out.cell (i := 2) (by omega)
  have zf2 := hZV.out.free (i := 2) (by omega)
  have z3 := hZV.out.cell (i := 3) (by omega)
  have zf3 := hZV.out.free (i := 3) (by omega)
  have z4 := hZV.out.cell (i := 4) (by omega)
  have zf4 := hZV.out.free (i := 4) (by omega)
  have z5 := hZV.out.cell (i := 5) (by omega)
  have zf5 := hZV.out.free (i := 5) (by omega)
  have z6 := hZV.out.cell (i := 6) (by omega)
  have zf6 := hZV.out.free (i := 6) (by omega)
  have z7 := hZV.out.cell (i := 7) (by omega)
  have zf7 := hZV.out.free (i := 7) (by omega)
  have z8 := hZV.out.cell (i := 8) (by omega)
  have zf8 := hZV.out.free (i := 8) (by omega)
  go_wp2_with fail
  refine bodyPost_ret (v := .tuple #[.agg #[Value.string ⟨#[]⟩, .int .i64 0, .slice none 0 0, .string ⟨#[]⟩, .string ⟨#[]⟩, .int .i64 0, .string ⟨#[]⟩, .string ⟨#[]⟩, .slice none 0 0], .bool false]) (by simp [results, Tryz.results78, go_sem, z0, zf0, z1, zf1, z2, zf2, z3, zf3, z4, zf4, z5, zf5, z6, zf6, z7, zf7, z8, zf8]) rfl ?_
  have kk : Chg (w.heap.size + 1 + 1) (w.heap.size + 1 + 1 + 1) Q (setN Q (w.heap.size + 1 + 1) 0 [Value.string ⟨#[]⟩, .int .i64 0, .slice none 0 0, .string ⟨#[]⟩, .string ⟨#[]⟩, .int .i64 0, .string ⟨#[]⟩, .string ⟨#[]⟩, .slice none 0 0]) := Chg.setN (Nat.le_refl _) (Nat.lt_succ_self _) _ (Chg.refl _ _ Q)
  have kBB := Below.chg hWV.out kk (by omega) (by omega)
  exact ⟨_, by rw [D.out], by rw [D.out]; exact BdAt.zero _ _ _ kBB.size, kBB⟩
 have E4 : ∀ w : World, (binOp .eql 45 (.agg #[.int .i64 kd, .int .i64 ((i : Int) + 1), .int .i64 yy, .string cl]) (.agg #[.int .i64 4, .int .i64 ((i : Int) + 1), .int .i64 yy, .string ⟨#[]⟩])).run Tryz.prog w = .ok (.bool true) w := fun w => eqAct_t (c4) w
 by_cases y1 : yy = 1 ∨ yy = -1
 case neg =>
  have D := Lib.hid (doR_no (b := b) C3.out c3 c5 (fun x => y1 x.2.1))
  have f1 : (yy == 1) = false := by rw [Bool.eq_false_iff]; intro x; exact y1 (.inl (by simpa using x))
  have f2 : (yy == -1) = false := by rw [Bool.eq_false_iff]; intro x; exact y1 (.inr (by simpa using x))
  clear c3 c4 c5 y1
  go_upto_region 14 with (go_at_call 74; refine (isBell_any _ _ _).mono ?_; rintro e w' ⟨rfl, rfl⟩)
  go_quiet ((go_at_call 74; exact Calls.quiet_of_same (calls_bool ((isBell_any _ _ _).mono fun _ _ h => ⟨h.1, h.2.symm⟩) (by assumption))))
  have hCo := Lib.hid (Cells.drewN hCo.out nq)
  have hZV := Lib.hid (Cells.drewN hZV.out nq)
  have hAV := Lib.hid (Cells.drewN hAV.out nq)
  have hO1V := Lib.hid (show OwnL (V.drewN nq) W.heap.size gs A1 1 encString b.m.x from hO1V.out)
  have hO3V := Lib.hid (show OwnL (V.drewN nq) gs wA.heap.size (some ⟨ga, 0, none⟩) 2 Rgr.enc b.rx from hO3V.out)
  have hWV := Lib.hid (below_drewN hWV.out nq)
  have hsV : wA.heap.size + 1 ≤ (V.drewN nq).heap.size := hsV
  clear a0 a1 a2 a3 q8 r0 r1 r0f r1f u8 q0
  generalize V.drewN nq = Q at *
  have z0 := hZV.out.cell (i := 0) (by omega)
  have zf0 := hZV.out.free (i := 0) (by omega)
  have z1 := hZV.out.cell (i := 1) (by omega)
  have zf1 := hZV.out.free (i := 1) (by omega)
  have z2 := hZV.out.cell (i := 2) (by omega)
  have zf2 := hZV.out.free (i := 2) (by omega)
  have z3 := hZV.out.cell (i := 3) (by omega)
  have zf3 := hZV.out.free (i := 3) (by omega)
  have z4 := hZV.out.cell (i := 4) (by omega)
  have zf4 := hZV.out.free (i := 4) (by omega)
  have z5 := hZV.out.cell (i := 5) (by omega)
  have zf5 := hZV.out.free (i := 5) (by omega)
  have z6 := hZV.out.cell (i := 6) (by omega)
  have zf6 := hZV.out.free (i := 6) (by omega)
  have z7 := hZV.out.cell (i := 7) (by omega)
  have zf7 := hZV.out.free (i := 7) (by omega)
  have z8 := hZV.out.cell (i := 8) (by omega)
  have zf8 := hZV.out.free (i := 8) (by omega)
  go_wp2_with fail
  refine bodyPost_ret (v := .tuple #[.agg #[Value.string ⟨#[]⟩, .int .i64 0, .slice none 0 0, .string ⟨#[]⟩, .string ⟨#[]⟩, .int .i64 0, .string ⟨#[]⟩, .string ⟨#[]⟩, .slice none 0 0], .bool false]) (by simp [results, Tryz.results78, go_sem, z0, zf0, z1, zf1, z2, zf2, z3, zf3, z4, zf4, z5, zf5, z6, zf6, z7, zf7, z8, zf8]) rfl ?_
  have kk : Chg (w.heap.size + 1 + 1) (w.heap.size + 1 + 1 + 1) Q (setN Q (w.heap.size + 1 + 1) 0 [Value.string ⟨#[]⟩, .int .i64 0, .slice none 0 0, .string ⟨#[]⟩, .string ⟨#[]⟩, .int .i64 0, .string ⟨#[]⟩, .string ⟨#[]⟩, .slice none 0 0]) := Chg.setN (Nat.le_refl _) (Nat.lt_succ_self _) _ (Chg.refl _ _ Q)
  have kBB := Below.chg hWV.out kk (by omega) (by omega)
  exact ⟨_, by rw [D.out], by rw [D.out]; exact BdAt.zero _ _ _ kBB.size, kBB⟩
 by_cases c6 : inB (pl + yy) 1 b.m.stage
 case neg =>
  have D := Lib.hid (doR_no (b := b) C3.out c3 c5 (fun x => c6 (by have := x.2.2; rw [hbi.out, hpl1.out] at this; exact this)))
  have e6 := B_f c6
  clear c3 c4 c5 c6
  rcases y1 with rfl | rfl
  ·skip
   go_upto_region 14 with (go_at_call 74; refine (isBell_any _ _ _).mono ?_; rintro e w' ⟨rfl, rfl⟩)
   go_quiet ((go_at_call 74; exact Calls.quiet_of_same (calls_bool ((isBell_any _ _ _).mono fun _ _ h => ⟨h.1, h.2.symm⟩) (by assumption))))
   have hCo := Lib.hid (Cells.drewN hCo.out nq)
   have hZV := Lib.hid (Cells.drewN hZV.out nq)
   have hAV := Lib.hid (Cells.drewN hAV.out nq)
   have hO1V := Lib.hid (show OwnL (V.drewN nq) W.heap.size gs A1 1 encString b.m.x from hO1V.out)
   have hO3V := Lib.hid (show OwnL (V.drewN nq) gs wA.heap.size (some ⟨ga, 0, none⟩) 2 Rgr.enc b.rx from hO3V.out)
   have hWV := Lib.hid (below_drewN hWV.out nq)
   have hsV : wA.heap.size + 1 ≤ (V.drewN nq).heap.size := hsV
   clear a0 a1 a2 a3 q8 r0 r1 r0f r1f u8 q0
   generalize V.drewN nq = Q at *
   have z0 := hZV.out.cell (i := 0) (by omega)
   have zf0 := hZV.out.free (i := 0) (by omega)
   have z1 := hZV.out.cell (i := 1) (by omega)
   have zf1 := hZV.out.free (i := 1) (by omega)
   have z2 := hZV.out.cell (i := 2) (by omega)
   have zf2 := hZV.out.free (i := 2) (by omega)
   have z3 := hZV.out.cell (i := 3) (by omega)
   have zf3 := hZV.out.free (i := 3) (by omega)
   have z4 := hZV.out.cell (i := 4) (by omega)
   have zf4 := hZV.out.free (i := 4) (by omega)
   have z5 := hZV.out.cell (i := 5) (by omega)
   have zf5 := hZV.out.free (i := 5) (by omega)
   have z6 := hZV.out.cell (i := 6) (by omega)
   have zf6 := hZV.out.free (i := 6) (by omega)
   have z7 := hZV.out.cell (i := 7) (by omega)
   have zf7 := hZV.out.free (i := 7) (by omega)
   have z8 := hZV.out.cell (i := 8) (by omega)
   have zf8 := hZV.out.free (i := 8) (by omega)
   go_wp2_with fail
   refine bodyPost_ret (v := .tuple #[.agg #[Value.string ⟨#[]⟩, .int .i64 0, .slice none 0 0, .string ⟨#[]⟩, .string ⟨#[]⟩, .int .i64 0, .string ⟨#[]⟩, .string ⟨#[]⟩, .slice none 0 0], .bool false]) (by simp [results, Tryz.results78, go_sem, z0, zf0, z1, zf1, z2, zf2, z3, zf3, z4, zf4, z5, zf5, z6, zf6, z7, zf7, z8, zf8]) rfl ?_
   have kk : Chg (w.heap.size + 1 + 1) (w.heap.size + 1 + 1 + 1) Q (setN Q (w.heap.size + 1 + 1) 0 [Value.string ⟨#[]⟩, .int .i64 0, .slice none 0 0, .string ⟨#[]⟩, .string ⟨#[]⟩, .int .i64 0, .string ⟨#[]⟩, .string ⟨#[]⟩, .slice none 0 0]) := Chg.setN (Nat.le_refl _) (Nat.lt_succ_self _) _ (Chg.refl _ _ Q)
   have kBB := Below.chg hWV.out kk (by omega) (by omega)
   exact ⟨_, by rw [D.out], by rw [D.out]; exact BdAt.zero _ _ _ kBB.size, kBB⟩
  ·skip
   go_upto_region 14 with (go_at_call 74; refine (isBell_any _ _ _).mono ?_; rintro e w' ⟨rfl, rfl⟩)
   go_quiet ((go_at_call 74; exact Calls.quiet_of_same (calls_bool ((isBell_any _ _ _).mono fun _ _ h => ⟨h.1, h.2.symm⟩) (by assumption))))
   have hCo := Lib.hid (Cells.drewN hCo.out nq)
   have hZV := Lib.hid (Cells.drewN hZV.out nq)
   have hAV := Lib.hid (Cells.drewN hAV.out nq)
   have hO1V := Lib.hid (show OwnL (V.drewN nq) W.heap.size gs A1 1 encString b.m.x from hO1V.out)
   have hO3V := Lib.hid (show OwnL (V.drewN nq) gs wA.heap.size (some ⟨ga, 0, none⟩) 2 Rgr.enc b.rx from hO3V.out)
   have hWV := Lib.hid (below_drewN hWV.out nq)
   have hsV : wA.heap.size + 1 ≤ (V.drewN nq).heap.size := hsV
   clear a0 a1 a2 a3 q8 r0 r1 r0f r1f u8 q0
   generalize V.drewN nq = Q at *
   have z0 := hZV.out.cell (i := 0) (by omega)
   have zf0 := hZV.out.free (i := 0) (by omega)
   have z1 := hZV.out.cell (i := 1) (by omega)
   have zf1 := hZV.out.free (i := 1) (by omega)
   have z2 := hZV.out.cell (i := 2) (by omega)
   have zf2 := hZV.out.free (i := 2) (by omega)
   have z3 := hZV.out.cell (i := 3) (by omega)
   have zf3 := hZV.out.free (i := 3) (by omega)
   have z4 := hZV.out.cell (i := 4) (by omega)
   have zf4 := hZV.out.free (i := 4) (by omega)
   have z5 := hZV.out.cell (i := 5) (by omega)
   have zf5 := hZV.out.free (i := 5) (by omega)
   have z6 := hZV.out.cell (i := 6) (by omega)
   have zf6 := hZV.out.free (i := 6) (by omega)
   have z7 := hZV.out.cell (i := 7) (by omega)
   have zf7 := hZV.out.free (i := 7) (by omega)
   have z8 := hZV.out.cell (i := 8) (by omega)
   have zf8 := hZV.out.free (i := 8) (by omega)
   go_wp2_with fail
   refine bodyPost_ret (v := .tuple #[.agg #[Value.string ⟨#[]⟩, .int .i64 0, .slice none 0 0, .string ⟨#[]⟩, .string ⟨#[]⟩, .int .i64 0, .string ⟨#[]⟩, .string ⟨#[]⟩, .slice none 0 0], .bool false]) (by simp [results, Tryz.results78, go_sem, z0, zf0, z1, zf1, z2, zf2, z3, zf3, z4, zf4, z5, zf5, z6, zf6, z7, zf7, z8, zf8]) rfl ?_
   have kk : Chg (w.heap.size + 1 + 1) (w.heap.size + 1 + 1 + 1) Q (setN Q (w.heap.size + 1 + 1) 0 [Value.string ⟨#[]⟩, .int .i64 0, .slice none 0 0, .string ⟨#[]⟩, .string ⟨#[]⟩, .int .i64 0, .string ⟨#[]⟩, .string ⟨#[]⟩, .slice none 0 0]) := Chg.setN (Nat.le_refl _) (Nat.lt_succ_self _) _ (Chg.refl _ _ Q)
   have kBB := Below.chg hWV.out kk (by omega) (by omega)
   exact ⟨_, by rw [D.out], by rw [D.out]; exact BdAt.zero _ _ _ kBB.size, kBB⟩
 have D := Lib.hid (doR_4 (b := b) C3.out ⟨c4, y1, by rw [hbi.out, hpl1.out]; exact c6⟩)
 rw [hbi.out, hbp.out, hpl1.out, hdf1.out] at D
 have e6 := B_t c6
 clear c3 c4 c5 c6
 rcases y1 with rfl | rfl
 ·skip
  go_upto_region 14 with (go_at_call 74; refine (isBell_any _ _ _).mono ?_; rintro e w' ⟨rfl, rfl⟩)
  go_quiet ((go_at_call 74; exact Calls.quiet_of_same (calls_bool ((isBell_any _ _ _).mono fun _ _ h => ⟨h.1, h.2.symm⟩) (by assumption))))
  have hCo := Lib.hid (Cells.drewN hCo.out nq)
  have hZV := Lib.hid (Cells.drewN hZV.out nq)
  have hAV := Lib.hid (Cells.drewN hAV.out nq)
  have hO1V := Lib.hid (show OwnL (V.drewN nq) W.heap.size gs A1 1 encString b.m.x from hO1V.out)
  have hO3V := Lib.hid (show OwnL (V.drewN nq) gs wA.heap.size (some ⟨ga, 0, none⟩) 2 Rgr.enc b.rx from hO3V.out)
  have hWV := Lib.hid (below_drewN hWV.out nq)
  have hsV : wA.heap.size + 1 ≤ (V.drewN nq).heap.size := hsV
  clear a0 a1 a2 a3 q8 r0 r1 r0f r1f u8 q0
  generalize V.drewN nq = Q at *
  have a0 : Q.cell? ⟨w.heap.size + 1, 0, none⟩ = some (.int .i64 kd) := hAV.out.cell (i := 0) (by omega)
  have a1 : Q.cell? ⟨w.heap.size + 1, 1, none⟩ = some (.int .i64 ((i : Int) + 1)) := hAV.out.cell (i := 1) (by omega)
  have a2 : Q.cell? ⟨w.heap.size + 1, 2, none⟩ = some (.int .i64 (1)) := hAV.out.cell (i := 2) (by omega)
  have q8 : Q.cell? ⟨wA.heap.size, 8, none⟩ = some (.slice (some ⟨ga, 0, none⟩) b.rx.length c3) := hCo.out.cell (i := 8) (by omega)
  obtain ⟨r0, r0f, r1, r1f⟩ := hO3V.out.cellRgr i hil
  rw [hpl1.out] at r0
  go_upto_region 15 with fail
  have la1 := Later.cell a1 (show w.heap.size + 1 < Q.heap.size by omega)
  have la2 := Later.cell a2 (show w.heap.size + 1 < Q.heap.size by omega)
  have lq8 := Later.cell q8 (show wA.heap.size < Q.heap.size by omega)
  have lr0 := Later.cell r0 (show ga < Q.heap.size by omega)
  clear a0 a1 a2 q8
  refine wp_region_G (by kernel_rfl) [.q, .q, .q, .q, .q, .q, .q, .q, .q, .q, .q, .q, .q, .u] [0, 0, 0, 0, 0, 0, 0, 0, 0, 0, 0, 0, 0, 3] rfl 3 (by kernel_rfl) (inC Q) (Q).heap.size (inC.size Q) (inC.of (Below.refl _ _).drew) ?_
  (refine wpG_quiets 9 _ _ _ _ (by first | exact cls_none rfl | exact fun w h => h.1) (by intro j hj; rcases j with _ | _ | _ | _ | _ | _ | _ | _ | _ | _ | j <;> first | exact ⟨rfl, ⟨_, rfl, rfl⟩, rfl⟩ | (exfalso; omega)) ?_; simp only [List.take_succ_cons, List.take_zero, List.drop_succ_cons, List.drop_zero, Nat.zero_add, Nat.reduceAdd]; change wpQuiet _ _ (fun wq9 => ∃ x : Later Q, wq9 = x.W) _ _ _; (repeat (go_big_quiet_step (fail))); refine wpQuiet_nil ?_; try dsimp only)
  (refine wpG_quiets 4 _ _ _ _ (by first | exact cls_none rfl | exact fun w h => h.1) (by intro j hj; rcases j with _ | _ | _ | _ | _ | _ | _ | _ | _ | _ | j <;> first | exact ⟨rfl, ⟨_, rfl, rfl⟩, rfl⟩ | (exfalso; omega)) ?_; simp only [List.take_succ_cons, List.take_zero, List.drop_succ_cons, List.drop_zero, Nat.zero_add, Nat.reduceAdd]; change wpQuiet _ _ (fun wq9 => ∃ x : Later Q, wq9 = x.W) _ _ _; (repeat (go_big_quiet_step (fail))); refine wpQuiet_nil ?_; try dsimp only)
  refine wpG_u (fun w' => w'.setCell ⟨ga, i * 2, none⟩ (.int .i64 (pl + 1))) rfl rfl rfl rfl (by intro w1 hw1; have hb1 := (hw1.cls rfl).below; have p0 := (hb1.cell (p := ⟨ga, i * 2, none⟩) (show ga < Q.heap.size by omega)).trans r0; have p0f := (hb1.frozen (p := ⟨ga, i * 2, none⟩) (show ga < Q.heap.size by omega)).trans r0f; clear hw1; go_simp; try rfl) ?_
  intro w' hh
  obtain ⟨wz, hz, rfl⟩ := hh
  have hbz := Lib.hid (hz.cls rfl).below
  clear hz r0 r0f r1 r1f la1 la2 lq8 lr0
  have hCo := Lib.hid (hCo.out.later hbz.out)
  have hZV := Lib.hid (hZV.out.later hbz.out)
  have hO1V := Lib.hid (hO1V.out.later hbz.out)
  have hO3V := Lib.hid (hO3V.out.later hbz.out)
  have hWV := Lib.hid (hWV.out.trans (hbz.out.mono hWV.out.size))
  have hsV := Nat.le_trans hsV hbz.out.size
  have kE : Chg ga (ga + 1) wz (wz.setCell ⟨ga, i * 2, none⟩ (.int .i64 (pl + 1))) := (Chg.refl _ _ wz).setCell (p := ⟨ga, i * 2, none⟩) (Nat.le_refl _) (Nat.lt_succ_self _) _
  have hO3F : Hid (OwnL (wz.setCell ⟨ga, i * 2, none⟩ (.int .i64 (pl + 1))) gs wA.heap.size (some ⟨ga, 0, none⟩) 2 Rgr.enc (b.rx.set i ⟨pl + 1, df⟩)) := Lib.hid (by have := hO3V.out.setPlace i hil ((pl + 1)); rw [hdf1.out] at this; exact this)
  have hCoF := Lib.hid (hCo.out.chg kE (.inr (show ga + 1 ≤ wA.heap.size by omega)))
  have hZF := Lib.hid (hZV.out.chg kE (.inl (show w.heap.size + 1 + 1 < ga by omega)))
  have hO1F := Lib.hid (hO1V.out.chg kE (.inl (by omega)))
  have hWF := Lib.hid (Below.chg hWV.out kE (by omega) hWV.out.size)
  have hsF := Nat.le_trans hsV kE.size
  clear kE hCo hZV hO1V hO3V hWV
  generalize (wz.setCell ⟨ga, i * 2, none⟩ (.int .i64 (pl + 1))) = VF at *
  have c0_ : VF.cell? ⟨wA.heap.size, 0, none⟩ = some (.string b.m.name) := hCoF.out.cell (i := 0) (by omega)
  have c1_ : VF.cell? ⟨wA.heap.size, 1, none⟩ = some (.int .i64 b.m.stage) := hCoF.out.cell (i := 1) (by omega)
  have c2_ : VF.cell? ⟨wA.heap.size, 2, none⟩ = some (.slice A1 b.m.x.length c1) := hCoF.out.cell (i := 2) (by omega)
  have c3_ : VF.cell? ⟨wA.heap.size, 3, none⟩ = some (.string b.bob) := hCoF.out.cell (i := 3) (by omega)
  have c4_ : VF.cell? ⟨wA.heap.size, 4, none⟩ = some (.string b.sing) := hCoF.out.cell (i := 4) (by omega)
  have c5_ : VF.cell? ⟨wA.heap.size, 5, none⟩ = some (.int .i64 b.step) := hCoF.out.cell (i := 5) (by omega)
  have c6_ : VF.cell? ⟨wA.heap.size, 6, none⟩ = some (.string b.call) := hCoF.out.cell (i := 6) (by omega)
  have c7_ : VF.cell? ⟨wA.heap.size, 7, none⟩ = some (.string b.tru) := hCoF.out.cell (i := 7) (by omega)
  have c8_ : VF.cell? ⟨wA.heap.size, 8, none⟩ = some (.slice (some ⟨ga, 0, none⟩) b.rx.length c3) := hCoF.out.cell (i := 8) (by omega)
  have hCr := hZF.out
  have r0 := hCr.cell (i := 0) (by omega)
  have rf0 := hCr.free (i := 0) (by omega)
  have r1 := hCr.cell (i := 1) (by omega)
  have rf1 := hCr.free (i := 1) (by omega)
  have r2 := hCr.cell (i := 2) (by omega)
  have rf2 := hCr.free (i := 2) (by omega)
  have r3 := hCr.cell (i := 3) (by omega)
  have rf3 := hCr.free (i := 3) (by omega)
  have r4 := hCr.cell (i := 4) (by omega)
  have rf4 := hCr.free (i := 4) (by omega)
  have r5 := hCr.cell (i := 5) (by omega)
  have rf5 := hCr.free (i := 5) (by omega)
  have r6 := hCr.cell (i := 6) (by omega)
  have rf6 := hCr.free (i := 6) (by omega)
  have r7 := hCr.cell (i := 7) (by omega)
  have rf7 := hCr.free (i := 7) (by omega)
  have r8 := hCr.cell (i := 8) (by omega)
  have rf8 := hCr.free (i := 8) (by omega)
  clear hCr
  go_wp2_with fail
  refine bodyPost_ret (v := .tuple #[.agg #[.string b.m.name, .int .i64 b.m.stage, .slice A1 b.m.x.length c1, .string b.bob, .string b.sing, .int .i64 b.step, .string b.call, .string b.tru, .slice (some ⟨ga, 0, none⟩) b.rx.length c3], .bool true]) (by simp [results, Tryz.results78, go_sem, r0, rf0, r1, rf1, r2, rf2, r3, rf3, r4, rf4, r5, rf5, r6, rf6, r7, rf7, r8, rf8]) rfl ?_
  have kk : Chg (w.heap.size + 1 + 1) (w.heap.size + 1 + 1 + 1) VF (setN VF (w.heap.size + 1 + 1) 0 [Value.string b.m.name, .int .i64 b.m.stage, .slice A1 b.m.x.length c1, .string b.bob, .string b.sing, .int .i64 b.step, .string b.call, .string b.tru, .slice (some ⟨ga, 0, none⟩) b.rx.length c3]) := Chg.setN (Nat.le_refl _) (Nat.lt_succ_self _) _ (Chg.refl _ _ VF)
  have kO1 := (hO1F.out.chg kk (.inr (by omega))).mono (show w.heap.size ≤ W.heap.size by omega) (Nat.le_refl _)
  have kO3 := (hO3F.out.chg kk (.inr (by omega))).mono (Nat.le_refl _) (Nat.le_trans (show wA.heap.size ≤ VF.heap.size by omega) kk.size)
  have kBB := Below.chg hWF.out kk (by omega) (by omega)
  have kks := kk.size
  have hlr : (b.rx.set i ⟨pl + 1, df⟩).length = b.rx.length := by simp
  refine ⟨_, by rw [D.out], ?_, kBB⟩
  rw [D.out]
  exact ⟨A1, c1, some ⟨ga, 0, none⟩, c3, gs, by first | (simp only [List.length_set]; done) | rfl, by omega, Nat.le_trans hg2 (Nat.le_trans (show wA.heap.size ≤ VF.heap.size by omega) kks), kO1, kO3⟩
 ·skip
  go_upto_region 14 with (go_at_call 74; refine (isBell_any _ _ _).mono ?_; rintro e w' ⟨rfl, rfl⟩)
  go_quiet ((go_at_call 74; exact Calls.quiet_of_same (calls_bool ((isBell_any _ _ _).mono fun _ _ h => ⟨h.1, h.2.symm⟩) (by assumption))))
  have hCo := Lib.hid (Cells.drewN hCo.out nq)
  have hZV := Lib.hid (Cells.drewN hZV.out nq)
  have hAV := Lib.hid (Cells.drewN hAV.out nq)
  have hO1V := Lib.hid (show OwnL (V.drewN nq) W.heap.size gs A1 1 encString b.m.x from hO1V.out)
  have hO3V := Lib.hid (show OwnL (V.drewN nq) gs wA.heap.size (some ⟨ga, 0, none⟩) 2 Rgr.enc b.rx from hO3V.out)
  have hWV := Lib.hid (below_drewN hWV.out nq)
  have hsV : wA.heap.size + 1 ≤ (V.drewN nq).heap.size := hsV
  clear a0 a1 a2 a3 q8 r0 r1 r0f r1f u8 q0
  generalize V.drewN nq = Q at *
  have a0 : Q.cell? ⟨w.heap.size + 1, 0, none⟩ = some (.int .i64 kd) := hAV.out.cell (i := 0) (by omega)
  have a1 : Q.cell? ⟨w.heap.size + 1, 1, none⟩ = some (.int .i64 ((i : Int) + 1)) := hAV.out.cell (i := 1) (by omega)
  have a2 : Q.cell? ⟨w.heap.size + 1, 2, none⟩ = some (.int .i64 (-1)) := hAV.out.cell (i := 2) (by omega)
  have q8 : Q.cell? ⟨wA.heap.size, 8, none⟩ = some (.slice (some ⟨ga, 0, none⟩) b.rx.length c3) := hCo.out.cell (i := 8) (by omega)
  obtain ⟨r0, r0f, r1, r1f⟩ := hO3V.out.cellRgr i hil
  rw [hpl1.out] at r0
  go_upto_region 15 with fail
  have la1 := Later.cell a1 (show w.heap.size + 1 < Q.heap.size by omega)
  have la2 := Later.cell a2 (show w.heap.size + 1 < Q.heap.size by omega)
  have lq8 := Later.cell q8 (show wA.heap.size < Q.heap.size by omega)
  have lr0 := Later.cell r0 (show ga < Q.heap.size by omega)
  clear a0 a1 a2 q8
  refine wp_region_G (by kernel_rfl) [.q, .q, .q, .q, .q, .q, .q, .q, .q, .q, .q, .q, .q, .u] [0, 0, 0, 0, 0, 0, 0, 0, 0, 0, 0, 0, 0, 3] rfl 3 (by kernel_rfl) (inC Q) (Q).heap.size (inC.size Q) (inC.of (Below.refl _ _).drew) ?_
  (refine wpG_quiets 9 _ _ _ _ (by first | exact cls_none rfl | exact fun w h => h.1) (by intro j hj; rcases j with _ | _ | _ | _ | _ | _ | _ | _ | _ | _ | j <;> first | exact ⟨rfl, ⟨_, rfl, rfl⟩, rfl⟩ | (exfalso; omega)) ?_; simp only [List.take_succ_cons, List.take_zero, List.drop_succ_cons, List.drop_zero, Nat.zero_add, Nat.reduceAdd]; change wpQuiet _ _ (fun wq9 => ∃ x : Later Q, wq9 = x.W) _ _ _; (repeat (go_big_quiet_step (fail))); refine wpQuiet_nil ?_; try dsimp only)
  (refine wpG_quiets 4 _ _ _ _ (by first | exact cls_none rfl | exact fun w h => h.1) (by intro j hj; rcases j with _ | _ | _ | _ | _ | _ | _ | _ | _ | _ | j <;> first | exact ⟨rfl, ⟨_, rfl, rfl⟩, rfl⟩ | (exfalso; omega)) ?_; simp only [List.take_succ_cons, List.take_zero, List.drop_succ_cons, List.drop_zero, Nat.zero_add, Nat.reduceAdd]; change wpQuiet _ _ (fun wq9 => ∃ x : Later Q, wq9 = x.W) _ _ _; (repeat (go_big_quiet_step (fail))); refine wpQuiet_nil ?_; try dsimp only)
  refine wpG_u (fun w' => w'.setCell ⟨ga, i * 2, none⟩ (.int .i64 (pl + -1))) rfl rfl rfl rfl (by intro w1 hw1; have hb1 := (hw1.cls rfl).below; have p0 := (hb1.cell (p := ⟨ga, i * 2, none⟩) (show ga < Q.heap.size by omega)).trans r0; have p0f := (hb1.frozen (p := ⟨ga, i * 2, none⟩) (show ga < Q.heap.size by omega)).trans r0f; clear hw1; go_simp; try rfl) ?_
  intro w' hh
  obtain ⟨wz, hz, rfl⟩ := hh
  have hbz := Lib.hid (hz.cls rfl).below
  clear hz r0 r0f r1 r1f la1 la2 lq8 lr0
  have hCo := Lib.hid (hCo.out.later hbz.out)
  have hZV := Lib.hid (hZV.out.later hbz.out)
  have hO1V := Lib.hid (hO1V.out.later hbz.out)
  have hO3V := Lib.hid (hO3V.out.later hbz.out)
  have hWV := Lib.hid (hWV.out.trans (hbz.out.mono hWV.out.size))
  have hsV := Nat.le_trans hsV hbz.out.size
  have kE : Chg ga (ga + 1) wz (wz.setCell ⟨ga, i * 2, none⟩ (.int .i64 (pl + -1))) := (Chg.refl _ _ wz).setCell (p := ⟨ga, i * 2, none⟩) (Nat.le_refl _) (Nat.lt_succ_self _) _
  have hO3F : Hid (OwnL (wz.setCell ⟨ga, i * 2, none⟩ (.int .i64 (pl + -1))) gs wA.heap.size (some ⟨ga, 0, none⟩) 2 Rgr.enc (b.rx.set i ⟨pl + -1, df⟩)) := Lib.hid (by have := hO3V.out.setPlace i hil ((pl + -1)); rw [hdf1.out] at this; exact this)
  have hCoF := Lib.hid (hCo.out.chg kE (.inr (show ga + 1 ≤ wA.heap.size by omega)))
  have hZF := Lib.hid (hZV.out.chg kE (.inl (show w.heap.size + 1 + 1 < ga by omega)))
  have hO1F := Lib.hid (hO1V.out.chg kE (.inl (by omega)))
  have hWF := Lib.hid (Below.chg hWV.out kE (by omega) hWV.out.size)
  have hsF := Nat.le_trans hsV kE.size
  clear kE hCo hZV hO1V hO3V hWV
  generalize (wz.setCell ⟨ga, i * 2, none⟩ (.int .i64 (pl + -1))) = VF at *
  have c0_ : VF.cell? ⟨wA.heap.size, 0, none⟩ = some (.string b.m.name) := hCoF.out.cell (i := 0) (by omega)
  have c1_ : VF.cell? ⟨wA.heap.size, 1, none⟩ = some (.int .i64 b.m.stage) := hCoF.out.cell (i := 1) (by omega)
  have c2_ : VF.cell? ⟨wA.heap.size, 2, none⟩ = some (.slice A1 b.m.x.length c1) := hCoF.out.cell (i := 2) (by omega)
  have c3_ : VF.cell? ⟨wA.heap.size, 3, none⟩ = some (.string b.bob) := hCoF.out.cell (i := 3) (by omega)
  have c4_ : VF.cell? ⟨wA.heap.size, 4, none⟩ = some (.string b.sing) := hCoF.out.cell (i := 4) (by omega)
  have c5_ : VF.cell? ⟨wA.heap.size, 5, none⟩ = some (.int .i64 b.step) := hCoF.out.cell (i := 5) (by omega)
  have c6_ : VF.cell? ⟨wA.heap.size, 6, none⟩ = some (.string b.call) := hCoF.out.cell (i := 6) (by omega)
  have c7_ : VF.cell? ⟨wA.heap.size, 7, none⟩ = some (.string b.tru) := hCoF.out.cell (i := 7) (by omega)
  have c8_ : VF.cell? ⟨wA.heap.size, 8, none⟩ = some (.slice (some ⟨ga, 0, none⟩) b.rx.length c3) := hCoF.out.cell (i := 8) (by omega)
  have hCr := hZF.out
  have r0 := hCr.cell (i := 0) (by omega)
  have rf0 := hCr.free (i := 0) (by omega)
  have r1 := hCr.cell (i := 1) (by omega)
  have rf1 := hCr.free (i := 1) (by omega)
  have r2 := hCr.cell (i := 2) (by omega)
  have rf2 := hCr.free (i := 2) (by omega)
  have r3 := hCr.cell (i := 3) (by omega)
  have rf3 := hCr.free (i := 3) (by omega)
  have r4 := hCr.cell (i := 4) (by omega)
  have rf4 := hCr.free (i := 4) (by omega)
  have r5 := hCr.cell (i := 5) (by omega)
  have rf5 := hCr.free (i := 5) (by omega)
  have r6 := hCr.cell (i := 6) (by omega)
  have rf6 := hCr.free (i := 6) (by omega)
  have r7 := hCr.cell (i := 7) (by omega)
  have rf7 := hCr.free (i := 7) (by omega)
  have r8 := hCr.cell (i := 8) (by omega)
  have rf8 := hCr.free (i := 8) (by omega)
  clear hCr
  go_wp2_with fail
  refine bodyPost_ret (v := .tuple #[.agg #[.string b.m.name, .int .i64 b.m.stage, .slice A1 b.m.x.length c1, .string b.bob, .string b.sing, .int .i64 b.step, .string b.call, .string b.tru, .slice (some ⟨ga, 0, none⟩) b.rx.length c3], .bool true]) (by simp [results, Tryz.results78, go_sem, r0, rf0, r1, rf1, r2, rf2, r3, rf3, r4, rf4, r5, rf5, r6, rf6, r7, rf7, r8, rf8]) rfl ?_
  have kk : Chg (w.heap.size + 1 + 1) (w.heap.size + 1 + 1 + 1) VF (setN VF (w.heap.size + 1 + 1) 0 [Value.string b.m.name, .int .i64 b.m.stage, .slice A1 b.m.x.length c1, .string b.bob, .string b.sing, .int .i64 b.step, .string b.call, .string b.tru, .slice (some ⟨ga, 0, none⟩) b.rx.length c3]) := Chg.setN (Nat.le_refl _) (Nat.lt_succ_self _) _ (Chg.refl _ _ VF)
  have kO1 := (hO1F.out.chg kk (.inr (by omega))).mono (show w.heap.size ≤ W.heap.size by omega) (Nat.le_refl _)
  have kO3 := (hO3F.out.chg kk (.inr (by omega))).mono (Nat.le_refl _) (Nat.le_trans (show wA.heap.size ≤ VF.heap.size by omega) kk.size)
  have kBB := Below.chg hWF.out kk (by omega) (by omega)
  have kks := kk.size
  have hlr : (b.rx.set i ⟨pl + -1, df⟩).length = b.rx.length := by simp
  refine ⟨_, by rw [D.out], ?_, kBB⟩
  rw [D.out]
  exact ⟨A1, c1, some ⟨ga, 0, none⟩, c3, gs, by first | (simp only [List.length_set]; done) | rfl, by omega, Nat.le_trans hg2 (Nat.le_trans (show wA.heap.size ≤ VF.heap.size by omega) kks), kO1, kO3⟩
end Go.Proofs.YtkegbbndmfnolaaGreatDoor
