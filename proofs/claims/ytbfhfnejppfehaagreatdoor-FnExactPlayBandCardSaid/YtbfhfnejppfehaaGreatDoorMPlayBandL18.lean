import Derived.Test.YtbfhfnejppfehaaGreatDoorMPlayBandL17
import Derived.Test.YtbfhfnejppfehaaGreatDoorMPlayBandL06
/-
  StepBand: contracts of both sides.
-/
namespace Go.Proofs.YtbfhfnejppfehaaGreatDoor
open Go.RowKit
set_option linter.unusedVariables false
set_option linter.unusedSimpArgs false
set_option maxRecDepth 100000

open Classical in
/-- What StepBand answers. -/
noncomputable def stepBD (b : Bnd) : Bd × Bool := if bandP b then (stepD b, true) else (Bd.zero, false)
theorem stepBD_small {b : Bnd} (h : b.m.x.length ≤ 1048576) (hr : b.rx.length ≤ 1048576) : (stepBD b).1.x.length ≤ 1048576 ∧ (stepBD b).1.rx.length ≤ 1048576 := by
  unfold stepBD
  split
  · exact ⟨h, by show (stepRs b).length ≤ _; rw [stepRs_len]; exact hr⟩
  · exact ⟨Nat.zero_le _, Nat.zero_le _⟩












theorem stepped_any (b : Bnd) (w : World) (h : RdL w w.heap.size b.m.A 1 encString b.m.x) (hr : RdL w w.heap.size b.RA 2 Rgr.enc b.rx) (hl : b.m.x.length ≤ 1048576) (hp : bandP b) : Calls Tryz.prog 94 #[.agg #[.string b.m.name, .int .i64 b.m.stage, .slice b.m.A b.m.x.length b.m.c, .string b.bob, .string b.sing, .int .i64 b.step, .string b.call, .string b.tru, .slice b.RA b.rx.length b.rc]] w fun e w' => BdOne (stepD b) w e w' := by
  obtain ⟨⟨nm, st, x, A, c⟩, bob, sing, sp, call, tru, rx, RA, rc⟩ := b
  have hF := stepF_of hp
  have hn : ((st.toNat : Nat) : Int) = st := by have := hp.1.1.2.stage.1; simp only at this; omega
  have hk : ((sp.toNat : Nat) : Int) = sp := by have := hp.2.1.1; simp only at this; omega
  have := steppedF st.toNat sp.toNat nm x A c bob sing call tru rx RA rc _ _ _ _ w (Lib.hid hF) h hr hl
  rw [hn, hk] at this
  exact this
set_option maxHeartbeats 1600000 in
theorem iStepBand_any (b : Bnd) (w : World) (h : b.Ok w) : Calls Tryz.prog 22 #[.agg #[.string b.m.name, .int .i64 b.m.stage, .slice b.m.A b.m.x.length b.m.c, .string b.bob, .string b.sing, .int .i64 b.step, .string b.call, .string b.tru, .slice b.RA b.rx.length b.rc]] w fun e w' => BdRet (stepBD b).1 (stepBD b).2 w e w' := by
  by_cases c0 : bandP b
  · have e0 := B_t c0
    have C0 := Lib.hid c0
    have hcl := h.cl
    have hD : Hid (stepBD b = (stepD b, true)) := Lib.hid (by unfold stepBD; rw [if_pos c0])
    clear c0
    have hW : ∃ W : World, Hid (((w.alloc (.cells #[.string b.m.name, .int .i64 b.m.stage, .slice b.m.A b.m.x.length b.m.c, .string b.bob, .string b.sing, .int .i64 b.step, .string b.call, .string b.tru, .slice b.RA b.rx.length b.rc] 36)).alloc (.cells #[Value.string ⟨#[]⟩, .int .i64 0, .slice none 0 0, .string ⟨#[]⟩, .string ⟨#[]⟩, .int .i64 0, .string ⟨#[]⟩, .string ⟨#[]⟩, .slice none 0 0] 36)) = W) ∧ Hid (W.heap.size = w.heap.size + 2) ∧ Hid (Below w.heap.size w W) ∧ Hid (Cells W w.heap.size 9 (fun i => (#[Value.string b.m.name, .int .i64 b.m.stage, .slice b.m.A b.m.x.length b.m.c, .string b.bob, .string b.sing, .int .i64 b.step, .string b.call, .string b.tru, .slice b.RA b.rx.length b.rc] : Array Value).getD i undef)) ∧ Hid (Cells W (w.heap.size + 1) 9 (fun i => (#[Value.string ⟨#[]⟩, .int .i64 0, .slice none 0 0, .string ⟨#[]⟩, .string ⟨#[]⟩, .int .i64 0, .string ⟨#[]⟩, .string ⟨#[]⟩, .slice none 0 0] : Array Value).getD i undef)) := by
      have z1 : w.heap.size + 1 = (w.alloc (.cells #[.string b.m.name, .int .i64 b.m.stage, .slice b.m.A b.m.x.length b.m.c, .string b.bob, .string b.sing, .int .i64 b.step, .string b.call, .string b.tru, .slice b.RA b.rx.length b.rc] 36)).heap.size := by simp
      refine ⟨_, Lib.hid rfl, Lib.hid (by simp), Lib.hid (((Below.refl _ _).alloc (Nat.le_refl _) _).alloc (by simp) _), Lib.hid ?_, Lib.hid ?_⟩
      · exact (Cells.newD _ #[.string b.m.name, .int .i64 b.m.stage, .slice b.m.A b.m.x.length b.m.c, .string b.bob, .string b.sing, .int .i64 b.step, .string b.call, .string b.tru, .slice b.RA b.rx.length b.rc] _).alloc _
      · rw [z1]; exact Cells.newD _ #[Value.string ⟨#[]⟩, .int .i64 0, .slice none 0 0, .string ⟨#[]⟩, .string ⟨#[]⟩, .int .i64 0, .string ⟨#[]⟩, .string ⟨#[]⟩, .slice none 0 0] _
    obtain ⟨W, hWe, hWs, hWb, hB, hZ⟩ := hW
    have hWs1 : w.heap.size + 2 ≤ W.heap.size := by have := hWs.out; omega
    have hok : Hid (b.Ok W) := Lib.hid (⟨(h.ch.below hWb.out (Nat.le_refl _)).more hWb.out.size, (h.ri.below hWb.out (Nat.le_refl _)).more hWb.out.size, h.nm, h.cl, h.cs, h.bs, h.ss, h.ks, h.ts, h.rl⟩)
    clear h
    have u0 : W.cell? ⟨w.heap.size, 0, none⟩ = some (.string b.m.name) := hB.out.cell (i := 0) (by omega)
    have u1 : W.cell? ⟨w.heap.size, 1, none⟩ = some (.int .i64 b.m.stage) := hB.out.cell (i := 1) (by omega)
    have u2 : W.cell? ⟨w.heap.size, 2, none⟩ = some (.slice b.m.A b.m.x.length b.m.c) := hB.out.cell (i := 2) (by omega)
    have u3 : W.cell? ⟨w.heap.size, 3, none⟩ = some (.string b.bob) := hB.out.cell (i := 3) (by omega)
    have u4 : W.cell? ⟨w.heap.size, 4, none⟩ = some (.string b.sing) := hB.out.cell (i := 4) (by omega)
    have u5 : W.cell? ⟨w.heap.size, 5, none⟩ = some (.int .i64 b.step) := hB.out.cell (i := 5) (by omega)
    have u6 : W.cell? ⟨w.heap.size, 6, none⟩ = some (.string b.call) := hB.out.cell (i := 6) (by omega)
    have u7 : W.cell? ⟨w.heap.size, 7, none⟩ = some (.string b.tru) := hB.out.cell (i := 7) (by omega)
    have u8 : W.cell? ⟨w.heap.size, 8, none⟩ = some (.slice b.RA b.rx.length b.rc) := hB.out.cell (i := 8) (by omega)
    go_enter Tryz.func22, Tryz.ntmps22
    go_wp2_with fail
    rw [hWe.out]
    clear hWe
    go_upto_region 3 with (go_at_call 17; refine (iBand_any b _ hok.out).mono ?_; rintro e w1 ⟨rfl, hb1⟩; have hBW : Hid (Below W.heap.size W w1) := Lib.hid hb1; clear u0 u1 u2 u3 u4 u5 u6 u7 u8; have u0 : w1.cell? ⟨w.heap.size, 0, none⟩ = some (.string b.m.name) := (hB.out.later hb1).cell (i := 0) (by omega); have u1 : w1.cell? ⟨w.heap.size, 1, none⟩ = some (.int .i64 b.m.stage) := (hB.out.later hb1).cell (i := 1) (by omega); have u2 : w1.cell? ⟨w.heap.size, 2, none⟩ = some (.slice b.m.A b.m.x.length b.m.c) := (hB.out.later hb1).cell (i := 2) (by omega); have u3 : w1.cell? ⟨w.heap.size, 3, none⟩ = some (.string b.bob) := (hB.out.later hb1).cell (i := 3) (by omega); have u4 : w1.cell? ⟨w.heap.size, 4, none⟩ = some (.string b.sing) := (hB.out.later hb1).cell (i := 4) (by omega); have u5 : w1.cell? ⟨w.heap.size, 5, none⟩ = some (.int .i64 b.step) := (hB.out.later hb1).cell (i := 5) (by omega); have u6 : w1.cell? ⟨w.heap.size, 6, none⟩ = some (.string b.call) := (hB.out.later hb1).cell (i := 6) (by omega); have u7 : w1.cell? ⟨w.heap.size, 7, none⟩ = some (.string b.tru) := (hB.out.later hb1).cell (i := 7) (by omega); have u8 : w1.cell? ⟨w.heap.size, 8, none⟩ = some (.slice b.RA b.rx.length b.rc) := (hB.out.later hb1).cell (i := 8) (by omega))
    obtain ⟨d, hd⟩ : ∃ d, Hid (stepD b = d) := ⟨_, Lib.hid rfl⟩
    rw [hd.out] at hD
    go_wp2_with (go_at_call 94; refine (stepped_any b _ ((hok.out.ch.below hBW.out (Nat.le_refl _)).more hBW.out.size) ((hok.out.ri.below hBW.out (Nat.le_refl _)).more hBW.out.size) hcl C0.out).mono ?_; rw [hd.out]; rintro e w2 hbd; obtain ⟨v2, rfl, hbd1, hb2'⟩ := hbd; obtain ⟨A1, c1, A3, c3, gs, rfl, hg1, hg2, ho1, ho3⟩ := hbd1; have HO1 := Lib.hid ho1; have HO3 := Lib.hid ho3; have hb2 := Lib.hid hb2'; clear ho1 ho3 hb2'; clear u0 u1 u2 u3 u4 u5 u6 u7 u8; have hCr := (hZ.out.later (hBW.out)).later hb2.out; have r0 := hCr.cell (i := 0) (by omega); have rf0 := hCr.free (i := 0) (by omega); have r1 := hCr.cell (i := 1) (by omega); have rf1 := hCr.free (i := 1) (by omega); have r2 := hCr.cell (i := 2) (by omega); have rf2 := hCr.free (i := 2) (by omega); have r3 := hCr.cell (i := 3) (by omega); have rf3 := hCr.free (i := 3) (by omega); have r4 := hCr.cell (i := 4) (by omega); have rf4 := hCr.free (i := 4) (by omega); have r5 := hCr.cell (i := 5) (by omega); have rf5 := hCr.free (i := 5) (by omega); have r6 := hCr.cell (i := 6) (by omega); have rf6 := hCr.free (i := 6) (by omega); have r7 := hCr.cell (i := 7) (by omega); have rf7 := hCr.free (i := 7) (by omega); have r8 := hCr.cell (i := 8) (by omega); have rf8 := hCr.free (i := 8) (by omega); clear hCr)
    have hsz := hb2.out.size
    have hWsz := hBW.out.size
    refine bodyPost_ret (v := .tuple #[.agg #[.string d.name, .int .i64 d.stage, .slice A1 d.x.length c1, .string d.bob, .string d.sing, .int .i64 d.step, .string d.call, .string d.tru, .slice A3 d.rx.length c3], .bool true]) (by simp [results, Tryz.results22, go_sem, r0, r1, r2, r3, r4, r5, r6, r7, r8, rf0, rf1, rf2, rf3, rf4, rf5, rf6, rf7, rf8]) rfl ?_
    have kk : Chg (w.heap.size + 1) (w.heap.size + 1 + 1) w2 (setN w2 (w.heap.size + 1) 0 [.string d.name, .int .i64 d.stage, .slice A1 d.x.length c1, .string d.bob, .string d.sing, .int .i64 d.step, .string d.call, .string d.tru, .slice A3 d.rx.length c3]) := Chg.setN (Nat.le_refl _) (Nat.lt_succ_self _) _ (Chg.refl _ _ w2)
    have hO1 := (HO1.out.chg kk (.inr (by omega))).mono (show w.heap.size ≤ w1.heap.size by omega) (Nat.le_refl _)
    have hO3 := (HO3.out.chg kk (.inr (by omega))).mono (Nat.le_refl _) kk.size
    have hBB := Below.chg ((hWb.out.trans (hBW.out.mono hWb.out.size)).trans (hb2.out.mono (by omega))) kk (by omega) (by omega)
    have hks := kk.size
    refine ⟨_, by rw [hD.out], ?_, hBB⟩
    rw [hD.out]
    exact ⟨A1, c1, A3, c3, gs, rfl, by omega, Nat.le_trans hg2 kk.size, hO1, hO3⟩
  · have e0 := B_f c0
    have C0 := Lib.hid c0
    clear c0
    have hW : ∃ W : World, Hid (((w.alloc (.cells #[.string b.m.name, .int .i64 b.m.stage, .slice b.m.A b.m.x.length b.m.c, .string b.bob, .string b.sing, .int .i64 b.step, .string b.call, .string b.tru, .slice b.RA b.rx.length b.rc] 36)).alloc (.cells #[Value.string ⟨#[]⟩, .int .i64 0, .slice none 0 0, .string ⟨#[]⟩, .string ⟨#[]⟩, .int .i64 0, .string ⟨#[]⟩, .string ⟨#[]⟩, .slice none 0 0] 36)) = W) ∧ Hid (W.heap.size = w.heap.size + 2) ∧ Hid (Below w.heap.size w W) ∧ Hid (Cells W w.heap.size 9 (fun i => (#[Value.string b.m.name, .int .i64 b.m.stage, .slice b.m.A b.m.x.length b.m.c, .string b.bob, .string b.sing, .int .i64 b.step, .string b.call, .string b.tru, .slice b.RA b.rx.length b.rc] : Array Value).getD i undef)) ∧ Hid (Cells W (w.heap.size + 1) 9 (fun i => (#[Value.string ⟨#[]⟩, .int .i64 0, .slice none 0 0, .string ⟨#[]⟩, .string ⟨#[]⟩, .int .i64 0, .string ⟨#[]⟩, .string ⟨#[]⟩, .slice none 0 0] : Array Value).getD i undef)) := by
      have z1 : w.heap.size + 1 = (w.alloc (.cells #[.string b.m.name, .int .i64 b.m.stage, .slice b.m.A b.m.x.length b.m.c, .string b.bob, .string b.sing, .int .i64 b.step, .string b.call, .string b.tru, .slice b.RA b.rx.length b.rc] 36)).heap.size := by simp
      refine ⟨_, Lib.hid rfl, Lib.hid (by simp), Lib.hid (((Below.refl _ _).alloc (Nat.le_refl _) _).alloc (by simp) _), Lib.hid ?_, Lib.hid ?_⟩
      · exact (Cells.newD _ #[.string b.m.name, .int .i64 b.m.stage, .slice b.m.A b.m.x.length b.m.c, .string b.bob, .string b.sing, .int .i64 b.step, .string b.call, .string b.tru, .slice b.RA b.rx.length b.rc] _).alloc _
      · rw [z1]; exact Cells.newD _ #[Value.string ⟨#[]⟩, .int .i64 0, .slice none 0 0, .string ⟨#[]⟩, .string ⟨#[]⟩, .int .i64 0, .string ⟨#[]⟩, .string ⟨#[]⟩, .slice none 0 0] _
    obtain ⟨W, hWe, hWs, hWb, hB, hZ⟩ := hW
    have hWs1 : w.heap.size + 2 ≤ W.heap.size := by have := hWs.out; omega
    have hok : Hid (b.Ok W) := Lib.hid (⟨(h.ch.below hWb.out (Nat.le_refl _)).more hWb.out.size, (h.ri.below hWb.out (Nat.le_refl _)).more hWb.out.size, h.nm, h.cl, h.cs, h.bs, h.ss, h.ks, h.ts, h.rl⟩)
    clear h
    have u0 : W.cell? ⟨w.heap.size, 0, none⟩ = some (.string b.m.name) := hB.out.cell (i := 0) (by omega)
    have u1 : W.cell? ⟨w.heap.size, 1, none⟩ = some (.int .i64 b.m.stage) := hB.out.cell (i := 1) (by omega)
    have u2 : W.cell? ⟨w.heap.size, 2, none⟩ = some (.slice b.m.A b.m.x.length b.m.c) := hB.out.cell (i := 2) (by omega)
    have u3 : W.cell? ⟨w.heap.size, 3, none⟩ = some (.string b.bob) := hB.out.cell (i := 3) (by omega)
    have u4 : W.cell? ⟨w.heap.size, 4, none⟩ = some (.string b.sing) := hB.out.cell (i := 4) (by omega)
    have u5 : W.cell? ⟨w.heap.size, 5, none⟩ = some (.int .i64 b.step) := hB.out.cell (i := 5) (by omega)
    have u6 : W.cell? ⟨w.heap.size, 6, none⟩ = some (.string b.call) := hB.out.cell (i := 6) (by omega)
    have u7 : W.cell? ⟨w.heap.size, 7, none⟩ = some (.string b.tru) := hB.out.cell (i := 7) (by omega)
    have u8 : W.cell? ⟨w.heap.size, 8, none⟩ = some (.slice b.RA b.rx.length b.rc) := hB.out.cell (i := 8) (by omega)
    go_enter Tryz.func22, Tryz.ntmps22
    go_wp2_with fail
    rw [hWe.out]
    clear hWe
    go_wp2_with (go_at_call 17; refine (iBand_any b _ hok.out).mono ?_; rintro e w1 ⟨rfl, hb1⟩; have hBW : Hid (Below W.heap.size W w1) := Lib.hid hb1; clear u0 u1 u2 u3 u4 u5 u6 u7 u8; have hCr := hZ.out.later hBW.out; have r0 := hCr.cell (i := 0) (by omega); have rf0 := hCr.free (i := 0) (by omega); have r1 := hCr.cell (i := 1) (by omega); have rf1 := hCr.free (i := 1) (by omega); have r2 := hCr.cell (i := 2) (by omega); have rf2 := hCr.free (i := 2) (by omega); have r3 := hCr.cell (i := 3) (by omega); have rf3 := hCr.free (i := 3) (by omega); have r4 := hCr.cell (i := 4) (by omega); have rf4 := hCr.free (i := 4) (by omega); have r5 := hCr.cell (i := 5) (by omega); have rf5 := hCr.free (i := 5) (by omega); have r6 := hCr.cell (i := 6) (by omega); have rf6 := hCr.free (i := 6) (by omega); have r7 := hCr.cell (i := 7) (by omega); have rf7 := hCr.free (i := 7) (by omega); have r8 := hCr.cell (i := 8) (by omega); have rf8 := hCr.free (i := 8) (by omega); clear hCr)
    have hWsz := hBW.out.size
    refine bodyPost_ret (v := .tuple #[.agg #[Value.string ⟨#[]⟩, .int .i64 0, .slice none 0 0, .string ⟨#[]⟩, .string ⟨#[]⟩, .int .i64 0, .string ⟨#[]⟩, .string ⟨#[]⟩, .slice none 0 0], .bool false]) (by simp [results, Tryz.results22, go_sem, r0, r1, r2, r3, r4, r5, r6, r7, r8, rf0, rf1, rf2, rf3, rf4, rf5, rf6, rf7, rf8]) rfl ?_
    have kk : Chg (w.heap.size + 1) (w.heap.size + 1 + 1) w1 (setN w1 (w.heap.size + 1) 0 [Value.string ⟨#[]⟩, .int .i64 0, .slice none 0 0, .string ⟨#[]⟩, .string ⟨#[]⟩, .int .i64 0, .string ⟨#[]⟩, .string ⟨#[]⟩, .slice none 0 0]) := Chg.setN (Nat.le_refl _) (Nat.lt_succ_self _) _ (Chg.refl _ _ w1)
    have hBB := Below.chg (hWb.out.trans (hBW.out.mono hWb.out.size)) kk (by omega) (by omega)
    exact ⟨_, by unfold stepBD; rw [if_neg C0.out], by unfold stepBD; rw [if_neg C0.out]; exact BdAt.zero _ _ _ hBB.size, hBB⟩
theorem l24Step_any (b : Bnd) (w : World) (h : RdL w w.heap.size b.m.A 1 encString b.m.x) (hr : RdL w w.heap.size b.RA 2 Rgr.enc b.rx) (hl : b.m.x.length ≤ 1048576) (hp : bandP b) : Calls Tryz.prog 95 #[.agg #[.string b.m.name, .int .i64 b.m.stage, .slice b.m.A b.m.x.length b.m.c, .string b.bob, .string b.sing, .int .i64 b.step, .string b.call, .string b.tru, .slice b.RA b.rx.length b.rc]] w fun e w' => BdOne (stepD b) w e w' := by
  obtain ⟨⟨nm, st, x, A, c⟩, bob, sing, sp, call, tru, rx, RA, rc⟩ := b
  have hF := stepF_of hp
  have hn : ((st.toNat : Nat) : Int) = st := by have := hp.1.1.2.stage.1; simp only at this; omega
  have hk : ((sp.toNat : Nat) : Int) = sp := by have := hp.2.1.1; simp only at this; omega
  have := l24StepF st.toNat sp.toNat nm x A c bob sing call tru rx RA rc _ _ _ _ w (Lib.hid hF) h hr hl
  rw [hn, hk] at this
  exact this
set_option maxHeartbeats 1600000 in
theorem sStepBand_any (b : Bnd) (w : World) (h : b.Ok w) : Calls Tryz.prog 23 #[.agg #[.string b.m.name, .int .i64 b.m.stage, .slice b.m.A b.m.x.length b.m.c, .string b.bob, .string b.sing, .int .i64 b.step, .string b.call, .string b.tru, .slice b.RA b.rx.length b.rc]] w fun e w' => BdRet (stepBD b).1 (stepBD b).2 w e w' := by
  by_cases c0 : bandP b
  · have e0 := B_t c0
    have C0 := Lib.hid c0
    have hcl := h.cl
    have hD : Hid (stepBD b = (stepD b, true)) := Lib.hid (by unfold stepBD; rw [if_pos c0])
    clear c0
    have hW : ∃ W : World, Hid (((w.alloc (.cells #[.string b.m.name, .int .i64 b.m.stage, .slice b.m.A b.m.x.length b.m.c, .string b.bob, .string b.sing, .int .i64 b.step, .string b.call, .string b.tru, .slice b.RA b.rx.length b.rc] 36)).alloc (.cells #[Value.string ⟨#[]⟩, .int .i64 0, .slice none 0 0, .string ⟨#[]⟩, .string ⟨#[]⟩, .int .i64 0, .string ⟨#[]⟩, .string ⟨#[]⟩, .slice none 0 0] 36)) = W) ∧ Hid (W.heap.size = w.heap.size + 2) ∧ Hid (Below w.heap.size w W) ∧ Hid (Cells W w.heap.size 9 (fun i => (#[Value.string b.m.name, .int .i64 b.m.stage, .slice b.m.A b.m.x.length b.m.c, .string b.bob, .string b.sing, .int .i64 b.step, .string b.call, .string b.tru, .slice b.RA b.rx.length b.rc] : Array Value).getD i undef)) ∧ Hid (Cells W (w.heap.size + 1) 9 (fun i => (#[Value.string ⟨#[]⟩, .int .i64 0, .slice none 0 0, .string ⟨#[]⟩, .string ⟨#[]⟩, .int .i64 0, .string ⟨#[]⟩, .string ⟨#[]⟩, .slice none 0 0] : Array Value).getD i undef)) := by
      have z1 : w.heap.size + 1 = (w.alloc (.cells #[.string b.m.name, .int .i64 b.m.stage, .slice b.m.A b.m.x.length b.m.c, .string b.bob, .string b.sing, .int .i64 b.step, .string b.call, .string b.tru, .slice b.RA b.rx.length b.rc] 36)).heap.size := by simp
      refine ⟨_, Lib.hid rfl, Lib.hid (by simp), Lib.hid (((Below.refl _ _).alloc (Nat.le_refl _) _).alloc (by simp) _), Lib.hid ?_, Lib.hid ?_⟩
      · exact (Cells.newD _ #[.string b.m.name, .int .i64 b.m.stage, .slice b.m.A b.m.x.length b.m.c, .string b.bob, .string b.sing, .int .i64 b.step, .string b.call, .string b.tru, .slice b.RA b.rx.length b.rc] _).alloc _
      · rw [z1]; exact Cells.newD _ #[Value.string ⟨#[]⟩, .int .i64 0, .slice none 0 0, .string ⟨#[]⟩, .string ⟨#[]⟩, .int .i64 0, .string ⟨#[]⟩, .string ⟨#[]⟩, .slice none 0 0] _
    obtain ⟨W, hWe, hWs, hWb, hB, hZ⟩ := hW
    have hWs1 : w.heap.size + 2 ≤ W.heap.size := by have := hWs.out; omega
    have hok : Hid (b.Ok W) := Lib.hid (⟨(h.ch.below hWb.out (Nat.le_refl _)).more hWb.out.size, (h.ri.below hWb.out (Nat.le_refl _)).more hWb.out.size, h.nm, h.cl, h.cs, h.bs, h.ss, h.ks, h.ts, h.rl⟩)
    clear h
    have u0 : W.cell? ⟨w.heap.size, 0, none⟩ = some (.string b.m.name) := hB.out.cell (i := 0) (by omega)
    have u1 : W.cell? ⟨w.heap.size, 1, none⟩ = some (.int .i64 b.m.stage) := hB.out.cell (i := 1) (by omega)
    have u2 : W.cell? ⟨w.heap.size, 2, none⟩ = some (.slice b.m.A b.m.x.length b.m.c) := hB.out.cell (i := 2) (by omega)
    have u3 : W.cell? ⟨w.heap.size, 3, none⟩ = some (.string b.bob) := hB.out.cell (i := 3) (by omega)
    have u4 : W.cell? ⟨w.heap.size, 4, none⟩ = some (.string b.sing) := hB.out.cell (i := 4) (by omega)
    have u5 : W.cell? ⟨w.heap.size, 5, none⟩ = some (.int .i64 b.step) := hB.out.cell (i := 5) (by omega)
    have u6 : W.cell? ⟨w.heap.size, 6, none⟩ = some (.string b.call) := hB.out.cell (i := 6) (by omega)
    have u7 : W.cell? ⟨w.heap.size, 7, none⟩ = some (.string b.tru) := hB.out.cell (i := 7) (by omega)
    have u8 : W.cell? ⟨w.heap.size, 8, none⟩ = some (.slice b.RA b.rx.length b.rc) := hB.out.cell (i := 8) (by omega)
    go_enter Tryz.func23, Tryz.ntmps23
    go_wp2_with fail
    rw [hWe.out]
    clear hWe
    go_upto_region 3 with (go_at_call 81; refine (l24Good_any b _ hok.out).mono ?_; rintro e w1 ⟨rfl, hb1⟩; have hBW : Hid (Below W.heap.size W w1) := Lib.hid hb1; clear u0 u1 u2 u3 u4 u5 u6 u7 u8; have u0 : w1.cell? ⟨w.heap.size, 0, none⟩ = some (.string b.m.name) := (hB.out.later hb1).cell (i := 0) (by omega); have u1 : w1.cell? ⟨w.heap.size, 1, none⟩ = some (.int .i64 b.m.stage) := (hB.out.later hb1).cell (i := 1) (by omega); have u2 : w1.cell? ⟨w.heap.size, 2, none⟩ = some (.slice b.m.A b.m.x.length b.m.c) := (hB.out.later hb1).cell (i := 2) (by omega); have u3 : w1.cell? ⟨w.heap.size, 3, none⟩ = some (.string b.bob) := (hB.out.later hb1).cell (i := 3) (by omega); have u4 : w1.cell? ⟨w.heap.size, 4, none⟩ = some (.string b.sing) := (hB.out.later hb1).cell (i := 4) (by omega); have u5 : w1.cell? ⟨w.heap.size, 5, none⟩ = some (.int .i64 b.step) := (hB.out.later hb1).cell (i := 5) (by omega); have u6 : w1.cell? ⟨w.heap.size, 6, none⟩ = some (.string b.call) := (hB.out.later hb1).cell (i := 6) (by omega); have u7 : w1.cell? ⟨w.heap.size, 7, none⟩ = some (.string b.tru) := (hB.out.later hb1).cell (i := 7) (by omega); have u8 : w1.cell? ⟨w.heap.size, 8, none⟩ = some (.slice b.RA b.rx.length b.rc) := (hB.out.later hb1).cell (i := 8) (by omega))
    obtain ⟨d, hd⟩ : ∃ d, Hid (stepD b = d) := ⟨_, Lib.hid rfl⟩
    rw [hd.out] at hD
    go_wp2_with (go_at_call 95; refine (l24Step_any b _ ((hok.out.ch.below hBW.out (Nat.le_refl _)).more hBW.out.size) ((hok.out.ri.below hBW.out (Nat.le_refl _)).more hBW.out.size) hcl C0.out).mono ?_; rw [hd.out]; rintro e w2 hbd; obtain ⟨v2, rfl, hbd1, hb2'⟩ := hbd; obtain ⟨A1, c1, A3, c3, gs, rfl, hg1, hg2, ho1, ho3⟩ := hbd1; have HO1 := Lib.hid ho1; have HO3 := Lib.hid ho3; have hb2 := Lib.hid hb2'; clear ho1 ho3 hb2'; clear u0 u1 u2 u3 u4 u5 u6 u7 u8; have hCr := (hZ.out.later (hBW.out)).later hb2.out; have r0 := hCr.cell (i := 0) (by omega); have rf0 := hCr.free (i := 0) (by omega); have r1 := hCr.cell (i := 1) (by omega); have rf1 := hCr.free (i := 1) (by omega); have r2 := hCr.cell (i := 2) (by omega); have rf2 := hCr.free (i := 2) (by omega); have r3 := hCr.cell (i := 3) (by omega); have rf3 := hCr.free (i := 3) (by omega); have r4 := hCr.cell (i := 4) (by omega); have rf4 := hCr.free (i := 4) (by omega); have r5 := hCr.cell (i := 5) (by omega); have rf5 := hCr.free (i := 5) (by omega); have r6 := hCr.cell (i := 6) (by omega); have rf6 := hCr.free (i := 6) (by omega); have r7 := hCr.cell (i := 7) (by omega); have rf7 := hCr.free (i := 7) (by omega); have r8 := hCr.cell (i := 8) (by omega); have rf8 := hCr.free (i := 8) (by omega); clear hCr)
    have hsz := hb2.out.size
    have hWsz := hBW.out.size
    refine bodyPost_ret (v := .tuple #[.agg #[.string d.name, .int .i64 d.stage, .slice A1 d.x.length c1, .string d.bob, .string d.sing, .int .i64 d.step, .string d.call, .string d.tru, .slice A3 d.rx.length c3], .bool true]) (by simp [results, Tryz.results23, go_sem, r0, r1, r2, r3, r4, r5, r6, r7, r8, rf0, rf1, rf2, rf3, rf4, rf5, rf6, rf7, rf8]) rfl ?_
    have kk : Chg (w.heap.size + 1) (w.heap.size + 1 + 1) w2 (setN w2 (w.heap.size + 1) 0 [.string d.name, .int .i64 d.stage, .slice A1 d.x.length c1, .string d.bob, .string d.sing, .int .i64 d.step, .string d.call, .string d.tru, .slice A3 d.rx.length c3]) := Chg.setN (Nat.le_refl _) (Nat.lt_succ_self _) _ (Chg.refl _ _ w2)
    have hO1 := (HO1.out.chg kk (.inr (by omega))).mono (show w.heap.size ≤ w1.heap.size by omega) (Nat.le_refl _)
    have hO3 := (HO3.out.chg kk (.inr (by omega))).mono (Nat.le_refl _) kk.size
    have hBB := Below.chg ((hWb.out.trans (hBW.out.mono hWb.out.size)).trans (hb2.out.mono (by omega))) kk (by omega) (by omega)
    have hks := kk.size
    refine ⟨_, by rw [hD.out], ?_, hBB⟩
    rw [hD.out]
    exact ⟨A1, c1, A3, c3, gs, rfl, by omega, Nat.le_trans hg2 kk.size, hO1, hO3⟩
  · have e0 := B_f c0
    have C0 := Lib.hid c0
    clear c0
    have hW : ∃ W : World, Hid (((w.alloc (.cells #[.string b.m.name, .int .i64 b.m.stage, .slice b.m.A b.m.x.length b.m.c, .string b.bob, .string b.sing, .int .i64 b.step, .string b.call, .string b.tru, .slice b.RA b.rx.length b.rc] 36)).alloc (.cells #[Value.string ⟨#[]⟩, .int .i64 0, .slice none 0 0, .string ⟨#[]⟩, .string ⟨#[]⟩, .int .i64 0, .string ⟨#[]⟩, .string ⟨#[]⟩, .slice none 0 0] 36)) = W) ∧ Hid (W.heap.size = w.heap.size + 2) ∧ Hid (Below w.heap.size w W) ∧ Hid (Cells W w.heap.size 9 (fun i => (#[Value.string b.m.name, .int .i64 b.m.stage, .slice b.m.A b.m.x.length b.m.c, .string b.bob, .string b.sing, .int .i64 b.step, .string b.call, .string b.tru, .slice b.RA b.rx.length b.rc] : Array Value).getD i undef)) ∧ Hid (Cells W (w.heap.size + 1) 9 (fun i => (#[Value.string ⟨#[]⟩, .int .i64 0, .slice none 0 0, .string ⟨#[]⟩, .string ⟨#[]⟩, .int .i64 0, .string ⟨#[]⟩, .string ⟨#[]⟩, .slice none 0 0] : Array Value).getD i undef)) := by
      have z1 : w.heap.size + 1 = (w.alloc (.cells #[.string b.m.name, .int .i64 b.m.stage, .slice b.m.A b.m.x.length b.m.c, .string b.bob, .string b.sing, .int .i64 b.step, .string b.call, .string b.tru, .slice b.RA b.rx.length b.rc] 36)).heap.size := by simp
      refine ⟨_, Lib.hid rfl, Lib.hid (by simp), Lib.hid (((Below.refl _ _).alloc (Nat.le_refl _) _).alloc (by simp) _), Lib.hid ?_, Lib.hid ?_⟩
      · exact (Cells.newD _ #[.string b.m.name, .int .i64 b.m.stage, .slice b.m.A b.m.x.length b.m.c, .string b.bob, .string b.sing, .int .i64 b.step, .string b.call, .string b.tru, .slice b.RA b.rx.length b.rc] _).alloc _
      · rw [z1]; exact Cells.newD _ #[Value.string ⟨#[]⟩, .int .i64 0, .slice none 0 0, .string ⟨#[]⟩, .string ⟨#[]⟩, .int .i64 0, .string ⟨#[]⟩, .string ⟨#[]⟩, .slice none 0 0] _
    obtain ⟨W, hWe, hWs, hWb, hB, hZ⟩ := hW
    have hWs1 : w.heap.size + 2 ≤ W.heap.size := by have := hWs.out; omega
    have hok : Hid (b.Ok W) := Lib.hid (⟨(h.ch.below hWb.out (Nat.le_refl _)).more hWb.out.size, (h.ri.below hWb.out (Nat.le_refl _)).more hWb.out.size, h.nm, h.cl, h.cs, h.bs, h.ss, h.ks, h.ts, h.rl⟩)
    clear h
    have u0 : W.cell? ⟨w.heap.size, 0, none⟩ = some (.string b.m.name) := hB.out.cell (i := 0) (by omega)
    have u1 : W.cell? ⟨w.heap.size, 1, none⟩ = some (.int .i64 b.m.stage) := hB.out.cell (i := 1) (by omega)
    have u2 : W.cell? ⟨w.heap.size, 2, none⟩ = some (.slice b.m.A b.m.x.length b.m.c) := hB.out.cell (i := 2) (by omega)
    have u3 : W.cell? ⟨w.heap.size, 3, none⟩ = some (.string b.bob) := hB.out.cell (i := 3) (by omega)
    have u4 : W.cell? ⟨w.heap.size, 4, none⟩ = some (.string b.sing) := hB.out.cell (i := 4) (by omega)
    have u5 : W.cell? ⟨w.heap.size, 5, none⟩ = some (.int .i64 b.step) := hB.out.cell (i := 5) (by omega)
    have u6 : W.cell? ⟨w.heap.size, 6, none⟩ = some (.string b.call) := hB.out.cell (i := 6) (by omega)
    have u7 : W.cell? ⟨w.heap.size, 7, none⟩ = some (.string b.tru) := hB.out.cell (i := 7) (by omega)
    have u8 : W.cell? ⟨w.heap.size, 8, none⟩ = some (.slice b.RA b.rx.length b.rc) := hB.out.cell (i := 8) (by omega)
    go_enter Tryz.func23, Tryz.ntmps23
    go_wp2_with fail
    rw [hWe.out]
    clear hWe
    go_wp2_with (go_at_call 81; refine (l24Good_any b _ hok.out).mono ?_; rintro e w1 ⟨rfl, hb1⟩; have hBW : Hid (Below W.heap.size W w1) := Lib.hid hb1; clear u0 u1 u2 u3 u4 u5 u6 u7 u8; have hCr := hZ.out.later hBW.out; have r0 := hCr.cell (i := 0) (by omega); have rf0 := hCr.free (i := 0) (by omega); have r1 := hCr.cell (i := 1) (by omega); have rf1 := hCr.free (i := 1) (by omega); have r2 := hCr.cell (i := 2) (by omega); have rf2 := hCr.free (i := 2) (by omega); have r3 := hCr.cell (i := 3) (by omega); have rf3 := hCr.free (i := 3) (by omega); have r4 := hCr.cell (i := 4) (by omega); have rf4 := hCr.free (i := 4) (by omega); have r5 := hCr.cell (i := 5) (by omega); have rf5 := hCr.free (i := 5) (by omega); have r6 := hCr.cell (i := 6) (by omega); have rf6 := hCr.free (i := 6) (by omega); have r7 := hCr.cell (i := 7) (by omega); have rf7 := hCr.free (i := 7) (by omega); have r8 := hCr.cell (i := 8) (by omega); have rf8 := hCr.free (i := 8) (by omega); clear hCr)
    have hWsz := hBW.out.size
    refine bodyPost_ret (v := .tuple #[.agg #[Value.string ⟨#[]⟩, .int .i64 0, .slice none 0 0, .string ⟨#[]⟩, .string ⟨#[]⟩, .int .i64 0, .string ⟨#[]⟩, .string ⟨#[]⟩, .slice none 0 0], .bool false]) (by simp [results, Tryz.results23, go_sem, r0, r1, r2, r3, r4, r5, r6, r7, r8, rf0, rf1, rf2, rf3, rf4, rf5, rf6, rf7, rf8]) rfl ?_
    have kk : Chg (w.heap.size + 1) (w.heap.size + 1 + 1) w1 (setN w1 (w.heap.size + 1) 0 [Value.string ⟨#[]⟩, .int .i64 0, .slice none 0 0, .string ⟨#[]⟩, .string ⟨#[]⟩, .int .i64 0, .string ⟨#[]⟩, .string ⟨#[]⟩, .slice none 0 0]) := Chg.setN (Nat.le_refl _) (Nat.lt_succ_self _) _ (Chg.refl _ _ w1)
    have hBB := Below.chg (hWb.out.trans (hBW.out.mono hWb.out.size)) kk (by omega) (by omega)
    exact ⟨_, by unfold stepBD; rw [if_neg C0.out], by unfold stepBD; rw [if_neg C0.out]; exact BdAt.zero _ _ _ hBB.size, hBB⟩
end Go.Proofs.YtbfhfnejppfehaaGreatDoor
