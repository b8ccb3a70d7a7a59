/-
  StepBand of the program returns what the reference's returns, for all arguments: no condition.
-/
import Derived.Test.YtebmlcollanfhaaStepBd
import Derived.Test.YtebmlcollanfhaaOpenBand
import Derived.Test.YtebmlcollanfhaaRow
import Derived.Test.YtebmlcollanfhaaFaStepBand
namespace Go.Proofs.Ytebmlcollanfhaa
open Go.RowKit Go.ChangeShapes Go.WideShapes Go.Deep
set_option linter.unusedVariables false
set_option linter.unusedSimpArgs false
set_option maxRecDepth 100000
theorem stepB_of {f : FuncId} {args : Array Value} {w : World} {b b' : Bnd} {dd : Bd} {ok : Bool} (hD : stepBD b = (dd, ok)) (hm : stepBD b' = stepBD b) (h : Calls Try.prog f args w fun e w' => BdRet (stepBD b').1 (stepBD b').2 w e w') : Calls Try.prog f args w fun e w' => BdRet dd ok w e w' := by
  rw [hm, hD] at h; exact h
set_option maxHeartbeats 8000000 in
theorem stepBandLaw (w : World) (b : Bnd) (hb : RdL w w.heap.size b.m.A 1 encString b.m.x) (hrb : RdL w w.heap.size b.RA 2 Rgr.enc b.rx) (fb : b.Fits) :
    Calls Try.prog 12 #[.agg #[.string b.m.name, .int .i64 b.m.stage, .slice b.m.A b.m.x.length b.m.c, .string b.bob, .string b.sing, .int .i64 b.step, .string b.call, .string b.tru, .slice b.RA b.rx.length b.rc]] w fun e w' => e = .returned (.bool true) ∧ Below w.heap.size w w' := by
  have Hb := Lib.hid hb
  have Hrb := Lib.hid hrb
  have Fb := Lib.hid fb
  clear hb hrb fb
  have hbW0 : Below w.heap.size w (w.alloc (.cells #[.string b.m.name, .int .i64 b.m.stage, .slice b.m.A b.m.x.length b.m.c, .string b.bob, .string b.sing, .int .i64 b.step, .string b.call, .string b.tru, .slice b.RA b.rx.length b.rc] 100)) := by repeat (first | exact Below.refl _ _ | (refine Below.alloc ?_ (by simp <;> omega) _))
  go_enter Try.func12, Try.ntmps12
  go_wp2_with fail
  have hW : ∃ W : World, Hid ((w.alloc (.cells #[.string b.m.name, .int .i64 b.m.stage, .slice b.m.A b.m.x.length b.m.c, .string b.bob, .string b.sing, .int .i64 b.step, .string b.call, .string b.tru, .slice b.RA b.rx.length b.rc] 100)) = W) ∧ Hid (Below w.heap.size w W) ∧ w.heap.size + 1 ≤ W.heap.size ∧ Hid (Cells W (w.heap.size) 9 (fun i => (#[Value.string b.m.name, .int .i64 b.m.stage, .slice b.m.A b.m.x.length b.m.c, .string b.bob, .string b.sing, .int .i64 b.step, .string b.call, .string b.tru, .slice b.RA b.rx.length b.rc] : Array Value).getD i undef)) := by
    refine ⟨_, Lib.hid rfl, Lib.hid hbW0, by simp, Lib.hid ?_⟩
    · exact (Cells.newD _ #[.string b.m.name, .int .i64 b.m.stage, .slice b.m.A b.m.x.length b.m.c, .string b.bob, .string b.sing, .int .i64 b.step, .string b.call, .string b.tru, .slice b.RA b.rx.length b.rc] _)
  obtain ⟨w0, hWe, Bw0, t0, HB_aB_0⟩ := hW
  rw [hWe.out]
  clear hWe hbW0
  have s_aB_0 : w0.cell? ⟨w.heap.size, 0, none⟩ = some (.string b.m.name) := HB_aB_0.out.cell (i := 0) (by omega)
  have s_aB_1 : w0.cell? ⟨w.heap.size, 1, none⟩ = some (.int .i64 b.m.stage) := HB_aB_0.out.cell (i := 1) (by omega)
  have s_aB_2 : w0.cell? ⟨w.heap.size, 2, none⟩ = some (.slice b.m.A b.m.x.length b.m.c) := HB_aB_0.out.cell (i := 2) (by omega)
  have s_aB_3 : w0.cell? ⟨w.heap.size, 3, none⟩ = some (.string b.bob) := HB_aB_0.out.cell (i := 3) (by omega)
  have s_aB_4 : w0.cell? ⟨w.heap.size, 4, none⟩ = some (.string b.sing) := HB_aB_0.out.cell (i := 4) (by omega)
  have s_aB_5 : w0.cell? ⟨w.heap.size, 5, none⟩ = some (.int .i64 b.step) := HB_aB_0.out.cell (i := 5) (by omega)
  have s_aB_6 : w0.cell? ⟨w.heap.size, 6, none⟩ = some (.string b.call) := HB_aB_0.out.cell (i := 6) (by omega)
  have s_aB_7 : w0.cell? ⟨w.heap.size, 7, none⟩ = some (.string b.tru) := HB_aB_0.out.cell (i := 7) (by omega)
  have s_aB_8 : w0.cell? ⟨w.heap.size, 8, none⟩ = some (.slice b.RA b.rx.length b.rc) := HB_aB_0.out.cell (i := 8) (by omega)
  go_wp2_with fail
  refine (szBand_any b (1048576 : Int) _ ((Hb.out.below Bw0.out (Nat.le_refl _)).more Bw0.out.size) Fb.out (by omega) (by omega)).mono ?_
  rintro e w1 ⟨r1, rfl, hz, hb⟩
  clear s_aB_0 s_aB_1 s_aB_2 s_aB_3 s_aB_4 s_aB_5 s_aB_6 s_aB_7 s_aB_8
  have C1 := Lib.hid hb
  clear hb
  have t1 := C1.out.size
  have Bw1 := Lib.hid (Bw0.out.trans (C1.out.mono Bw0.out.size))
  have HB_aB_1 := Lib.hid (HB_aB_0.out.later C1.out)
  clear HB_aB_0
  have Z1 := Lib.hid hz
  clear hz
  by_cases n1 : r1 < 0
  · go_wp2_with fail
    go_ret
    exact ⟨rfl, Bw1.out⟩
  have z1 := Z1.out.resolve_left (by omega)
  obtain ⟨ya1, yb1, m1, m2, m3, m4, m5, m6, m7, m8⟩ := z1
  have Hmb : Hid (∀ x ∈ b.m.x, String_small 1048576 x) := Lib.hid (fun x hx => by have := m3 x hx; simp only [String_small] at this ⊢; omega)
  clear m3
  have yl1 : r1 ≤ 1048576 := by omega
  obtain ⟨hsm1, hsm2⟩ := stepBD_small (b := b) (by omega) (by omega)
  obtain ⟨D, hD⟩ : ∃ D, Hid (stepBD b = D) := ⟨_, Lib.hid rfl⟩
  obtain ⟨dd, ok⟩ := D
  rw [hD.out] at hsm1 hsm2
  simp only at hsm1 hsm2
  skip
  have s_aB_0 : w1.cell? ⟨w.heap.size, 0, none⟩ = some (.string b.m.name) := HB_aB_1.out.cell (i := 0) (by omega)
  have s_aB_1 : w1.cell? ⟨w.heap.size, 1, none⟩ = some (.int .i64 b.m.stage) := HB_aB_1.out.cell (i := 1) (by omega)
  have s_aB_2 : w1.cell? ⟨w.heap.size, 2, none⟩ = some (.slice b.m.A b.m.x.length b.m.c) := HB_aB_1.out.cell (i := 2) (by omega)
  have s_aB_3 : w1.cell? ⟨w.heap.size, 3, none⟩ = some (.string b.bob) := HB_aB_1.out.cell (i := 3) (by omega)
  have s_aB_4 : w1.cell? ⟨w.heap.size, 4, none⟩ = some (.string b.sing) := HB_aB_1.out.cell (i := 4) (by omega)
  have s_aB_5 : w1.cell? ⟨w.heap.size, 5, none⟩ = some (.int .i64 b.step) := HB_aB_1.out.cell (i := 5) (by omega)
  have s_aB_6 : w1.cell? ⟨w.heap.size, 6, none⟩ = some (.string b.call) := HB_aB_1.out.cell (i := 6) (by omega)
  have s_aB_7 : w1.cell? ⟨w.heap.size, 7, none⟩ = some (.string b.tru) := HB_aB_1.out.cell (i := 7) (by omega)
  have s_aB_8 : w1.cell? ⟨w.heap.size, 8, none⟩ = some (.slice b.RA b.rx.length b.rc) := HB_aB_1.out.cell (i := 8) (by omega)
  go_wp2_with fail
  refine (toBand_any b _ ((Hb.out.below Bw1.out (Nat.le_refl _)).more Bw1.out.size) ((Hrb.out.below Bw1.out (Nat.le_refl _)).more Bw1.out.size) (by omega) (by omega)).mono ?_
  rintro e w2 ⟨A_w00, R_w00, rfl, ho, ho3, hb⟩
  clear s_aB_0 s_aB_1 s_aB_2 s_aB_3 s_aB_4 s_aB_5 s_aB_6 s_aB_7 s_aB_8
  have C2 := Lib.hid hb
  clear hb
  have t2 := C2.out.size
  have Bw2 := Lib.hid (Bw1.out.trans (C2.out.mono Bw1.out.size))
  have HB_aB_2 := Lib.hid (HB_aB_1.out.later C2.out)
  clear HB_aB_1
  have HO_w00 := Lib.hid ho
  have HO3_w00 := Lib.hid ho3
  clear ho ho3
  go_wp2_with fail
  refine (stepB_of hD.out rfl (sStepBand_any ⟨⟨b.m.name, b.m.stage, b.m.x, A_w00, b.m.x.length⟩, b.bob, b.sing, b.step, b.call, b.tru, b.rx, R_w00, b.rx.length⟩ _ ⟨(HO_w00.out.rd encString_len), (HO3_w00.out.rd Rgr_enc_len), by simp only; omega, by simp only; omega, Hmb.out, by simp only; omega, by simp only; omega, by simp only; omega, by simp only; omega, by simp only; omega⟩)).mono ?_
  rintro e w3 ⟨v, rfl, hbd, hb⟩
  obtain ⟨A1_w0, c1_w0, A3_w0, c3_w0, gs_w0, rfl, hg1_w0, hg2_w0, ho1, ho3⟩ := hbd
  have C3 := Lib.hid hb
  clear hb
  have t3 := C3.out.size
  have Bw3 := Lib.hid (Bw2.out.trans (C3.out.mono Bw2.out.size))
  have HB_aB_3 := Lib.hid (HB_aB_2.out.later C3.out)
  clear HB_aB_2
  have O_w0_a_3 := Lib.hid ho1
  have O_w0_r_3 := Lib.hid ho3
  clear ho1 ho3
  go_upto_region 6 with fail
  have hWx : ∃ W : World, Hid ((w3.alloc (.cells #[.string dd.name, .int .i64 dd.stage, .slice A1_w0 dd.x.length c1_w0, .string dd.bob, .string dd.sing, .int .i64 dd.step, .string dd.call, .string dd.tru, .slice A3_w0 dd.rx.length c3_w0] 45)) = W) ∧ Hid (Below w3.heap.size w3 W) ∧ Hid (Cells W w3.heap.size 9 (fun i => (#[Value.string dd.name, .int .i64 dd.stage, .slice A1_w0 dd.x.length c1_w0, .string dd.bob, .string dd.sing, .int .i64 dd.step, .string dd.call, .string dd.tru, .slice A3_w0 dd.rx.length c3_w0] : Array Value).getD i undef)) := ⟨_, Lib.hid rfl, Lib.hid ((Below.refl _ _).alloc (Nat.le_refl _) _), Lib.hid (Cells.newD _ #[.string dd.name, .int .i64 dd.stage, .slice A1_w0 dd.x.length c1_w0, .string dd.bob, .string dd.sing, .int .i64 dd.step, .string dd.call, .string dd.tru, .slice A3_w0 dd.rx.length c3_w0] _)⟩
  obtain ⟨w4, hWe, hb', hbx⟩ := hWx
  rw [hWe.out]
  clear hWe
  have hb := hb'.out
  clear hb'
  have txw0 : w3.heap.size + 1 ≤ w4.heap.size := hbx.out.lt
  have C4 := Lib.hid hb
  clear hb
  have t4 := C4.out.size
  have Bw4 := Lib.hid (Bw3.out.trans (C4.out.mono Bw3.out.size))
  have HB_aB_4 := Lib.hid (HB_aB_3.out.later C4.out)
  clear HB_aB_3
  have O_w0_a_4 := Lib.hid (O_w0_a_3.out.later C4.out)
  clear O_w0_a_3
  have O_w0_r_4 := Lib.hid (O_w0_r_3.out.later C4.out)
  clear O_w0_r_3
  have HB_w0_4 := hbx
  clear hbx
  have s_aB_0 : w4.cell? ⟨w.heap.size, 0, none⟩ = some (.string b.m.name) := HB_aB_4.out.cell (i := 0) (by omega)
  have s_aB_1 : w4.cell? ⟨w.heap.size, 1, none⟩ = some (.int .i64 b.m.stage) := HB_aB_4.out.cell (i := 1) (by omega)
  have s_aB_2 : w4.cell? ⟨w.heap.size, 2, none⟩ = some (.slice b.m.A b.m.x.length b.m.c) := HB_aB_4.out.cell (i := 2) (by omega)
  have s_aB_3 : w4.cell? ⟨w.heap.size, 3, none⟩ = some (.string b.bob) := HB_aB_4.out.cell (i := 3) (by omega)
  have s_aB_4 : w4.cell? ⟨w.heap.size, 4, none⟩ = some (.string b.sing) := HB_aB_4.out.cell (i := 4) (by omega)
  have s_aB_5 : w4.cell? ⟨w.heap.size, 5, none⟩ = some (.int .i64 b.step) := HB_aB_4.out.cell (i := 5) (by omega)
  have s_aB_6 : w4.cell? ⟨w.heap.size, 6, none⟩ = some (.string b.call) := HB_aB_4.out.cell (i := 6) (by omega)
  have s_aB_7 : w4.cell? ⟨w.heap.size, 7, none⟩ = some (.string b.tru) := HB_aB_4.out.cell (i := 7) (by omega)
  have s_aB_8 : w4.cell? ⟨w.heap.size, 8, none⟩ = some (.slice b.RA b.rx.length b.rc) := HB_aB_4.out.cell (i := 8) (by omega)
  go_wp2_with fail
  refine (toBandS_any b _ ((Hb.out.below Bw4.out (Nat.le_refl _)).more Bw4.out.size) ((Hrb.out.below Bw4.out (Nat.le_refl _)).more Bw4.out.size) (by omega) (by omega)).mono ?_
  rintro e w5 ⟨Ax0, Rx0, gsx0, rfl, hg1x0, hg2x0, ho, ho3, hb⟩
  clear s_aB_0 s_aB_1 s_aB_2 s_aB_3 s_aB_4 s_aB_5 s_aB_6 s_aB_7 s_aB_8
  have C5 := Lib.hid hb
  clear hb
  have t5 := C5.out.size
  have Bw5 := Lib.hid (Bw4.out.trans (C5.out.mono Bw4.out.size))
  have HB_aB_5 := Lib.hid (HB_aB_4.out.later C5.out)
  clear HB_aB_4
  have HB_w0_5 := Lib.hid (HB_w0_4.out.later C5.out)
  clear HB_w0_4
  have O_w0_a_5 := Lib.hid (O_w0_a_4.out.later C5.out)
  clear O_w0_a_4
  have O_w0_r_5 := Lib.hid (O_w0_r_4.out.later C5.out)
  clear O_w0_r_4
  have O_x0_a_5 := Lib.hid ho
  have O_x0_r_5 := Lib.hid ho3
  clear ho ho3
  go_upto_region 7 with fail
  have hWx : ∃ W : World, Hid ((w5.alloc (.cells #[.string b.m.name, .int .i64 b.m.stage, .slice Ax0 b.m.x.length b.m.x.length, .string b.bob, .string b.sing, .int .i64 b.step, .string b.call, .string b.tru, .slice Rx0 b.rx.length b.rx.length] 45)) = W) ∧ Hid (Below w5.heap.size w5 W) ∧ Hid (Cells W w5.heap.size 9 (fun i => (#[Value.string b.m.name, .int .i64 b.m.stage, .slice Ax0 b.m.x.length b.m.x.length, .string b.bob, .string b.sing, .int .i64 b.step, .string b.call, .string b.tru, .slice Rx0 b.rx.length b.rx.length] : Array Value).getD i undef)) := ⟨_, Lib.hid rfl, Lib.hid ((Below.refl _ _).alloc (Nat.le_refl _) _), Lib.hid (Cells.newD _ #[.string b.m.name, .int .i64 b.m.stage, .slice Ax0 b.m.x.length b.m.x.length, .string b.bob, .string b.sing, .int .i64 b.step, .string b.call, .string b.tru, .slice Rx0 b.rx.length b.rx.length] _)⟩
  obtain ⟨w6, hWe, hb', hbx⟩ := hWx
  rw [hWe.out]
  clear hWe
  have hb := hb'.out
  clear hb'
  have txx0 : w5.heap.size + 1 ≤ w6.heap.size := hbx.out.lt
  have C6 := Lib.hid hb
  clear hb
  have t6 := C6.out.size
  have Bw6 := Lib.hid (Bw5.out.trans (C6.out.mono Bw5.out.size))
  have HB_aB_6 := Lib.hid (HB_aB_5.out.later C6.out)
  clear HB_aB_5
  have HB_w0_6 := Lib.hid (HB_w0_5.out.later C6.out)
  clear HB_w0_5
  have O_w0_a_6 := Lib.hid (O_w0_a_5.out.later C6.out)
  clear O_w0_a_5
  have O_w0_r_6 := Lib.hid (O_w0_r_5.out.later C6.out)
  clear O_w0_r_5
  have O_x0_a_6 := Lib.hid (O_x0_a_5.out.later C6.out)
  clear O_x0_a_5
  have O_x0_r_6 := Lib.hid (O_x0_r_5.out.later C6.out)
  clear O_x0_r_5
  have HB_x0_6 := hbx
  clear hbx
  have s_x0_0 : w6.cell? ⟨w5.heap.size, 0, none⟩ = some (.string b.m.name) := HB_x0_6.out.cell (i := 0) (by omega)
  have s_x0_1 : w6.cell? ⟨w5.heap.size, 1, none⟩ = some (.int .i64 b.m.stage) := HB_x0_6.out.cell (i := 1) (by omega)
  have s_x0_2 : w6.cell? ⟨w5.heap.size, 2, none⟩ = some (.slice Ax0 b.m.x.length b.m.x.length) := HB_x0_6.out.cell (i := 2) (by omega)
  have s_x0_3 : w6.cell? ⟨w5.heap.size, 3, none⟩ = some (.string b.bob) := HB_x0_6.out.cell (i := 3) (by omega)
  have s_x0_4 : w6.cell? ⟨w5.heap.size, 4, none⟩ = some (.string b.sing) := HB_x0_6.out.cell (i := 4) (by omega)
  have s_x0_5 : w6.cell? ⟨w5.heap.size, 5, none⟩ = some (.int .i64 b.step) := HB_x0_6.out.cell (i := 5) (by omega)
  have s_x0_6 : w6.cell? ⟨w5.heap.size, 6, none⟩ = some (.string b.call) := HB_x0_6.out.cell (i := 6) (by omega)
  have s_x0_7 : w6.cell? ⟨w5.heap.size, 7, none⟩ = some (.string b.tru) := HB_x0_6.out.cell (i := 7) (by omega)
  have s_x0_8 : w6.cell? ⟨w5.heap.size, 8, none⟩ = some (.slice Rx0 b.rx.length b.rx.length) := HB_x0_6.out.cell (i := 8) (by omega)
  go_wp2_with fail
  refine (stepB_of hD.out rfl (iStepBand_any ⟨⟨b.m.name, b.m.stage, b.m.x, Ax0, b.m.x.length⟩, b.bob, b.sing, b.step, b.call, b.tru, b.rx, Rx0, b.rx.length⟩ _ ⟨(O_x0_a_6.out.rd encString_len), (O_x0_r_6.out.rd Rgr_enc_len), by simp only; omega, by simp only; omega, Hmb.out, by simp only; omega, by simp only; omega, by simp only; omega, by simp only; omega, by simp only; omega⟩)).mono ?_
  rintro e w7 ⟨v, rfl, hbd, hb⟩
  clear s_x0_0 s_x0_1 s_x0_2 s_x0_3 s_x0_4 s_x0_5 s_x0_6 s_x0_7 s_x0_8
  obtain ⟨A1_g0, c1_g0, A3_g0, c3_g0, gs_g0, rfl, hg1_g0, hg2_g0, ho1, ho3⟩ := hbd
  have C7 := Lib.hid hb
  clear hb
  have t7 := C7.out.size
  have Bw7 := Lib.hid (Bw6.out.trans (C7.out.mono Bw6.out.size))
  have HB_aB_7 := Lib.hid (HB_aB_6.out.later C7.out)
  clear HB_aB_6
  have HB_w0_7 := Lib.hid (HB_w0_6.out.later C7.out)
  clear HB_w0_6
  have HB_x0_7 := Lib.hid (HB_x0_6.out.later C7.out)
  clear HB_x0_6
  have O_w0_a_7 := Lib.hid (O_w0_a_6.out.later C7.out)
  clear O_w0_a_6
  have O_w0_r_7 := Lib.hid (O_w0_r_6.out.later C7.out)
  clear O_w0_r_6
  have O_x0_a_7 := Lib.hid (O_x0_a_6.out.later C7.out)
  clear O_x0_a_6
  have O_x0_r_7 := Lib.hid (O_x0_r_6.out.later C7.out)
  clear O_x0_r_6
  have O_g0_a_7 := Lib.hid ho1
  have O_g0_r_7 := Lib.hid ho3
  clear ho1 ho3
  go_upto_region 8 with fail
  have hWx : ∃ W : World, Hid ((w7.alloc (.cells #[.string dd.name, .int .i64 dd.stage, .slice A1_g0 dd.x.length c1_g0, .string dd.bob, .string dd.sing, .int .i64 dd.step, .string dd.call, .string dd.tru, .slice A3_g0 dd.rx.length c3_g0] 45)) = W) ∧ Hid (Below w7.heap.size w7 W) ∧ Hid (Cells W w7.heap.size 9 (fun i => (#[Value.string dd.name, .int .i64 dd.stage, .slice A1_g0 dd.x.length c1_g0, .string dd.bob, .string dd.sing, .int .i64 dd.step, .string dd.call, .string dd.tru, .slice A3_g0 dd.rx.length c3_g0] : Array Value).getD i undef)) := ⟨_, Lib.hid rfl, Lib.hid ((Below.refl _ _).alloc (Nat.le_refl _) _), Lib.hid (Cells.newD _ #[.string dd.name, .int .i64 dd.stage, .slice A1_g0 dd.x.length c1_g0, .string dd.bob, .string dd.sing, .int .i64 dd.step, .string dd.call, .string dd.tru, .slice A3_g0 dd.rx.length c3_g0] _)⟩
  obtain ⟨w8, hWe, hb', hbx⟩ := hWx
  rw [hWe.out]
  clear hWe
  have hb := hb'.out
  clear hb'
  have txg0 : w7.heap.size + 1 ≤ w8.heap.size := hbx.out.lt
  have C8 := Lib.hid hb
  clear hb
  have t8 := C8.out.size
  have Bw8 := Lib.hid (Bw7.out.trans (C8.out.mono Bw7.out.size))
  have HB_aB_8 := Lib.hid (HB_aB_7.out.later C8.out)
  clear HB_aB_7
  have HB_w0_8 := Lib.hid (HB_w0_7.out.later C8.out)
  clear HB_w0_7
  have HB_x0_8 := Lib.hid (HB_x0_7.out.later C8.out)
  clear HB_x0_7
  have O_w0_a_8 := Lib.hid (O_w0_a_7.out.later C8.out)
  clear O_w0_a_7
  have O_w0_r_8 := Lib.hid (O_w0_r_7.out.later C8.out)
  clear O_w0_r_7
  have O_x0_a_8 := Lib.hid (O_x0_a_7.out.later C8.out)
  clear O_x0_a_7
  have O_x0_r_8 := Lib.hid (O_x0_r_7.out.later C8.out)
  clear O_x0_r_7
  have O_g0_a_8 := Lib.hid (O_g0_a_7.out.later C8.out)
  clear O_g0_a_7
  have O_g0_r_8 := Lib.hid (O_g0_r_7.out.later C8.out)
  clear O_g0_r_7
  have HB_g0_8 := hbx
  clear hbx
  have s_g0_0 : w8.cell? ⟨w7.heap.size, 0, none⟩ = some (.string dd.name) := HB_g0_8.out.cell (i := 0) (by omega)
  have s_g0_1 : w8.cell? ⟨w7.heap.size, 1, none⟩ = some (.int .i64 dd.stage) := HB_g0_8.out.cell (i := 1) (by omega)
  have s_g0_2 : w8.cell? ⟨w7.heap.size, 2, none⟩ = some (.slice A1_g0 dd.x.length c1_g0) := HB_g0_8.out.cell (i := 2) (by omega)
  have s_g0_3 : w8.cell? ⟨w7.heap.size, 3, none⟩ = some (.string dd.bob) := HB_g0_8.out.cell (i := 3) (by omega)
  have s_g0_4 : w8.cell? ⟨w7.heap.size, 4, none⟩ = some (.string dd.sing) := HB_g0_8.out.cell (i := 4) (by omega)
  have s_g0_5 : w8.cell? ⟨w7.heap.size, 5, none⟩ = some (.int .i64 dd.step) := HB_g0_8.out.cell (i := 5) (by omega)
  have s_g0_6 : w8.cell? ⟨w7.heap.size, 6, none⟩ = some (.string dd.call) := HB_g0_8.out.cell (i := 6) (by omega)
  have s_g0_7 : w8.cell? ⟨w7.heap.size, 7, none⟩ = some (.string dd.tru) := HB_g0_8.out.cell (i := 7) (by omega)
  have s_g0_8 : w8.cell? ⟨w7.heap.size, 8, none⟩ = some (.slice A3_g0 dd.rx.length c3_g0) := HB_g0_8.out.cell (i := 8) (by omega)
  have s_w0_0 : w8.cell? ⟨w3.heap.size, 0, none⟩ = some (.string dd.name) := HB_w0_8.out.cell (i := 0) (by omega)
  have s_w0_1 : w8.cell? ⟨w3.heap.size, 1, none⟩ = some (.int .i64 dd.stage) := HB_w0_8.out.cell (i := 1) (by omega)
  have s_w0_2 : w8.cell? ⟨w3.heap.size, 2, none⟩ = some (.slice A1_w0 dd.x.length c1_w0) := HB_w0_8.out.cell (i := 2) (by omega)
  have s_w0_3 : w8.cell? ⟨w3.heap.size, 3, none⟩ = some (.string dd.bob) := HB_w0_8.out.cell (i := 3) (by omega)
  have s_w0_4 : w8.cell? ⟨w3.heap.size, 4, none⟩ = some (.string dd.sing) := HB_w0_8.out.cell (i := 4) (by omega)
  have s_w0_5 : w8.cell? ⟨w3.heap.size, 5, none⟩ = some (.int .i64 dd.step) := HB_w0_8.out.cell (i := 5) (by omega)
  have s_w0_6 : w8.cell? ⟨w3.heap.size, 6, none⟩ = some (.string dd.call) := HB_w0_8.out.cell (i := 6) (by omega)
  have s_w0_7 : w8.cell? ⟨w3.heap.size, 7, none⟩ = some (.string dd.tru) := HB_w0_8.out.cell (i := 7) (by omega)
  have s_w0_8 : w8.cell? ⟨w3.heap.size, 8, none⟩ = some (.slice A3_w0 dd.rx.length c3_w0) := HB_w0_8.out.cell (i := 8) (by omega)
  go_wp2_with fail
  refine (eqBand_t ⟨⟨dd.name, dd.stage, dd.x, A1_g0, c1_g0⟩, dd.bob, dd.sing, dd.step, dd.call, dd.tru, dd.rx, A3_g0, c3_g0⟩ A1_w0 A3_w0 c1_w0 c3_w0 _ (O_g0_a_8.out.rd encString_len) (O_w0_a_8.out.rd encString_len) (O_g0_r_8.out.rd Rgr_enc_len) (O_w0_r_8.out.rd Rgr_enc_len) (by simp only; omega) (by simp only; omega)).mono ?_
  rintro e w9 ⟨rfl, hb⟩
  clear s_g0_0 s_g0_1 s_g0_2 s_g0_3 s_g0_4 s_g0_5 s_g0_6 s_g0_7 s_g0_8 s_w0_0 s_w0_1 s_w0_2 s_w0_3 s_w0_4 s_w0_5 s_w0_6 s_w0_7 s_w0_8
  have C9 := Lib.hid hb
  clear hb
  have t9 := C9.out.size
  have Bw9 := Lib.hid (Bw8.out.trans (C9.out.mono Bw8.out.size))
  have HB_aB_9 := Lib.hid (HB_aB_8.out.later C9.out)
  clear HB_aB_8
  have HB_w0_9 := Lib.hid (HB_w0_8.out.later C9.out)
  clear HB_w0_8
  have HB_x0_9 := Lib.hid (HB_x0_8.out.later C9.out)
  clear HB_x0_8
  have HB_g0_9 := Lib.hid (HB_g0_8.out.later C9.out)
  clear HB_g0_8
  have O_w0_a_9 := Lib.hid (O_w0_a_8.out.later C9.out)
  clear O_w0_a_8
  have O_w0_r_9 := Lib.hid (O_w0_r_8.out.later C9.out)
  clear O_w0_r_8
  have O_x0_a_9 := Lib.hid (O_x0_a_8.out.later C9.out)
  clear O_x0_a_8
  have O_x0_r_9 := Lib.hid (O_x0_r_8.out.later C9.out)
  clear O_x0_r_8
  have O_g0_a_9 := Lib.hid (O_g0_a_8.out.later C9.out)
  clear O_g0_a_8
  have O_g0_r_9 := Lib.hid (O_g0_r_8.out.later C9.out)
  clear O_g0_r_8
  have s_x0_0 : w9.cell? ⟨w5.heap.size, 0, none⟩ = some (.string b.m.name) := HB_x0_9.out.cell (i := 0) (by omega)
  have s_x0_1 : w9.cell? ⟨w5.heap.size, 1, none⟩ = some (.int .i64 b.m.stage) := HB_x0_9.out.cell (i := 1) (by omega)
  have s_x0_2 : w9.cell? ⟨w5.heap.size, 2, none⟩ = some (.slice Ax0 b.m.x.length b.m.x.length) := HB_x0_9.out.cell (i := 2) (by omega)
  have s_x0_3 : w9.cell? ⟨w5.heap.size, 3, none⟩ = some (.string b.bob) := HB_x0_9.out.cell (i := 3) (by omega)
  have s_x0_4 : w9.cell? ⟨w5.heap.size, 4, none⟩ = some (.string b.sing) := HB_x0_9.out.cell (i := 4) (by omega)
  have s_x0_5 : w9.cell? ⟨w5.heap.size, 5, none⟩ = some (.int .i64 b.step) := HB_x0_9.out.cell (i := 5) (by omega)
  have s_x0_6 : w9.cell? ⟨w5.heap.size, 6, none⟩ = some (.string b.call) := HB_x0_9.out.cell (i := 6) (by omega)
  have s_x0_7 : w9.cell? ⟨w5.heap.size, 7, none⟩ = some (.string b.tru) := HB_x0_9.out.cell (i := 7) (by omega)
  have s_x0_8 : w9.cell? ⟨w5.heap.size, 8, none⟩ = some (.slice Rx0 b.rx.length b.rx.length) := HB_x0_9.out.cell (i := 8) (by omega)
  have s_aB_0 : w9.cell? ⟨w.heap.size, 0, none⟩ = some (.string b.m.name) := HB_aB_9.out.cell (i := 0) (by omega)
  have s_aB_1 : w9.cell? ⟨w.heap.size, 1, none⟩ = some (.int .i64 b.m.stage) := HB_aB_9.out.cell (i := 1) (by omega)
  have s_aB_2 : w9.cell? ⟨w.heap.size, 2, none⟩ = some (.slice b.m.A b.m.x.length b.m.c) := HB_aB_9.out.cell (i := 2) (by omega)
  have s_aB_3 : w9.cell? ⟨w.heap.size, 3, none⟩ = some (.string b.bob) := HB_aB_9.out.cell (i := 3) (by omega)
  have s_aB_4 : w9.cell? ⟨w.heap.size, 4, none⟩ = some (.string b.sing) := HB_aB_9.out.cell (i := 4) (by omega)
  have s_aB_5 : w9.cell? ⟨w.heap.size, 5, none⟩ = some (.int .i64 b.step) := HB_aB_9.out.cell (i := 5) (by omega)
  have s_aB_6 : w9.cell? ⟨w.heap.size, 6, none⟩ = some (.string b.call) := HB_aB_9.out.cell (i := 6) (by omega)
  have s_aB_7 : w9.cell? ⟨w.heap.size, 7, none⟩ = some (.string b.tru) := HB_aB_9.out.cell (i := 7) (by omega)
  have s_aB_8 : w9.cell? ⟨w.heap.size, 8, none⟩ = some (.slice b.RA b.rx.length b.rc) := HB_aB_9.out.cell (i := 8) (by omega)
  have l_x0_0 := Later.cell s_x0_0 (show w5.heap.size < w9.heap.size by omega)
  have l_x0_1 := Later.cell s_x0_1 (show w5.heap.size < w9.heap.size by omega)
  have l_x0_2 := Later.cell s_x0_2 (show w5.heap.size < w9.heap.size by omega)
  have l_x0_3 := Later.cell s_x0_3 (show w5.heap.size < w9.heap.size by omega)
  have l_x0_4 := Later.cell s_x0_4 (show w5.heap.size < w9.heap.size by omega)
  have l_x0_5 := Later.cell s_x0_5 (show w5.heap.size < w9.heap.size by omega)
  have l_x0_6 := Later.cell s_x0_6 (show w5.heap.size < w9.heap.size by omega)
  have l_x0_7 := Later.cell s_x0_7 (show w5.heap.size < w9.heap.size by omega)
  have l_x0_8 := Later.cell s_x0_8 (show w5.heap.size < w9.heap.size by omega)
  have l_aB_0 := Later.cell s_aB_0 (show w.heap.size < w9.heap.size by omega)
  have l_aB_1 := Later.cell s_aB_1 (show w.heap.size < w9.heap.size by omega)
  have l_aB_2 := Later.cell s_aB_2 (show w.heap.size < w9.heap.size by omega)
  have l_aB_3 := Later.cell s_aB_3 (show w.heap.size < w9.heap.size by omega)
  have l_aB_4 := Later.cell s_aB_4 (show w.heap.size < w9.heap.size by omega)
  have l_aB_5 := Later.cell s_aB_5 (show w.heap.size < w9.heap.size by omega)
  have l_aB_6 := Later.cell s_aB_6 (show w.heap.size < w9.heap.size by omega)
  have l_aB_7 := Later.cell s_aB_7 (show w.heap.size < w9.heap.size by omega)
  have l_aB_8 := Later.cell s_aB_8 (show w.heap.size < w9.heap.size by omega)
  clear s_x0_0 s_x0_1 s_x0_2 s_x0_3 s_x0_4 s_x0_5 s_x0_6 s_x0_7 s_x0_8 s_aB_0 s_aB_1 s_aB_2 s_aB_3 s_aB_4 s_aB_5 s_aB_6 s_aB_7 s_aB_8
  go_wp2_with fail
  refine wp_region_G (by kernel_rfl) [.q, .q, .s (fun _ u lo hi w' => ∃ A R, u = .agg #[.string b.m.name, .int .i64 b.m.stage, .slice A b.m.x.length b.m.x.length, .string b.bob, .string b.sing, .int .i64 b.step, .string b.call, .string b.tru, .slice R b.rx.length b.rx.length] ∧ OwnL w' lo hi A 1 encString b.m.x ∧ OwnL w' lo hi R 2 Rgr.enc b.rx), .s (fun _ u lo hi w' => u = .bool true), .q] [0, 0, 1, 1, 0] rfl 3 (by kernel_rfl) (inC w9) (w9).heap.size (inC.size w9) (inC.of (Below.refl _ _).drew) ?_
  (refine wpG_quiets 2 _ _ _ _ (by first | exact cls_none rfl | exact fun w h => h.1) (by intro j hj; rcases j with _ | _ | _ | _ | _ | _ | _ | _ | _ | _ | j <;> first | exact ⟨rfl, ⟨_, rfl, rfl⟩, rfl⟩ | (exfalso; omega)) ?_; simp only [List.take_succ_cons, List.take_zero, List.drop_succ_cons, List.drop_zero, Nat.zero_add, Nat.reduceAdd]; change wpQuiet _ _ (fun wq9 => ∃ x : Later w9, wq9 = x.W) _ _ _; (repeat (go_big_quiet_step (fail))); refine wpQuiet_nil ?_; try dsimp only)
  (refine wpG_call _ rfl rfl rfl rfl (fun u lo hi => loc_ex fun A => loc_ex fun R => loc_and (loc_pure _) (loc_and (loc_own (Nat.le_refl _) (Nat.le_refl _)) (loc_own (Nat.le_refl _) (Nat.le_refl _)))) 73 #[.agg #[.string b.m.name, .int .i64 b.m.stage, .slice b.m.A b.m.x.length b.m.c, .string b.bob, .string b.sing, .int .i64 b.step, .string b.call, .string b.tru, .slice b.RA b.rx.length b.rc]] (by intro w; go_simp) (by intro w1 hw1 hd; (refine (toBand_any b w1 ((Hb.out.below (Bw9.out.trans (hw1.below.mono Bw9.out.size)) (Nat.le_refl _)).more (Nat.le_trans Bw9.out.size hw1.below.size)) ((Hrb.out.below (Bw9.out.trans (hw1.below.mono Bw9.out.size)) (Nat.le_refl _)).more (Nat.le_trans Bw9.out.size hw1.below.size)) (by omega) (by omega)).mono ?_; rintro e w2 ⟨A, R, rfl, ho, ho3, hb⟩; exact ⟨_, rfl, hw1.step hb, eff_of_below hb, A, R, rfl, ho, ho3⟩)) ?_)
  (intro u_e5 lo_e5 hi_e5 hsat; obtain ⟨w1, hw1⟩ := hsat; have hr : ∃ A R, u_e5 = .agg #[.string b.m.name, .int .i64 b.m.stage, .slice A b.m.x.length b.m.x.length, .string b.bob, .string b.sing, .int .i64 b.step, .string b.call, .string b.tru, .slice R b.rx.length b.rx.length] ∧ OwnL w1 lo_e5 hi_e5 A 1 encString b.m.x ∧ OwnL w1 lo_e5 hi_e5 R 2 Rgr.enc b.rx := (hw1.rec rfl 2).2.2; obtain ⟨A_e5, R_e5, rfl, _⟩ := hr; clear hw1; simp only [Act.put, List.setIfInBounds_toArray, List.set_cons_zero, List.set_cons_succ, Nat.reduceAdd])
  (refine wpG_call _ rfl rfl rfl rfl (fun u lo hi => loc_pure _) 30 #[.agg #[.string b.m.name, .int .i64 b.m.stage, .slice Ax0 b.m.x.length b.m.x.length, .string b.bob, .string b.sing, .int .i64 b.step, .string b.call, .string b.tru, .slice Rx0 b.rx.length b.rx.length], .agg #[.string b.m.name, .int .i64 b.m.stage, .slice A_e5 b.m.x.length b.m.x.length, .string b.bob, .string b.sing, .int .i64 b.step, .string b.call, .string b.tru, .slice R_e5 b.rx.length b.rx.length]] (by intro w; go_simp) (by intro w1 hw1 hd; (have hdz : ∃ A R, (.agg #[.string b.m.name, .int .i64 b.m.stage, .slice A_e5 b.m.x.length b.m.x.length, .string b.bob, .string b.sing, .int .i64 b.step, .string b.call, .string b.tru, .slice R_e5 b.rx.length b.rx.length] : Value) = .agg #[.string b.m.name, .int .i64 b.m.stage, .slice A b.m.x.length b.m.x.length, .string b.bob, .string b.sing, .int .i64 b.step, .string b.call, .string b.tru, .slice R b.rx.length b.rx.length] ∧ OwnL w1 lo_e5 hi_e5 A 1 encString b.m.x ∧ OwnL w1 lo_e5 hi_e5 R 2 Rgr.enc b.rx := (hd 2 (gDep_mem (by kernel_rfl))).2; obtain ⟨Az, Rz, hez, hozA, hozR⟩ := hdz; obtain ⟨rfl, rfl⟩ : A_e5 = Az ∧ R_e5 = Rz := (by simpa using hez); refine (eqBand_t ⟨⟨b.m.name, b.m.stage, b.m.x, Ax0, b.m.x.length⟩, b.bob, b.sing, b.step, b.call, b.tru, b.rx, Rx0, b.rx.length⟩ A_e5 R_e5 b.m.x.length b.rx.length w1 ((O_x0_a_9.out.later hw1.below).rd encString_len) (hozA.rd encString_len) ((O_x0_r_9.out.later hw1.below).rd Rgr_enc_len) (hozR.rd Rgr_enc_len) (by simp only; omega) (by simp only; omega)).mono ?_; rintro e w2 ⟨rfl, hb⟩; exact ⟨_, rfl, hw1.step hb, eff_of_below hb, rfl⟩)) ?_)
  (intro ueq loeq hieq hsat; obtain ⟨w1, hw1⟩ := hsat; have hr : ueq = .bool true := (hw1.rec rfl 3).2.2; obtain rfl := hr; clear hw1; simp only [Act.put, List.setIfInBounds_toArray, List.set_cons_zero, List.set_cons_succ, Nat.reduceAdd])
  (refine wpG_quiets 1 _ _ _ _ (by first | exact cls_none rfl | exact fun w h => h.1) (by intro j hj; rcases j with _ | _ | _ | _ | _ | _ | _ | _ | _ | _ | j <;> first | exact ⟨rfl, ⟨_, rfl, rfl⟩, rfl⟩ | (exfalso; omega)) ?_; simp only [List.take_succ_cons, List.take_zero, List.drop_succ_cons, List.drop_zero, Nat.zero_add, Nat.reduceAdd]; change wpQuiet _ _ (fun wq9 => ∃ x : Later w9, wq9 = x.W) _ _ _; (repeat (go_big_quiet_step (fail))); refine wpQuiet_nil ?_; try dsimp only)
  intro w10 hh
  have hb := (hh.cls rfl).below
  clear hh l_x0_0 l_x0_1 l_x0_2 l_x0_3 l_x0_4 l_x0_5 l_x0_6 l_x0_7 l_x0_8 l_aB_0 l_aB_1 l_aB_2 l_aB_3 l_aB_4 l_aB_5 l_aB_6 l_aB_7 l_aB_8
  have C10 := Lib.hid hb
  clear hb
  have t10 := C10.out.size
  have Bw10 := Lib.hid (Bw9.out.trans (C10.out.mono Bw9.out.size))
  have HB_aB_10 := Lib.hid (HB_aB_9.out.later C10.out)
  clear HB_aB_9
  have HB_w0_10 := Lib.hid (HB_w0_9.out.later C10.out)
  clear HB_w0_9
  have HB_x0_10 := Lib.hid (HB_x0_9.out.later C10.out)
  clear HB_x0_9
  have HB_g0_10 := Lib.hid (HB_g0_9.out.later C10.out)
  clear HB_g0_9
  have O_w0_a_10 := Lib.hid (O_w0_a_9.out.later C10.out)
  clear O_w0_a_9
  have O_w0_r_10 := Lib.hid (O_w0_r_9.out.later C10.out)
  clear O_w0_r_9
  have O_x0_a_10 := Lib.hid (O_x0_a_9.out.later C10.out)
  clear O_x0_a_9
  have O_x0_r_10 := Lib.hid (O_x0_r_9.out.later C10.out)
  clear O_x0_r_9
  have O_g0_a_10 := Lib.hid (O_g0_a_9.out.later C10.out)
  clear O_g0_a_9
  have O_g0_r_10 := Lib.hid (O_g0_r_9.out.later C10.out)
  clear O_g0_r_9
  have s_x0_0 : w10.cell? ⟨w5.heap.size, 0, none⟩ = some (.string b.m.name) := HB_x0_10.out.cell (i := 0) (by omega)
  have s_x0_1 : w10.cell? ⟨w5.heap.size, 1, none⟩ = some (.int .i64 b.m.stage) := HB_x0_10.out.cell (i := 1) (by omega)
  have s_x0_2 : w10.cell? ⟨w5.heap.size, 2, none⟩ = some (.slice Ax0 b.m.x.length b.m.x.length) := HB_x0_10.out.cell (i := 2) (by omega)
  have s_x0_3 : w10.cell? ⟨w5.heap.size, 3, none⟩ = some (.string b.bob) := HB_x0_10.out.cell (i := 3) (by omega)
  have s_x0_4 : w10.cell? ⟨w5.heap.size, 4, none⟩ = some (.string b.sing) := HB_x0_10.out.cell (i := 4) (by omega)
  have s_x0_5 : w10.cell? ⟨w5.heap.size, 5, none⟩ = some (.int .i64 b.step) := HB_x0_10.out.cell (i := 5) (by omega)
  have s_x0_6 : w10.cell? ⟨w5.heap.size, 6, none⟩ = some (.string b.call) := HB_x0_10.out.cell (i := 6) (by omega)
  have s_x0_7 : w10.cell? ⟨w5.heap.size, 7, none⟩ = some (.string b.tru) := HB_x0_10.out.cell (i := 7) (by omega)
  have s_x0_8 : w10.cell? ⟨w5.heap.size, 8, none⟩ = some (.slice Rx0 b.rx.length b.rx.length) := HB_x0_10.out.cell (i := 8) (by omega)
  go_wp2_with fail
  refine (markBand_any ⟨⟨b.m.name, b.m.stage, b.m.x, Ax0, b.m.x.length⟩, b.bob, b.sing, b.step, b.call, b.tru, b.rx, Rx0, b.rx.length⟩ w4.heap.size gsx0 w5.heap.size 1 _ O_x0_a_10.out O_x0_r_10.out (by omega) (by omega) (by omega) (by simp only; omega) (by simp only; omega) (by omega) (by omega)).mono ?_
  rintro e w11 ⟨he, hc⟩
  clear s_x0_0 s_x0_1 s_x0_2 s_x0_3 s_x0_4 s_x0_5 s_x0_6 s_x0_7 s_x0_8
  obtain ⟨q11, hq⟩ : ∃ q : Nat, q = 1 + b.m.x.length + b.rx.length * 2 := ⟨_, rfl⟩
  have he2 : e = .returned (.int .i64 (q11 : Int)) := by rw [hq]; exact he
  subst he2
  clear he
  have Hq11 := Lib.hid hq
  obtain ⟨qa11, qb11⟩ : 0 < q11 ∧ q11 ≤ 10000001 := by omega
  clear hq
  have C11 := Lib.hid hc
  clear hc
  have t11 := C11.out.size
  have Bw11 := Lib.hid (Below.chg Bw10.out C11.out (by omega) Bw10.out.size)
  have HB_aB_11 := Lib.hid (HB_aB_10.out.chg C11.out (by omega))
  clear HB_aB_10
  have HB_w0_11 := Lib.hid (HB_w0_10.out.chg C11.out (by omega))
  clear HB_w0_10
  have HB_g0_11 := Lib.hid (HB_g0_10.out.chg C11.out (by omega))
  clear HB_g0_10
  have O_w0_a_11 := Lib.hid (O_w0_a_10.out.chg C11.out (by omega))
  clear O_w0_a_10
  have O_w0_r_11 := Lib.hid (O_w0_r_10.out.chg C11.out (by omega))
  clear O_w0_r_10
  have O_g0_a_11 := Lib.hid (O_g0_a_10.out.chg C11.out (by omega))
  clear O_g0_a_10
  have O_g0_r_11 := Lib.hid (O_g0_r_10.out.chg C11.out (by omega))
  clear O_g0_r_10
  clear O_x0_a_10
  clear O_x0_r_10
  clear HB_x0_10
  have s_g0_0 : w11.cell? ⟨w7.heap.size, 0, none⟩ = some (.string dd.name) := HB_g0_11.out.cell (i := 0) (by omega)
  have s_g0_1 : w11.cell? ⟨w7.heap.size, 1, none⟩ = some (.int .i64 dd.stage) := HB_g0_11.out.cell (i := 1) (by omega)
  have s_g0_2 : w11.cell? ⟨w7.heap.size, 2, none⟩ = some (.slice A1_g0 dd.x.length c1_g0) := HB_g0_11.out.cell (i := 2) (by omega)
  have s_g0_3 : w11.cell? ⟨w7.heap.size, 3, none⟩ = some (.string dd.bob) := HB_g0_11.out.cell (i := 3) (by omega)
  have s_g0_4 : w11.cell? ⟨w7.heap.size, 4, none⟩ = some (.string dd.sing) := HB_g0_11.out.cell (i := 4) (by omega)
  have s_g0_5 : w11.cell? ⟨w7.heap.size, 5, none⟩ = some (.int .i64 dd.step) := HB_g0_11.out.cell (i := 5) (by omega)
  have s_g0_6 : w11.cell? ⟨w7.heap.size, 6, none⟩ = some (.string dd.call) := HB_g0_11.out.cell (i := 6) (by omega)
  have s_g0_7 : w11.cell? ⟨w7.heap.size, 7, none⟩ = some (.string dd.tru) := HB_g0_11.out.cell (i := 7) (by omega)
  have s_g0_8 : w11.cell? ⟨w7.heap.size, 8, none⟩ = some (.slice A3_g0 dd.rx.length c3_g0) := HB_g0_11.out.cell (i := 8) (by omega)
  have s_w0_0 : w11.cell? ⟨w3.heap.size, 0, none⟩ = some (.string dd.name) := HB_w0_11.out.cell (i := 0) (by omega)
  have s_w0_1 : w11.cell? ⟨w3.heap.size, 1, none⟩ = some (.int .i64 dd.stage) := HB_w0_11.out.cell (i := 1) (by omega)
  have s_w0_2 : w11.cell? ⟨w3.heap.size, 2, none⟩ = some (.slice A1_w0 dd.x.length c1_w0) := HB_w0_11.out.cell (i := 2) (by omega)
  have s_w0_3 : w11.cell? ⟨w3.heap.size, 3, none⟩ = some (.string dd.bob) := HB_w0_11.out.cell (i := 3) (by omega)
  have s_w0_4 : w11.cell? ⟨w3.heap.size, 4, none⟩ = some (.string dd.sing) := HB_w0_11.out.cell (i := 4) (by omega)
  have s_w0_5 : w11.cell? ⟨w3.heap.size, 5, none⟩ = some (.int .i64 dd.step) := HB_w0_11.out.cell (i := 5) (by omega)
  have s_w0_6 : w11.cell? ⟨w3.heap.size, 6, none⟩ = some (.string dd.call) := HB_w0_11.out.cell (i := 6) (by omega)
  have s_w0_7 : w11.cell? ⟨w3.heap.size, 7, none⟩ = some (.string dd.tru) := HB_w0_11.out.cell (i := 7) (by omega)
  have s_w0_8 : w11.cell? ⟨w3.heap.size, 8, none⟩ = some (.slice A3_w0 dd.rx.length c3_w0) := HB_w0_11.out.cell (i := 8) (by omega)
  go_wp2_with fail
  refine (eqBand_t ⟨⟨dd.name, dd.stage, dd.x, A1_g0, c1_g0⟩, dd.bob, dd.sing, dd.step, dd.call, dd.tru, dd.rx, A3_g0, c3_g0⟩ A1_w0 A3_w0 c1_w0 c3_w0 _ (O_g0_a_11.out.rd encString_len) (O_w0_a_11.out.rd encString_len) (O_g0_r_11.out.rd Rgr_enc_len) (O_w0_r_11.out.rd Rgr_enc_len) (by simp only; omega) (by simp only; omega)).mono ?_
  rintro e w12 ⟨rfl, hb⟩
  clear s_g0_0 s_g0_1 s_g0_2 s_g0_3 s_g0_4 s_g0_5 s_g0_6 s_g0_7 s_g0_8 s_w0_0 s_w0_1 s_w0_2 s_w0_3 s_w0_4 s_w0_5 s_w0_6 s_w0_7 s_w0_8
  have C12 := Lib.hid hb
  clear hb
  have t12 := C12.out.size
  have Bw12 := Lib.hid (Bw11.out.trans (C12.out.mono Bw11.out.size))
  have HB_aB_12 := Lib.hid (HB_aB_11.out.later C12.out)
  clear HB_aB_11
  have HB_w0_12 := Lib.hid (HB_w0_11.out.later C12.out)
  clear HB_w0_11
  have HB_g0_12 := Lib.hid (HB_g0_11.out.later C12.out)
  clear HB_g0_11
  have O_w0_a_12 := Lib.hid (O_w0_a_11.out.later C12.out)
  clear O_w0_a_11
  have O_w0_r_12 := Lib.hid (O_w0_r_11.out.later C12.out)
  clear O_w0_r_11
  have O_g0_a_12 := Lib.hid (O_g0_a_11.out.later C12.out)
  clear O_g0_a_11
  have O_g0_r_12 := Lib.hid (O_g0_r_11.out.later C12.out)
  clear O_g0_r_11
  have s_g0_0 : w12.cell? ⟨w7.heap.size, 0, none⟩ = some (.string dd.name) := HB_g0_12.out.cell (i := 0) (by omega)
  have s_g0_1 : w12.cell? ⟨w7.heap.size, 1, none⟩ = some (.int .i64 dd.stage) := HB_g0_12.out.cell (i := 1) (by omega)
  have s_g0_2 : w12.cell? ⟨w7.heap.size, 2, none⟩ = some (.slice A1_g0 dd.x.length c1_g0) := HB_g0_12.out.cell (i := 2) (by omega)
  have s_g0_3 : w12.cell? ⟨w7.heap.size, 3, none⟩ = some (.string dd.bob) := HB_g0_12.out.cell (i := 3) (by omega)
  have s_g0_4 : w12.cell? ⟨w7.heap.size, 4, none⟩ = some (.string dd.sing) := HB_g0_12.out.cell (i := 4) (by omega)
  have s_g0_5 : w12.cell? ⟨w7.heap.size, 5, none⟩ = some (.int .i64 dd.step) := HB_g0_12.out.cell (i := 5) (by omega)
  have s_g0_6 : w12.cell? ⟨w7.heap.size, 6, none⟩ = some (.string dd.call) := HB_g0_12.out.cell (i := 6) (by omega)
  have s_g0_7 : w12.cell? ⟨w7.heap.size, 7, none⟩ = some (.string dd.tru) := HB_g0_12.out.cell (i := 7) (by omega)
  have s_g0_8 : w12.cell? ⟨w7.heap.size, 8, none⟩ = some (.slice A3_g0 dd.rx.length c3_g0) := HB_g0_12.out.cell (i := 8) (by omega)
  go_wp2_with fail
  refine (markBandC_any ⟨⟨dd.name, dd.stage, dd.x, A1_g0, c1_g0⟩, dd.bob, dd.sing, dd.step, dd.call, dd.tru, dd.rx, A3_g0, c3_g0⟩ w6.heap.size gs_g0 w7.heap.size 1 _ O_g0_a_12.out O_g0_r_12.out (by omega) (by omega) (by omega) (by simp only; omega) (by simp only; omega) (by omega) (by omega)).mono ?_
  rintro e w13 ⟨he, ho, ho3, hc⟩
  clear s_g0_0 s_g0_1 s_g0_2 s_g0_3 s_g0_4 s_g0_5 s_g0_6 s_g0_7 s_g0_8
  obtain ⟨q13, hq⟩ : ∃ q : Nat, q = 1 + dd.x.length + dd.rx.length * 2 := ⟨_, rfl⟩
  have he2 : e = .returned (.int .i64 (q13 : Int)) := by rw [hq]; exact he
  subst he2
  clear he
  have Hq13 := Lib.hid hq
  obtain ⟨qa13, qb13⟩ : 0 < q13 ∧ q13 ≤ 10000001 := by omega
  clear hq
  have C13 := Lib.hid hc
  clear hc
  have t13 := C13.out.size
  have Bw13 := Lib.hid (Below.chg Bw12.out C13.out (by omega) Bw12.out.size)
  have HB_aB_13 := Lib.hid (HB_aB_12.out.chg C13.out (by omega))
  clear HB_aB_12
  have HB_w0_13 := Lib.hid (HB_w0_12.out.chg C13.out (by omega))
  clear HB_w0_12
  have O_w0_a_13 := Lib.hid (O_w0_a_12.out.chg C13.out (by omega))
  clear O_w0_a_12
  have O_w0_r_13 := Lib.hid (O_w0_r_12.out.chg C13.out (by omega))
  clear O_w0_r_12
  have O_g0_a_13 := Lib.hid ho
  have O_g0_r_13 := Lib.hid ho3
  clear ho ho3 O_g0_a_12 O_g0_r_12
  have HB_g0_13 := Lib.hid (HB_g0_12.out.chg C13.out (by omega))
  clear HB_g0_12
  have s_g0_0 : w13.cell? ⟨w7.heap.size, 0, none⟩ = some (.string dd.name) := HB_g0_13.out.cell (i := 0) (by omega)
  have s_g0_1 : w13.cell? ⟨w7.heap.size, 1, none⟩ = some (.int .i64 dd.stage) := HB_g0_13.out.cell (i := 1) (by omega)
  have s_g0_2 : w13.cell? ⟨w7.heap.size, 2, none⟩ = some (.slice A1_g0 dd.x.length c1_g0) := HB_g0_13.out.cell (i := 2) (by omega)
  have s_g0_3 : w13.cell? ⟨w7.heap.size, 3, none⟩ = some (.string dd.bob) := HB_g0_13.out.cell (i := 3) (by omega)
  have s_g0_4 : w13.cell? ⟨w7.heap.size, 4, none⟩ = some (.string dd.sing) := HB_g0_13.out.cell (i := 4) (by omega)
  have s_g0_5 : w13.cell? ⟨w7.heap.size, 5, none⟩ = some (.int .i64 dd.step) := HB_g0_13.out.cell (i := 5) (by omega)
  have s_g0_6 : w13.cell? ⟨w7.heap.size, 6, none⟩ = some (.string dd.call) := HB_g0_13.out.cell (i := 6) (by omega)
  have s_g0_7 : w13.cell? ⟨w7.heap.size, 7, none⟩ = some (.string dd.tru) := HB_g0_13.out.cell (i := 7) (by omega)
  have s_g0_8 : w13.cell? ⟨w7.heap.size, 8, none⟩ = some (.slice A3_g0 dd.rx.length c3_g0) := HB_g0_13.out.cell (i := 8) (by omega)
  go_wp2_with fail
  refine (heldBand_any dd.name dd.stage A1_g0 dd.x.length c1_g0 dd.bob dd.sing dd.step dd.call dd.tru A3_g0 dd.rx.length c3_g0 1 _ (O_g0_a_13.out.rd encString_len) (O_g0_r_13.out.rd Rgr_enc_len) (by omega) (by omega) (by omega) (by omega)).mono ?_
  rintro e w14 ⟨he, hb⟩
  clear s_g0_0 s_g0_1 s_g0_2 s_g0_3 s_g0_4 s_g0_5 s_g0_6 s_g0_7 s_g0_8
  have he2 : e = .returned (.int .i64 (q13 : Int)) := by rw [Hq13.out]; exact he
  subst he2
  clear he
  have C14 := Lib.hid hb
  clear hb
  have t14 := C14.out.size
  have Bw14 := Lib.hid (Bw13.out.trans (C14.out.mono Bw13.out.size))
  have HB_aB_14 := Lib.hid (HB_aB_13.out.later C14.out)
  clear HB_aB_13
  have HB_w0_14 := Lib.hid (HB_w0_13.out.later C14.out)
  clear HB_w0_13
  have HB_g0_14 := Lib.hid (HB_g0_13.out.later C14.out)
  clear HB_g0_13
  have O_w0_a_14 := Lib.hid (O_w0_a_13.out.later C14.out)
  clear O_w0_a_13
  have O_w0_r_14 := Lib.hid (O_w0_r_13.out.later C14.out)
  clear O_w0_r_13
  have O_g0_a_14 := Lib.hid (O_g0_a_13.out.later C14.out)
  clear O_g0_a_13
  have O_g0_r_14 := Lib.hid (O_g0_r_13.out.later C14.out)
  clear O_g0_r_13
  have s_aB_0 : w14.cell? ⟨w.heap.size, 0, none⟩ = some (.string b.m.name) := HB_aB_14.out.cell (i := 0) (by omega)
  have s_aB_1 : w14.cell? ⟨w.heap.size, 1, none⟩ = some (.int .i64 b.m.stage) := HB_aB_14.out.cell (i := 1) (by omega)
  have s_aB_2 : w14.cell? ⟨w.heap.size, 2, none⟩ = some (.slice b.m.A b.m.x.length b.m.c) := HB_aB_14.out.cell (i := 2) (by omega)
  have s_aB_3 : w14.cell? ⟨w.heap.size, 3, none⟩ = some (.string b.bob) := HB_aB_14.out.cell (i := 3) (by omega)
  have s_aB_4 : w14.cell? ⟨w.heap.size, 4, none⟩ = some (.string b.sing) := HB_aB_14.out.cell (i := 4) (by omega)
  have s_aB_5 : w14.cell? ⟨w.heap.size, 5, none⟩ = some (.int .i64 b.step) := HB_aB_14.out.cell (i := 5) (by omega)
  have s_aB_6 : w14.cell? ⟨w.heap.size, 6, none⟩ = some (.string b.call) := HB_aB_14.out.cell (i := 6) (by omega)
  have s_aB_7 : w14.cell? ⟨w.heap.size, 7, none⟩ = some (.string b.tru) := HB_aB_14.out.cell (i := 7) (by omega)
  have s_aB_8 : w14.cell? ⟨w.heap.size, 8, none⟩ = some (.slice b.RA b.rx.length b.rc) := HB_aB_14.out.cell (i := 8) (by omega)
  go_wp2_with fail
  refine (toBand_any b _ ((Hb.out.below Bw14.out (Nat.le_refl _)).more Bw14.out.size) ((Hrb.out.below Bw14.out (Nat.le_refl _)).more Bw14.out.size) (by omega) (by omega)).mono ?_
  rintro e w15 ⟨A_h00, R_h00, rfl, ho, ho3, hb⟩
  clear s_aB_0 s_aB_1 s_aB_2 s_aB_3 s_aB_4 s_aB_5 s_aB_6 s_aB_7 s_aB_8
  have C15 := Lib.hid hb
  clear hb
  have t15 := C15.out.size
  have Bw15 := Lib.hid (Bw14.out.trans (C15.out.mono Bw14.out.size))
  have HB_aB_15 := Lib.hid (HB_aB_14.out.later C15.out)
  clear HB_aB_14
  have HB_w0_15 := Lib.hid (HB_w0_14.out.later C15.out)
  clear HB_w0_14
  have HB_g0_15 := Lib.hid (HB_g0_14.out.later C15.out)
  clear HB_g0_14
  have O_w0_a_15 := Lib.hid (O_w0_a_14.out.later C15.out)
  clear O_w0_a_14
  have O_w0_r_15 := Lib.hid (O_w0_r_14.out.later C15.out)
  clear O_w0_r_14
  have O_g0_a_15 := Lib.hid (O_g0_a_14.out.later C15.out)
  clear O_g0_a_14
  have O_g0_r_15 := Lib.hid (O_g0_r_14.out.later C15.out)
  clear O_g0_r_14
  have HO_h00 := Lib.hid ho
  have HO3_h00 := Lib.hid ho3
  clear ho ho3
  go_wp2_with fail
  refine (stepB_of hD.out rfl (iStepBand_any ⟨⟨b.m.name, b.m.stage, b.m.x, A_h00, b.m.x.length⟩, b.bob, b.sing, b.step, b.call, b.tru, b.rx, R_h00, b.rx.length⟩ _ ⟨(HO_h00.out.rd encString_len), (HO3_h00.out.rd Rgr_enc_len), by simp only; omega, by simp only; omega, Hmb.out, by simp only; omega, by simp only; omega, by simp only; omega, by simp only; omega, by simp only; omega⟩)).mono ?_
  rintro e w16 ⟨v, rfl, hbd, hb⟩
  obtain ⟨A1_h0, c1_h0, A3_h0, c3_h0, gs_h0, rfl, hg1_h0, hg2_h0, ho1, ho3⟩ := hbd
  have C16 := Lib.hid hb
  clear hb
  have t16 := C16.out.size
  have Bw16 := Lib.hid (Bw15.out.trans (C16.out.mono Bw15.out.size))
  clear HB_aB_15
  have HB_w0_16 := Lib.hid (HB_w0_15.out.later C16.out)
  clear HB_w0_15
  have HB_g0_16 := Lib.hid (HB_g0_15.out.later C16.out)
  clear HB_g0_15
  have O_w0_a_16 := Lib.hid (O_w0_a_15.out.later C16.out)
  clear O_w0_a_15
  have O_w0_r_16 := Lib.hid (O_w0_r_15.out.later C16.out)
  clear O_w0_r_15
  have O_g0_a_16 := Lib.hid (O_g0_a_15.out.later C16.out)
  clear O_g0_a_15
  have O_g0_r_16 := Lib.hid (O_g0_r_15.out.later C16.out)
  clear O_g0_r_15
  have O_h0_a_16 := Lib.hid ho1
  have O_h0_r_16 := Lib.hid ho3
  clear ho1 ho3
  go_upto_region 25 with fail
  have hWx : ∃ W : World, Hid ((w16.alloc (.cells #[.string dd.name, .int .i64 dd.stage, .slice A1_h0 dd.x.length c1_h0, .string dd.bob, .string dd.sing, .int .i64 dd.step, .string dd.call, .string dd.tru, .slice A3_h0 dd.rx.length c3_h0] 45)) = W) ∧ Hid (Below w16.heap.size w16 W) ∧ Hid (Cells W w16.heap.size 9 (fun i => (#[Value.string dd.name, .int .i64 dd.stage, .slice A1_h0 dd.x.length c1_h0, .string dd.bob, .string dd.sing, .int .i64 dd.step, .string dd.call, .string dd.tru, .slice A3_h0 dd.rx.length c3_h0] : Array Value).getD i undef)) := ⟨_, Lib.hid rfl, Lib.hid ((Below.refl _ _).alloc (Nat.le_refl _) _), Lib.hid (Cells.newD _ #[.string dd.name, .int .i64 dd.stage, .slice A1_h0 dd.x.length c1_h0, .string dd.bob, .string dd.sing, .int .i64 dd.step, .string dd.call, .string dd.tru, .slice A3_h0 dd.rx.length c3_h0] _)⟩
  obtain ⟨w17, hWe, hb', hbx⟩ := hWx
  rw [hWe.out]
  clear hWe
  have hb := hb'.out
  clear hb'
  have txh0 : w16.heap.size + 1 ≤ w17.heap.size := hbx.out.lt
  have C17 := Lib.hid hb
  clear hb
  have t17 := C17.out.size
  have Bw17 := Lib.hid (Bw16.out.trans (C17.out.mono Bw16.out.size))
  have HB_w0_17 := Lib.hid (HB_w0_16.out.later C17.out)
  clear HB_w0_16
  have HB_g0_17 := Lib.hid (HB_g0_16.out.later C17.out)
  clear HB_g0_16
  have O_w0_a_17 := Lib.hid (O_w0_a_16.out.later C17.out)
  clear O_w0_a_16
  have O_w0_r_17 := Lib.hid (O_w0_r_16.out.later C17.out)
  clear O_w0_r_16
  have O_g0_a_17 := Lib.hid (O_g0_a_16.out.later C17.out)
  clear O_g0_a_16
  have O_g0_r_17 := Lib.hid (O_g0_r_16.out.later C17.out)
  clear O_g0_r_16
  have O_h0_a_17 := Lib.hid (O_h0_a_16.out.later C17.out)
  clear O_h0_a_16
  have O_h0_r_17 := Lib.hid (O_h0_r_16.out.later C17.out)
  clear O_h0_r_16
  have HB_h0_17 := hbx
  clear hbx
  have s_h0_0 : w17.cell? ⟨w16.heap.size, 0, none⟩ = some (.string dd.name) := HB_h0_17.out.cell (i := 0) (by omega)
  have s_h0_1 : w17.cell? ⟨w16.heap.size, 1, none⟩ = some (.int .i64 dd.stage) := HB_h0_17.out.cell (i := 1) (by omega)
  have s_h0_2 : w17.cell? ⟨w16.heap.size, 2, none⟩ = some (.slice A1_h0 dd.x.length c1_h0) := HB_h0_17.out.cell (i := 2) (by omega)
  have s_h0_3 : w17.cell? ⟨w16.heap.size, 3, none⟩ = some (.string dd.bob) := HB_h0_17.out.cell (i := 3) (by omega)
  have s_h0_4 : w17.cell? ⟨w16.heap.size, 4, none⟩ = some (.string dd.sing) := HB_h0_17.out.cell (i := 4) (by omega)
  have s_h0_5 : w17.cell? ⟨w16.heap.size, 5, none⟩ = some (.int .i64 dd.step) := HB_h0_17.out.cell (i := 5) (by omega)
  have s_h0_6 : w17.cell? ⟨w16.heap.size, 6, none⟩ = some (.string dd.call) := HB_h0_17.out.cell (i := 6) (by omega)
  have s_h0_7 : w17.cell? ⟨w16.heap.size, 7, none⟩ = some (.string dd.tru) := HB_h0_17.out.cell (i := 7) (by omega)
  have s_h0_8 : w17.cell? ⟨w16.heap.size, 8, none⟩ = some (.slice A3_h0 dd.rx.length c3_h0) := HB_h0_17.out.cell (i := 8) (by omega)
  have s_w0_0 : w17.cell? ⟨w3.heap.size, 0, none⟩ = some (.string dd.name) := HB_w0_17.out.cell (i := 0) (by omega)
  have s_w0_1 : w17.cell? ⟨w3.heap.size, 1, none⟩ = some (.int .i64 dd.stage) := HB_w0_17.out.cell (i := 1) (by omega)
  have s_w0_2 : w17.cell? ⟨w3.heap.size, 2, none⟩ = some (.slice A1_w0 dd.x.length c1_w0) := HB_w0_17.out.cell (i := 2) (by omega)
  have s_w0_3 : w17.cell? ⟨w3.heap.size, 3, none⟩ = some (.string dd.bob) := HB_w0_17.out.cell (i := 3) (by omega)
  have s_w0_4 : w17.cell? ⟨w3.heap.size, 4, none⟩ = some (.string dd.sing) := HB_w0_17.out.cell (i := 4) (by omega)
  have s_w0_5 : w17.cell? ⟨w3.heap.size, 5, none⟩ = some (.int .i64 dd.step) := HB_w0_17.out.cell (i := 5) (by omega)
  have s_w0_6 : w17.cell? ⟨w3.heap.size, 6, none⟩ = some (.string dd.call) := HB_w0_17.out.cell (i := 6) (by omega)
  have s_w0_7 : w17.cell? ⟨w3.heap.size, 7, none⟩ = some (.string dd.tru) := HB_w0_17.out.cell (i := 7) (by omega)
  have s_w0_8 : w17.cell? ⟨w3.heap.size, 8, none⟩ = some (.slice A3_w0 dd.rx.length c3_w0) := HB_w0_17.out.cell (i := 8) (by omega)
  go_wp2_with fail
  refine (eqBand_t ⟨⟨dd.name, dd.stage, dd.x, A1_h0, c1_h0⟩, dd.bob, dd.sing, dd.step, dd.call, dd.tru, dd.rx, A3_h0, c3_h0⟩ A1_w0 A3_w0 c1_w0 c3_w0 _ (O_h0_a_17.out.rd encString_len) (O_w0_a_17.out.rd encString_len) (O_h0_r_17.out.rd Rgr_enc_len) (O_w0_r_17.out.rd Rgr_enc_len) (by simp only; omega) (by simp only; omega)).mono ?_
  rintro e w18 ⟨rfl, hb⟩
  clear s_h0_0 s_h0_1 s_h0_2 s_h0_3 s_h0_4 s_h0_5 s_h0_6 s_h0_7 s_h0_8 s_w0_0 s_w0_1 s_w0_2 s_w0_3 s_w0_4 s_w0_5 s_w0_6 s_w0_7 s_w0_8
  have C18 := Lib.hid hb
  clear hb
  have t18 := C18.out.size
  have Bw18 := Lib.hid (Bw17.out.trans (C18.out.mono Bw17.out.size))
  clear HB_w0_17
  have HB_g0_18 := Lib.hid (HB_g0_17.out.later C18.out)
  clear HB_g0_17
  clear HB_h0_17
  clear O_w0_a_17
  clear O_w0_r_17
  have O_g0_a_18 := Lib.hid (O_g0_a_17.out.later C18.out)
  clear O_g0_a_17
  have O_g0_r_18 := Lib.hid (O_g0_r_17.out.later C18.out)
  clear O_g0_r_17
  clear O_h0_a_17
  clear O_h0_r_17
  have s_g0_0 : w18.cell? ⟨w7.heap.size, 0, none⟩ = some (.string dd.name) := HB_g0_18.out.cell (i := 0) (by omega)
  have s_g0_1 : w18.cell? ⟨w7.heap.size, 1, none⟩ = some (.int .i64 dd.stage) := HB_g0_18.out.cell (i := 1) (by omega)
  have s_g0_2 : w18.cell? ⟨w7.heap.size, 2, none⟩ = some (.slice A1_g0 dd.x.length c1_g0) := HB_g0_18.out.cell (i := 2) (by omega)
  have s_g0_3 : w18.cell? ⟨w7.heap.size, 3, none⟩ = some (.string dd.bob) := HB_g0_18.out.cell (i := 3) (by omega)
  have s_g0_4 : w18.cell? ⟨w7.heap.size, 4, none⟩ = some (.string dd.sing) := HB_g0_18.out.cell (i := 4) (by omega)
  have s_g0_5 : w18.cell? ⟨w7.heap.size, 5, none⟩ = some (.int .i64 dd.step) := HB_g0_18.out.cell (i := 5) (by omega)
  have s_g0_6 : w18.cell? ⟨w7.heap.size, 6, none⟩ = some (.string dd.call) := HB_g0_18.out.cell (i := 6) (by omega)
  have s_g0_7 : w18.cell? ⟨w7.heap.size, 7, none⟩ = some (.string dd.tru) := HB_g0_18.out.cell (i := 7) (by omega)
  have s_g0_8 : w18.cell? ⟨w7.heap.size, 8, none⟩ = some (.slice A3_g0 dd.rx.length c3_g0) := HB_g0_18.out.cell (i := 8) (by omega)
  go_wp2_with fail
  refine (heldBand_any dd.name dd.stage A1_g0 dd.x.length c1_g0 dd.bob dd.sing dd.step dd.call dd.tru A3_g0 dd.rx.length c3_g0 1 _ (O_g0_a_18.out.rd encString_len) (O_g0_r_18.out.rd Rgr_enc_len) (by omega) (by omega) (by omega) (by omega)).mono ?_
  rintro e w19 ⟨he, hb⟩
  clear s_g0_0 s_g0_1 s_g0_2 s_g0_3 s_g0_4 s_g0_5 s_g0_6 s_g0_7 s_g0_8
  have he2 : e = .returned (.int .i64 (q13 : Int)) := by rw [Hq13.out]; exact he
  subst he2
  clear he
  have C19 := Lib.hid hb
  clear hb
  have t19 := C19.out.size
  have Bw19 := Lib.hid (Bw18.out.trans (C19.out.mono Bw18.out.size))
  clear HB_g0_18
  clear O_g0_a_18
  clear O_g0_r_18
  go_wp2_with fail
  go_ret
  exact ⟨rfl, Bw19.out⟩

namespace fnExactStepBand
open Go.ChangeShapes Go.WideShapes Go.ChangeAt Go.RowKit Go.Deep
open Go.ChangeMaps (open_string shut_string)
theorem own : ownKnob Try.prog.godebug = none := by kernel_rfl
theorem laid : laidOutB Try.prog = true := by kernel_rfl
theorem reads : Try.f12.params.toList.all (fun t => Try.prog.readableRec t && decide (t < Try.prog.types.size)) = true := by kernel_rfl
set_option maxRecDepth 100000 in
theorem lifted (os : Os) (started : os.Started) (H : Type) (enc : TypeId × Value → H) :
    ReturnsInHanded {} Try.checked os 12 .any (Rows.fnExactStepBandSpec.pre6 enc Try.prog Try.f12 Rows.fnExactStepBandRow.domain false) (Rows.fnExactStepBandSpec.post enc Try.prog Try.f12 false true false false) := by
  refine returnsInHanded_of_change (C := Try.checked) own started (by kernel_rfl) Try.func12
    (ChangeSpec.witness6 (enc := enc) (C := Try.checked) false ⟨#[], #[.agg #[.string ByteArray.empty, .int .i64 0, .slice none 0 0, .string ByteArray.empty, .string ByteArray.empty, .int .i64 0, .string ByteArray.empty, .string ByteArray.empty, .slice none 0 0]], []⟩ 8 (by kernel_rfl) (by kernel_rfl) (by kernel_rfl) (by kernel_rfl)) ?_
  intro W base args ds gs before hval0 hW hcnd _
  have hval : ∀ (j : Nat) t v, Try.f12.params[j]? = some t → args[j]? = some v → Value.okWide Try.prog W .any base t v := hval0
  have hW' := hW
  obtain ⟨p, q, hA0, hV, rfl, hfz, hnd⟩ := hW
  have hA : DataW.TrodAll enc Try.prog W 0 (fun _ => true) true Try.f12.params.toList args.toList ds p := hA0
  rw [Try.params12] at hA hval
  obtain ⟨rfl, rfl⟩ := trodVars_none hV
  have hlt : ∀ x ∈ p, x.block < W.heap.size := fun x hx => by simpa using hW'.lt x (List.mem_append.2 (.inl hx))
  clear hA0 hval0
  obtain ⟨v0, vs0, d0, ds0, p0, q0, hargs, rfl, rfl, h0, r0⟩ := trodAll_cons hA
  obtain ⟨rfl, rfl, rfl⟩ := trodAll_nil r0
  obtain rfl : args = #[v0] := by cases args; simp_all
  clear hargs
  obtain ⟨b0, rfl, hfit0, hrd0, hrr0, _⟩ := open_struct Try.underlying100 Bnd.enc _ Band_el (hval 0 100 v0 rfl rfl) h0
  refine (stepBandLaw W b0 hrd0 hrr0 hfit0).mono fun e W' ⟨he, hg⟩ => ?_
  subst he
  exact ⟨_, rfl, law_post laid reads rfl Try.underlying4 rfl rfl hW' hg⟩
theorem over : Rows.fnExactStepBandRow.holds Try.pinned (OpenSpec.ofChange Rows.fnExactStepBandSpec) :=
  OpenClaim.holds_of_wide 12 Try.f12 rfl rfl rfl rfl rfl rfl rfl ⟨rfl, rfl, rfl, rfl, rfl⟩ rfl rfl rfl rfl rfl (by kernel_rfl) Try.func12 facts
    (of_decide_eq_true (by kernel_rfl)) (by unfold Func.isWrapper; first | (rw [if_pos (by decide +kernel)]; kernel_rfl) | (rw [if_neg (by decide +kernel)]; exact ⟨rfl, rfl⟩))
    (fun os started H enc _ => lifted os started H enc)
theorem proved : Rows.FnExactStepBandSaid := over
end fnExactStepBand
end Go.Proofs.Ytebmlcollanfhaa
