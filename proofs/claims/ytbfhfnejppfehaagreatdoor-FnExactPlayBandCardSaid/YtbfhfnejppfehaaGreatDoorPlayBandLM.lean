import Derived.Test.YtbfhfnejppfehaaGreatDoorMPlayBandL29
import Derived.Test.YtbfhfnejppfehaaGreatDoorMPlayBandL30
import Derived.Test.YtbfhfnejppfehaaGreatDoorMPlayBandL01
import Derived.Test.YtbfhfnejppfehaaGreatDoorMPlayBandL31
/-
  PlayBand of the program returns what the reference's returns, for all arguments; the tied card.
-/
namespace Go.Proofs.YtbfhfnejppfehaaGreatDoor
open Go.RowKit Go.ChangeShapes Go.WideShapes Go.Deep
set_option linter.unusedVariables false
set_option linter.unusedSimpArgs false
set_option maxRecDepth 100000

set_option maxHeartbeats 8000000 in
theorem playBandLaw (w : World) (b : Bnd) (hb : RdL w w.heap.size b.m.A 1 encString b.m.x) (hrb : RdL w w.heap.size b.RA 2 Rgr.enc b.rx) (fb : b.Fits) (l : List Act_) (Al : Option Addr) (cl : Nat) (hrl : RdL w w.heap.size Al 4 Act_.enc l) (hll : l.length ≤ 9223372036854775807) (hsl : ∀ x ∈ l, RingAct_small 9223372036854775807 x) (htab : Tab w) :
    Calls Tryz.prog 5 #[.agg #[.string b.m.name, .int .i64 b.m.stage, .slice b.m.A b.m.x.length b.m.c, .string b.bob, .string b.sing, .int .i64 b.step, .string b.call, .string b.tru, .slice b.RA b.rx.length b.rc], .slice Al l.length cl] w fun e w' => e = .returned (.bool true) ∧ Below w.heap.size w w' := by
  have HT := Lib.hid htab
  clear htab
  have Hb := Lib.hid hb
  have Hrb := Lib.hid hrb
  have Fb := Lib.hid fb
  clear hb hrb fb
  have Hrl := Lib.hid hrl
  have Hsl := Lib.hid hsl
  clear hrl hsl
  have hbW0 : Below w.heap.size w (w.alloc (.cells #[.string b.m.name, .int .i64 b.m.stage, .slice b.m.A b.m.x.length b.m.c, .string b.bob, .string b.sing, .int .i64 b.step, .string b.call, .string b.tru, .slice b.RA b.rx.length b.rc] 72)) := by repeat (first | exact Below.refl _ _ | (refine Below.alloc ?_ (by simp <;> omega) _))
  go_enter Tryz.func5, Tryz.ntmps5
  go_wp2_with fail
  have hW : ∃ W : World, Hid ((w.alloc (.cells #[.string b.m.name, .int .i64 b.m.stage, .slice b.m.A b.m.x.length b.m.c, .string b.bob, .string b.sing, .int .i64 b.step, .string b.call, .string b.tru, .slice b.RA b.rx.length b.rc] 72)) = W) ∧ Hid (Below w.heap.size w W) ∧ w.heap.size + 1 ≤ W.heap.size ∧ Hid (Cells W (w.heap.size) 9 (fun i => (#[Value.string b.m.name, .int .i64 b.m.stage, .slice b.m.A b.m.x.length b.m.c, .string b.bob, .string b.sing, .int .i64 b.step, .string b.call, .string b.tru, .slice b.RA b.rx.length b.rc] : Array Value).getD i undef)) := by
    refine ⟨_, Lib.hid rfl, Lib.hid hbW0, by simp, Lib.hid ?_⟩
    · exact (Cells.newD _ #[.string b.m.name, .int .i64 b.m.stage, .slice b.m.A b.m.x.length b.m.c, .string b.bob, .string b.sing, .int .i64 b.step, .string b.call, .string b.tru, .slice b.RA b.rx.length b.rc] _)
  obtain ⟨w0, hWe, Bw0, t0, HB_aB_0⟩ := hW
  rw [hWe.out]
  clear hWe hbW0
  have s_aB_0 : w0.cell? ⟨w.heap.size, 0, none⟩ = some (.string b.m.name) := HB_aB_0.out.cell (i := 0) (by omega)
  have s_aB_1 : w0.cell? ⟨w.heap.size, 1, none⟩ = some (.int .i64 b.m.stage) := HB_aB_0.out.cell (i := 1) (by omega)
  have s_aB_2 : w0.cell? ⟨w.heap.size, 2, none⟩ = some (.slice b.m.A b.m.x.length b.m.c) := HB_aB_0.out.cell (i := 2) (by omega)
  have s_aB_3 : w0.cell? ⟨w.heap.size, 3, none⟩ = some (.string b.bob) := HB_aB_0.out.cell (i := 3) (by omega)
  have s_aB_4 : w0.cell? ⟨w.heap.size, 4, none⟩ = some (.string b.sing) := HB_aB_0.out.cell (i := 4) (by omega)
  have s_aB_5 : w0.cell? ⟨w.heap.size, 5, none⟩ = some (.int .i64 b.step) := HB_aB_0.out.cell (i := 5) (by omega)
  have s_aB_6 : w0.cell? ⟨w.heap.size, 6, none⟩ = some (.string b.call) := HB_aB_0.out.cell (i := 6) (by omega)
  have s_aB_7 : w0.cell? ⟨w.heap.size, 7, none⟩ = some (.string b.tru) := HB_aB_0.out.cell (i := 7) (by omega)
  have s_aB_8 : w0.cell? ⟨w.heap.size, 8, none⟩ = some (.slice b.RA b.rx.length b.rc) := HB_aB_0.out.cell (i := 8) (by omega)
  go_wp2_with fail
  refine (szBand_any b (1048576 : Int) _ ((Hb.out.below Bw0.out (Nat.le_refl _)).more Bw0.out.size) Fb.out (by omega) (by omega)).mono ?_
  rintro e w1 ⟨r1, rfl, hz, hb⟩
  clear s_aB_0 s_aB_1 s_aB_2 s_aB_3 s_aB_4 s_aB_5 s_aB_6 s_aB_7 s_aB_8
  have C1 := Lib.hid hb
  clear hb
  have t1 := C1.out.size
  have Bw1 := Lib.hid (Bw0.out.trans (C1.out.mono Bw0.out.size))
  have HB_aB_1 := Lib.hid (HB_aB_0.out.later C1.out)
  clear HB_aB_0
  have Z1 := Lib.hid hz
  clear hz
  by_cases n1 : r1 < 0
  · go_wp2_with fail
    go_ret
    exact ⟨rfl, Bw1.out⟩
  have z1 := Z1.out.resolve_left (by omega)
  obtain ⟨ya1, yb1, m1, m2, m3, m4, m5, m6, m7, m8⟩ := z1
  have Hmb : Hid (∀ x ∈ b.m.x, String_small 1048576 x) := Lib.hid (fun x hx => by have := m3 x hx; simp only [String_small] at this ⊢; omega)
  clear m3
  have yl1 : r1 ≤ 1048576 := by omega
  go_wp2_with fail
  refine (szRingActS_any l Al cl r1 _ ((Hrl.out.below Bw1.out (Nat.le_refl _)).more Bw1.out.size) (by omega) (by omega) (by omega) Hsl.out).mono ?_
  rintro e w2 ⟨r2, rfl, hz, hb⟩
  have C2 := Lib.hid hb
  clear hb
  have t2 := C2.out.size
  have Bw2 := Lib.hid (Bw1.out.trans (C2.out.mono Bw1.out.size))
  have HB_aB_2 := Lib.hid (HB_aB_1.out.later C2.out)
  clear HB_aB_1
  have Z2 := Lib.hid hz
  clear hz
  by_cases n2 : r2 < 0
  · go_wp2_with fail
    go_ret
    exact ⟨rfl, Bw2.out⟩
  have z2 := Z2.out.resolve_left (by omega)
  obtain ⟨ya2, yb2', yl2, hz'⟩ := z2
  have hll' : l.length ≤ 1048576 := by omega
  have yb2 : r2 ≤ 1048576 := by omega
  have Hml : Hid (∀ x ∈ l, RingAct_small 1048576 x) := Lib.hid (fun x hx => by have := hz' x hx; simp only [RingAct_small] at this ⊢; omega)
  clear hz'
  obtain ⟨hsm1, hsm2, hsm3⟩ := playBD_small (b := b) (l := l) (by omega) (by omega) (by omega)
  obtain ⟨D, hD⟩ : ∃ D, Hid (playBD b l = D) := ⟨_, Lib.hid rfl⟩
  obtain ⟨dd, rr, ok⟩ := D
  rw [hD.out] at hsm1 hsm2 hsm3
  simp only at hsm1 hsm2 hsm3
  skip
  have s_aB_0 : w2.cell? ⟨w.heap.size, 0, none⟩ = some (.string b.m.name) := HB_aB_2.out.cell (i := 0) (by omega)
  have s_aB_1 : w2.cell? ⟨w.heap.size, 1, none⟩ = some (.int .i64 b.m.stage) := HB_aB_2.out.cell (i := 1) (by omega)
  have s_aB_2 : w2.cell? ⟨w.heap.size, 2, none⟩ = some (.slice b.m.A b.m.x.length b.m.c) := HB_aB_2.out.cell (i := 2) (by omega)
  have s_aB_3 : w2.cell? ⟨w.heap.size, 3, none⟩ = some (.string b.bob) := HB_aB_2.out.cell (i := 3) (by omega)
  have s_aB_4 : w2.cell? ⟨w.heap.size, 4, none⟩ = some (.string b.sing) := HB_aB_2.out.cell (i := 4) (by omega)
  have s_aB_5 : w2.cell? ⟨w.heap.size, 5, none⟩ = some (.int .i64 b.step) := HB_aB_2.out.cell (i := 5) (by omega)
  have s_aB_6 : w2.cell? ⟨w.heap.size, 6, none⟩ = some (.string b.call) := HB_aB_2.out.cell (i := 6) (by omega)
  have s_aB_7 : w2.cell? ⟨w.heap.size, 7, none⟩ = some (.string b.tru) := HB_aB_2.out.cell (i := 7) (by omega)
  have s_aB_8 : w2.cell? ⟨w.heap.size, 8, none⟩ = some (.slice b.RA b.rx.length b.rc) := HB_aB_2.out.cell (i := 8) (by omega)
  go_wp2_with fail
  refine (toBand_any b _ ((Hb.out.below Bw2.out (Nat.le_refl _)).more Bw2.out.size) ((Hrb.out.below Bw2.out (Nat.le_refl _)).more Bw2.out.size) (by omega) (by omega)).mono ?_
  rintro e w3 ⟨A_w00, R_w00, rfl, ho, ho3, hb⟩
  clear s_aB_0 s_aB_1 s_aB_2 s_aB_3 s_aB_4 s_aB_5 s_aB_6 s_aB_7 s_aB_8
  have C3 := Lib.hid hb
  clear hb
  have t3 := C3.out.size
  have Bw3 := Lib.hid (Bw2.out.trans (C3.out.mono Bw2.out.size))
  have HB_aB_3 := Lib.hid (HB_aB_2.out.later C3.out)
  clear HB_aB_2
  have O_t_w00_a_3 := Lib.hid ho
  have O_t_w00_r_3 := Lib.hid ho3
  clear ho ho3
  go_wp2_with fail
  refine (toRingActS_any l Al cl _ ((Hrl.out.below Bw3.out (Nat.le_refl _)).more Bw3.out.size) (by omega)).mono ?_
  rintro e w4 ⟨A_w01, rfl, ho, hb⟩
  have C4 := Lib.hid hb
  clear hb
  have t4 := C4.out.size
  have Bw4 := Lib.hid (Bw3.out.trans (C4.out.mono Bw3.out.size))
  have HB_aB_4 := Lib.hid (HB_aB_3.out.later C4.out)
  clear HB_aB_3
  have O_t_w00_a_4 := Lib.hid (O_t_w00_a_3.out.later C4.out)
  clear O_t_w00_a_3
  have O_t_w00_r_4 := Lib.hid (O_t_w00_r_3.out.later C4.out)
  clear O_t_w00_r_3
  have O_t_w01_4 := Lib.hid ho
  clear ho
  go_wp2_with fail
  refine (playB_of hD.out rfl (sPlayBand_any ⟨⟨b.m.name, b.m.stage, b.m.x, A_w00, b.m.x.length⟩, b.bob, b.sing, b.step, b.call, b.tru, b.rx, R_w00, b.rx.length⟩ l A_w01 l.length _ ⟨(O_t_w00_a_4.out.rd encString_len), (O_t_w00_r_4.out.rd Rgr_enc_len), by simp only; omega, by simp only; omega, Hmb.out, by simp only; omega, by simp only; omega, by simp only; omega, by simp only; omega, by simp only; omega⟩ (O_t_w01_4.out.rd Act__enc_len) (by omega) (HT.out.later Bw4.out))).mono ?_
  rintro e w5 ⟨u9, rfl, hbd, hb⟩
  obtain ⟨v2, AR_w0, cR_w0, gw_w0, lo_w0, hi_w0, rfl, hj1_w0, hj2_w0, hj3_w0, hj4_w0, hj5_w0, hj6_w0, ⟨A1_w0, c1_w0, A3_w0, c3_w0, gs_w0, rfl, hg1_w0, hg2_w0, ho1, ho3⟩, hoR⟩ := hbd
  clear O_t_w00_a_4
  clear O_t_w00_r_4
  clear O_t_w01_4
  have C5 := Lib.hid hb
  clear hb
  have t5 := C5.out.size
  have Bw5 := Lib.hid (Bw4.out.trans (C5.out.mono Bw4.out.size))
  have HB_aB_5 := Lib.hid (HB_aB_4.out.later C5.out)
  clear HB_aB_4
  have O_w0_a_5 := Lib.hid ho1
  have O_w0_r_5 := Lib.hid ho3
  have O_w1_5 := Lib.hid hoR
  clear ho1 ho3 hoR
  go_upto_region 9 with fail
  have hWx : ∃ W : World, Hid ((w5.alloc (.cells #[.string dd.name, .int .i64 dd.stage, .slice A1_w0 dd.x.length c1_w0, .string dd.bob, .string dd.sing, .int .i64 dd.step, .string dd.call, .string dd.tru, .slice A3_w0 dd.rx.length c3_w0] 36)) = W) ∧ Hid (Below w5.heap.size w5 W) ∧ Hid (Cells W w5.heap.size 9 (fun i => (#[Value.string dd.name, .int .i64 dd.stage, .slice A1_w0 dd.x.length c1_w0, .string dd.bob, .string dd.sing, .int .i64 dd.step, .string dd.call, .string dd.tru, .slice A3_w0 dd.rx.length c3_w0] : Array Value).getD i undef)) := ⟨_, Lib.hid rfl, Lib.hid ((Below.refl _ _).alloc (Nat.le_refl _) _), Lib.hid (Cells.newD _ #[.string dd.name, .int .i64 dd.stage, .slice A1_w0 dd.x.length c1_w0, .string dd.bob, .string dd.sing, .int .i64 dd.step, .string dd.call, .string dd.tru, .slice A3_w0 dd.rx.length c3_w0] _)⟩
  obtain ⟨w6, hWe, hb', hbx⟩ := hWx
  rw [hWe.out]
  clear hWe
  have hb := hb'.out
  clear hb'
  have txw0 : w5.heap.size + 1 ≤ w6.heap.size := hbx.out.lt
  have C6 := Lib.hid hb
  clear hb
  have t6 := C6.out.size
  have Bw6 := Lib.hid (Bw5.out.trans (C6.out.mono Bw5.out.size))
  have HB_aB_6 := Lib.hid (HB_aB_5.out.later C6.out)
  clear HB_aB_5
  have O_w0_a_6 := Lib.hid (O_w0_a_5.out.later C6.out)
  clear O_w0_a_5
  have O_w0_r_6 := Lib.hid (O_w0_r_5.out.later C6.out)
  clear O_w0_r_5
  have O_w1_6 := Lib.hid (O_w1_5.out.later C6.out)
  clear O_w1_5
  have HB_w0_6 := hbx
  clear hbx
  have s_aB_0 : w6.cell? ⟨w.heap.size, 0, none⟩ = some (.string b.m.name) := HB_aB_6.out.cell (i := 0) (by omega)
  have s_aB_1 : w6.cell? ⟨w.heap.size, 1, none⟩ = some (.int .i64 b.m.stage) := HB_aB_6.out.cell (i := 1) (by omega)
  have s_aB_2 : w6.cell? ⟨w.heap.size, 2, none⟩ = some (.slice b.m.A b.m.x.length b.m.c) := HB_aB_6.out.cell (i := 2) (by omega)
  have s_aB_3 : w6.cell? ⟨w.heap.size, 3, none⟩ = some (.string b.bob) := HB_aB_6.out.cell (i := 3) (by omega)
  have s_aB_4 : w6.cell? ⟨w.heap.size, 4, none⟩ = some (.string b.sing) := HB_aB_6.out.cell (i := 4) (by omega)
  have s_aB_5 : w6.cell? ⟨w.heap.size, 5, none⟩ = some (.int .i64 b.step) := HB_aB_6.out.cell (i := 5) (by omega)
  have s_aB_6 : w6.cell? ⟨w.heap.size, 6, none⟩ = some (.string b.call) := HB_aB_6.out.cell (i := 6) (by omega)
  have s_aB_7 : w6.cell? ⟨w.heap.size, 7, none⟩ = some (.string b.tru) := HB_aB_6.out.cell (i := 7) (by omega)
  have s_aB_8 : w6.cell? ⟨w.heap.size, 8, none⟩ = some (.slice b.RA b.rx.length b.rc) := HB_aB_6.out.cell (i := 8) (by omega)
  go_wp2_with fail
  refine (toBandS_any b _ ((Hb.out.below Bw6.out (Nat.le_refl _)).more Bw6.out.size) ((Hrb.out.below Bw6.out (Nat.le_refl _)).more Bw6.out.size) (by omega) (by omega)).mono ?_
  rintro e w7 ⟨Ax0, Rx0, gsx0, rfl, hg1x0, hg2x0, ho, ho3, hb⟩
  clear s_aB_0 s_aB_1 s_aB_2 s_aB_3 s_aB_4 s_aB_5 s_aB_6 s_aB_7 s_aB_8
  have C7 := Lib.hid hb
  clear hb
  have t7 := C7.out.size
  have Bw7 := Lib.hid (Bw6.out.trans (C7.out.mono Bw6.out.size))
  have HB_aB_7 := Lib.hid (HB_aB_6.out.later C7.out)
  clear HB_aB_6
  have HB_w0_7 := Lib.hid (HB_w0_6.out.later C7.out)
  clear HB_w0_6
  have O_w0_a_7 := Lib.hid (O_w0_a_6.out.later C7.out)
  clear O_w0_a_6
  have O_w0_r_7 := Lib.hid (O_w0_r_6.out.later C7.out)
  clear O_w0_r_6
  have O_w1_7 := Lib.hid (O_w1_6.out.later C7.out)
  clear O_w1_6
  have O_x0_a_7 := Lib.hid ho
  have O_x0_r_7 := Lib.hid ho3
  clear ho ho3
  go_upto_region 10 with fail
  have hWx : ∃ W : World, Hid ((w7.alloc (.cells #[.string b.m.name, .int .i64 b.m.stage, .slice Ax0 b.m.x.length b.m.x.length, .string b.bob, .string b.sing, .int .i64 b.step, .string b.call, .string b.tru, .slice Rx0 b.rx.length b.rx.length] 36)) = W) ∧ Hid (Below w7.heap.size w7 W) ∧ Hid (Cells W w7.heap.size 9 (fun i => (#[Value.string b.m.name, .int .i64 b.m.stage, .slice Ax0 b.m.x.length b.m.x.length, .string b.bob, .string b.sing, .int .i64 b.step, .string b.call, .string b.tru, .slice Rx0 b.rx.length b.rx.length] : Array Value).getD i undef)) := ⟨_, Lib.hid rfl, Lib.hid ((Below.refl _ _).alloc (Nat.le_refl _) _), Lib.hid (Cells.newD _ #[.string b.m.name, .int .i64 b.m.stage, .slice Ax0 b.m.x.length b.m.x.length, .string b.bob, .string b.sing, .int .i64 b.step, .string b.call, .string b.tru, .slice Rx0 b.rx.length b.rx.length] _)⟩
  obtain ⟨w8, hWe, hb', hbx⟩ := hWx
  rw [hWe.out]
  clear hWe
  have hb := hb'.out
  clear hb'
  have txx0 : w7.heap.size + 1 ≤ w8.heap.size := hbx.out.lt
  have C8 := Lib.hid hb
  clear hb
  have t8 := C8.out.size
  have Bw8 := Lib.hid (Bw7.out.trans (C8.out.mono Bw7.out.size))
  have HB_aB_8 := Lib.hid (HB_aB_7.out.later C8.out)
  clear HB_aB_7
  have HB_w0_8 := Lib.hid (HB_w0_7.out.later C8.out)
  clear HB_w0_7
  have O_w0_a_8 := Lib.hid (O_w0_a_7.out.later C8.out)
  clear O_w0_a_7
  have O_w0_r_8 := Lib.hid (O_w0_r_7.out.later C8.out)
  clear O_w0_r_7
  have O_w1_8 := Lib.hid (O_w1_7.out.later C8.out)
  clear O_w1_7
  have O_x0_a_8 := Lib.hid (O_x0_a_7.out.later C8.out)
  clear O_x0_a_7
  have O_x0_r_8 := Lib.hid (O_x0_r_7.out.later C8.out)
  clear O_x0_r_7
  have HB_x0_8 := hbx
  clear hbx
  go_wp2_with fail
  refine (toRingActS_any l Al cl _ ((Hrl.out.below Bw8.out (Nat.le_refl _)).more Bw8.out.size) (by omega)).mono ?_
  rintro e w9 ⟨Ax1, rfl, ho, hb⟩
  have C9 := Lib.hid hb
  clear hb
  have t9 := C9.out.size
  have Bw9 := Lib.hid (Bw8.out.trans (C9.out.mono Bw8.out.size))
  have HB_aB_9 := Lib.hid (HB_aB_8.out.later C9.out)
  clear HB_aB_8
  have HB_w0_9 := Lib.hid (HB_w0_8.out.later C9.out)
  clear HB_w0_8
  have HB_x0_9 := Lib.hid (HB_x0_8.out.later C9.out)
  clear HB_x0_8
  have O_w0_a_9 := Lib.hid (O_w0_a_8.out.later C9.out)
  clear O_w0_a_8
  have O_w0_r_9 := Lib.hid (O_w0_r_8.out.later C9.out)
  clear O_w0_r_8
  have O_w1_9 := Lib.hid (O_w1_8.out.later C9.out)
  clear O_w1_8
  have O_x0_a_9 := Lib.hid (O_x0_a_8.out.later C9.out)
  clear O_x0_a_8
  have O_x0_r_9 := Lib.hid (O_x0_r_8.out.later C9.out)
  clear O_x0_r_8
  have O_x1_9 := Lib.hid ho
  clear ho
  have s_x0_0 : w9.cell? ⟨w7.heap.size, 0, none⟩ = some (.string b.m.name) := HB_x0_9.out.cell (i := 0) (by omega)
  have s_x0_1 : w9.cell? ⟨w7.heap.size, 1, none⟩ = some (.int .i64 b.m.stage) := HB_x0_9.out.cell (i := 1) (by omega)
  have s_x0_2 : w9.cell? ⟨w7.heap.size, 2, none⟩ = some (.slice Ax0 b.m.x.length b.m.x.length) := HB_x0_9.out.cell (i := 2) (by omega)
  have s_x0_3 : w9.cell? ⟨w7.heap.size, 3, none⟩ = some (.string b.bob) := HB_x0_9.out.cell (i := 3) (by omega)
  have s_x0_4 : w9.cell? ⟨w7.heap.size, 4, none⟩ = some (.string b.sing) := HB_x0_9.out.cell (i := 4) (by omega)
  have s_x0_5 : w9.cell? ⟨w7.heap.size, 5, none⟩ = some (.int .i64 b.step) := HB_x0_9.out.cell (i := 5) (by omega)
  have s_x0_6 : w9.cell? ⟨w7.heap.size, 6, none⟩ = some (.string b.call) := HB_x0_9.out.cell (i := 6) (by omega)
  have s_x0_7 : w9.cell? ⟨w7.heap.size, 7, none⟩ = some (.string b.tru) := HB_x0_9.out.cell (i := 7) (by omega)
  have s_x0_8 : w9.cell? ⟨w7.heap.size, 8, none⟩ = some (.slice Rx0 b.rx.length b.rx.length) := HB_x0_9.out.cell (i := 8) (by omega)
  go_wp2_with fail
  refine (playB_of hD.out rfl (iPlayBand_any ⟨⟨b.m.name, b.m.stage, b.m.x, Ax0, b.m.x.length⟩, b.bob, b.sing, b.step, b.call, b.tru, b.rx, Rx0, b.rx.length⟩ l Ax1 l.length _ ⟨(O_x0_a_9.out.rd encString_len), (O_x0_r_9.out.rd Rgr_enc_len), by simp only; omega, by simp only; omega, Hmb.out, by simp only; omega, by simp only; omega, by simp only; omega, by simp only; omega, by simp only; omega⟩ (O_x1_9.out.rd Act__enc_len) (by omega) (HT.out.later Bw9.out))).mono ?_
  rintro e w10 ⟨u9, rfl, hbd, hb⟩
  clear s_x0_0 s_x0_1 s_x0_2 s_x0_3 s_x0_4 s_x0_5 s_x0_6 s_x0_7 s_x0_8
  obtain ⟨v2, AR_g0, cR_g0, gw_g0, lo_g0, hi_g0, rfl, hj1_g0, hj2_g0, hj3_g0, hj4_g0, hj5_g0, hj6_g0, ⟨A1_g0, c1_g0, A3_g0, c3_g0, gs_g0, rfl, hg1_g0, hg2_g0, ho1, ho3⟩, hoR⟩ := hbd
  have C10 := Lib.hid hb
  clear hb
  have t10 := C10.out.size
  have Bw10 := Lib.hid (Bw9.out.trans (C10.out.mono Bw9.out.size))
  have HB_aB_10 := Lib.hid (HB_aB_9.out.later C10.out)
  clear HB_aB_9
  have HB_w0_10 := Lib.hid (HB_w0_9.out.later C10.out)
  clear HB_w0_9
  have HB_x0_10 := Lib.hid (HB_x0_9.out.later C10.out)
  clear HB_x0_9
  have O_w0_a_10 := Lib.hid (O_w0_a_9.out.later C10.out)
  clear O_w0_a_9
  have O_w0_r_10 := Lib.hid (O_w0_r_9.out.later C10.out)
  clear O_w0_r_9
  have O_w1_10 := Lib.hid (O_w1_9.out.later C10.out)
  clear O_w1_9
  have O_x0_a_10 := Lib.hid (O_x0_a_9.out.later C10.out)
  clear O_x0_a_9
  have O_x0_r_10 := Lib.hid (O_x0_r_9.out.later C10.out)
  clear O_x0_r_9
  have O_x1_10 := Lib.hid (O_x1_9.out.later C10.out)
  clear O_x1_9
  have O_g0_a_10 := Lib.hid ho1
  have O_g0_r_10 := Lib.hid ho3
  have O_g1_10 := Lib.hid hoR
  clear ho1 ho3 hoR
  go_upto_region 12 with fail
  have hWx : ∃ W : World, Hid ((w10.alloc (.cells #[.string dd.name, .int .i64 dd.stage, .slice A1_g0 dd.x.length c1_g0, .string dd.bob, .string dd.sing, .int .i64 dd.step, .string dd.call, .string dd.tru, .slice A3_g0 dd.rx.length c3_g0] 36)) = W) ∧ Hid (Below w10.heap.size w10 W) ∧ Hid (Cells W w10.heap.size 9 (fun i => (#[Value.string dd.name, .int .i64 dd.stage, .slice A1_g0 dd.x.length c1_g0, .string dd.bob, .string dd.sing, .int .i64 dd.step, .string dd.call, .string dd.tru, .slice A3_g0 dd.rx.length c3_g0] : Array Value).getD i undef)) := ⟨_, Lib.hid rfl, Lib.hid ((Below.refl _ _).alloc (Nat.le_refl _) _), Lib.hid (Cells.newD _ #[.string dd.name, .int .i64 dd.stage, .slice A1_g0 dd.x.length c1_g0, .string dd.bob, .string dd.sing, .int .i64 dd.step, .string dd.call, .string dd.tru, .slice A3_g0 dd.rx.length c3_g0] _)⟩
  obtain ⟨w11, hWe, hb', hbx⟩ := hWx
  rw [hWe.out]
  clear hWe
  have hb := hb'.out
  clear hb'
  have txg0 : w10.heap.size + 1 ≤ w11.heap.size := hbx.out.lt
  have C11 := Lib.hid hb
  clear hb
  have t11 := C11.out.size
  have Bw11 := Lib.hid (Bw10.out.trans (C11.out.mono Bw10.out.size))
  have HB_aB_11 := Lib.hid (HB_aB_10.out.later C11.out)
  clear HB_aB_10
  have HB_w0_11 := Lib.hid (HB_w0_10.out.later C11.out)
  clear HB_w0_10
  have HB_x0_11 := Lib.hid (HB_x0_10.out.later C11.out)
  clear HB_x0_10
  have O_w0_a_11 := Lib.hid (O_w0_a_10.out.later C11.out)
  clear O_w0_a_10
  have O_w0_r_11 := Lib.hid (O_w0_r_10.out.later C11.out)
  clear O_w0_r_10
  have O_w1_11 := Lib.hid (O_w1_10.out.later C11.out)
  clear O_w1_10
  have O_x0_a_11 := Lib.hid (O_x0_a_10.out.later C11.out)
  clear O_x0_a_10
  have O_x0_r_11 := Lib.hid (O_x0_r_10.out.later C11.out)
  clear O_x0_r_10
  have O_x1_11 := Lib.hid (O_x1_10.out.later C11.out)
  clear O_x1_10
  have O_g0_a_11 := Lib.hid (O_g0_a_10.out.later C11.out)
  clear O_g0_a_10
  have O_g0_r_11 := Lib.hid (O_g0_r_10.out.later C11.out)
  clear O_g0_r_10
  have O_g1_11 := Lib.hid (O_g1_10.out.later C11.out)
  clear O_g1_10
  have HB_g0_11 := hbx
  clear hbx
  have s_g0_0 : w11.cell? ⟨w10.heap.size, 0, none⟩ = some (.string dd.name) := HB_g0_11.out.cell (i := 0) (by omega)
  have s_g0_1 : w11.cell? ⟨w10.heap.size, 1, none⟩ = some (.int .i64 dd.stage) := HB_g0_11.out.cell (i := 1) (by omega)
  have s_g0_2 : w11.cell? ⟨w10.heap.size, 2, none⟩ = some (.slice A1_g0 dd.x.length c1_g0) := HB_g0_11.out.cell (i := 2) (by omega)
  have s_g0_3 : w11.cell? ⟨w10.heap.size, 3, none⟩ = some (.string dd.bob) := HB_g0_11.out.cell (i := 3) (by omega)
  have s_g0_4 : w11.cell? ⟨w10.heap.size, 4, none⟩ = some (.string dd.sing) := HB_g0_11.out.cell (i := 4) (by omega)
  have s_g0_5 : w11.cell? ⟨w10.heap.size, 5, none⟩ = some (.int .i64 dd.step) := HB_g0_11.out.cell (i := 5) (by omega)
  have s_g0_6 : w11.cell? ⟨w10.heap.size, 6, none⟩ = some (.string dd.call) := HB_g0_11.out.cell (i := 6) (by omega)
  have s_g0_7 : w11.cell? ⟨w10.heap.size, 7, none⟩ = some (.string dd.tru) := HB_g0_11.out.cell (i := 7) (by omega)
  have s_g0_8 : w11.cell? ⟨w10.heap.size, 8, none⟩ = some (.slice A3_g0 dd.rx.length c3_g0) := HB_g0_11.out.cell (i := 8) (by omega)
  have s_w0_0 : w11.cell? ⟨w5.heap.size, 0, none⟩ = some (.string dd.name) := HB_w0_11.out.cell (i := 0) (by omega)
  have s_w0_1 : w11.cell? ⟨w5.heap.size, 1, none⟩ = some (.int .i64 dd.stage) := HB_w0_11.out.cell (i := 1) (by omega)
  have s_w0_2 : w11.cell? ⟨w5.heap.size, 2, none⟩ = some (.slice A1_w0 dd.x.length c1_w0) := HB_w0_11.out.cell (i := 2) (by omega)
  have s_w0_3 : w11.cell? ⟨w5.heap.size, 3, none⟩ = some (.string dd.bob) := HB_w0_11.out.cell (i := 3) (by omega)
  have s_w0_4 : w11.cell? ⟨w5.heap.size, 4, none⟩ = some (.string dd.sing) := HB_w0_11.out.cell (i := 4) (by omega)
  have s_w0_5 : w11.cell? ⟨w5.heap.size, 5, none⟩ = some (.int .i64 dd.step) := HB_w0_11.out.cell (i := 5) (by omega)
  have s_w0_6 : w11.cell? ⟨w5.heap.size, 6, none⟩ = some (.string dd.call) := HB_w0_11.out.cell (i := 6) (by omega)
  have s_w0_7 : w11.cell? ⟨w5.heap.size, 7, none⟩ = some (.string dd.tru) := HB_w0_11.out.cell (i := 7) (by omega)
  have s_w0_8 : w11.cell? ⟨w5.heap.size, 8, none⟩ = some (.slice A3_w0 dd.rx.length c3_w0) := HB_w0_11.out.cell (i := 8) (by omega)
  go_wp2_with fail
  refine (eqBand_t ⟨⟨dd.name, dd.stage, dd.x, A1_g0, c1_g0⟩, dd.bob, dd.sing, dd.step, dd.call, dd.tru, dd.rx, A3_g0, c3_g0⟩ A1_w0 A3_w0 c1_w0 c3_w0 _ (O_g0_a_11.out.rd encString_len) (O_w0_a_11.out.rd encString_len) (O_g0_r_11.out.rd Rgr_enc_len) (O_w0_r_11.out.rd Rgr_enc_len) (by simp only; omega) (by simp only; omega)).mono ?_
  rintro e w12 ⟨rfl, hb⟩
  clear s_g0_0 s_g0_1 s_g0_2 s_g0_3 s_g0_4 s_g0_5 s_g0_6 s_g0_7 s_g0_8 s_w0_0 s_w0_1 s_w0_2 s_w0_3 s_w0_4 s_w0_5 s_w0_6 s_w0_7 s_w0_8
  have C12 := Lib.hid hb
  clear hb
  have t12 := C12.out.size
  have Bw12 := Lib.hid (Bw11.out.trans (C12.out.mono Bw11.out.size))
  have HB_aB_12 := Lib.hid (HB_aB_11.out.later C12.out)
  clear HB_aB_11
  have HB_w0_12 := Lib.hid (HB_w0_11.out.later C12.out)
  clear HB_w0_11
  have HB_x0_12 := Lib.hid (HB_x0_11.out.later C12.out)
  clear HB_x0_11
  have HB_g0_12 := Lib.hid (HB_g0_11.out.later C12.out)
  clear HB_g0_11
  have O_w0_a_12 := Lib.hid (O_w0_a_11.out.later C12.out)
  clear O_w0_a_11
  have O_w0_r_12 := Lib.hid (O_w0_r_11.out.later C12.out)
  clear O_w0_r_11
  have O_w1_12 := Lib.hid (O_w1_11.out.later C12.out)
  clear O_w1_11
  have O_x0_a_12 := Lib.hid (O_x0_a_11.out.later C12.out)
  clear O_x0_a_11
  have O_x0_r_12 := Lib.hid (O_x0_r_11.out.later C12.out)
  clear O_x0_r_11
  have O_x1_12 := Lib.hid (O_x1_11.out.later C12.out)
  clear O_x1_11
  have O_g0_a_12 := Lib.hid (O_g0_a_11.out.later C12.out)
  clear O_g0_a_11
  have O_g0_r_12 := Lib.hid (O_g0_r_11.out.later C12.out)
  clear O_g0_r_11
  have O_g1_12 := Lib.hid (O_g1_11.out.later C12.out)
  clear O_g1_11
  go_wp2_with fail
  refine (eqStringS_t rr AR_g0 AR_w0 cR_g0 cR_w0 _ (O_g1_12.out.rd encString_len) (O_w1_12.out.rd encString_len) (by omega)).mono ?_
  rintro e w13 ⟨rfl, hb⟩
  have C13 := Lib.hid hb
  clear hb
  have t13 := C13.out.size
  have Bw13 := Lib.hid (Bw12.out.trans (C13.out.mono Bw12.out.size))
  have HB_aB_13 := Lib.hid (HB_aB_12.out.later C13.out)
  clear HB_aB_12
  have HB_w0_13 := Lib.hid (HB_w0_12.out.later C13.out)
  clear HB_w0_12
  have HB_x0_13 := Lib.hid (HB_x0_12.out.later C13.out)
  clear HB_x0_12
  have HB_g0_13 := Lib.hid (HB_g0_12.out.later C13.out)
  clear HB_g0_12
  have O_w0_a_13 := Lib.hid (O_w0_a_12.out.later C13.out)
  clear O_w0_a_12
  have O_w0_r_13 := Lib.hid (O_w0_r_12.out.later C13.out)
  clear O_w0_r_12
  have O_w1_13 := Lib.hid (O_w1_12.out.later C13.out)
  clear O_w1_12
  have O_x0_a_13 := Lib.hid (O_x0_a_12.out.later C13.out)
  clear O_x0_a_12
  have O_x0_r_13 := Lib.hid (O_x0_r_12.out.later C13.out)
  clear O_x0_r_12
  have O_x1_13 := Lib.hid (O_x1_12.out.later C13.out)
  clear O_x1_12
  have O_g0_a_13 := Lib.hid (O_g0_a_12.out.later C13.out)
  clear O_g0_a_12
  have O_g0_r_13 := Lib.hid (O_g0_r_12.out.later C13.out)
  clear O_g0_r_12
  have O_g1_13 := Lib.hid (O_g1_12.out.later C13.out)
  clear O_g1_12
  have s_x0_0 : w13.cell? ⟨w7.heap.size, 0, none⟩ = some (.string b.m.name) := HB_x0_13.out.cell (i := 0) (by omega)
  have s_x0_1 : w13.cell? ⟨w7.heap.size, 1, none⟩ = some (.int .i64 b.m.stage) := HB_x0_13.out.cell (i := 1) (by omega)
  have s_x0_2 : w13.cell? ⟨w7.heap.size, 2, none⟩ = some (.slice Ax0 b.m.x.length b.m.x.length) := HB_x0_13.out.cell (i := 2) (by omega)
  have s_x0_3 : w13.cell? ⟨w7.heap.size, 3, none⟩ = some (.string b.bob) := HB_x0_13.out.cell (i := 3) (by omega)
  have s_x0_4 : w13.cell? ⟨w7.heap.size, 4, none⟩ = some (.string b.sing) := HB_x0_13.out.cell (i := 4) (by omega)
  have s_x0_5 : w13.cell? ⟨w7.heap.size, 5, none⟩ = some (.int .i64 b.step) := HB_x0_13.out.cell (i := 5) (by omega)
  have s_x0_6 : w13.cell? ⟨w7.heap.size, 6, none⟩ = some (.string b.call) := HB_x0_13.out.cell (i := 6) (by omega)
  have s_x0_7 : w13.cell? ⟨w7.heap.size, 7, none⟩ = some (.string b.tru) := HB_x0_13.out.cell (i := 7) (by omega)
  have s_x0_8 : w13.cell? ⟨w7.heap.size, 8, none⟩ = some (.slice Rx0 b.rx.length b.rx.length) := HB_x0_13.out.cell (i := 8) (by omega)
  have s_aB_0 : w13.cell? ⟨w.heap.size, 0, none⟩ = some (.string b.m.name) := HB_aB_13.out.cell (i := 0) (by omega)
  have s_aB_1 : w13.cell? ⟨w.heap.size, 1, none⟩ = some (.int .i64 b.m.stage) := HB_aB_13.out.cell (i := 1) (by omega)
  have s_aB_2 : w13.cell? ⟨w.heap.size, 2, none⟩ = some (.slice b.m.A b.m.x.length b.m.c) := HB_aB_13.out.cell (i := 2) (by omega)
  have s_aB_3 : w13.cell? ⟨w.heap.size, 3, none⟩ = some (.string b.bob) := HB_aB_13.out.cell (i := 3) (by omega)
  have s_aB_4 : w13.cell? ⟨w.heap.size, 4, none⟩ = some (.string b.sing) := HB_aB_13.out.cell (i := 4) (by omega)
  have s_aB_5 : w13.cell? ⟨w.heap.size, 5, none⟩ = some (.int .i64 b.step) := HB_aB_13.out.cell (i := 5) (by omega)
  have s_aB_6 : w13.cell? ⟨w.heap.size, 6, none⟩ = some (.string b.call) := HB_aB_13.out.cell (i := 6) (by omega)
  have s_aB_7 : w13.cell? ⟨w.heap.size, 7, none⟩ = some (.string b.tru) := HB_aB_13.out.cell (i := 7) (by omega)
  have s_aB_8 : w13.cell? ⟨w.heap.size, 8, none⟩ = some (.slice b.RA b.rx.length b.rc) := HB_aB_13.out.cell (i := 8) (by omega)
  have l_x0_0 := Later.cell s_x0_0 (show w7.heap.size < w13.heap.size by omega)
  have l_x0_1 := Later.cell s_x0_1 (show w7.heap.size < w13.heap.size by omega)
  have l_x0_2 := Later.cell s_x0_2 (show w7.heap.size < w13.heap.size by omega)
  have l_x0_3 := Later.cell s_x0_3 (show w7.heap.size < w13.heap.size by omega)
  have l_x0_4 := Later.cell s_x0_4 (show w7.heap.size < w13.heap.size by omega)
  have l_x0_5 := Later.cell s_x0_5 (show w7.heap.size < w13.heap.size by omega)
  have l_x0_6 := Later.cell s_x0_6 (show w7.heap.size < w13.heap.size by omega)
  have l_x0_7 := Later.cell s_x0_7 (show w7.heap.size < w13.heap.size by omega)
  have l_x0_8 := Later.cell s_x0_8 (show w7.heap.size < w13.heap.size by omega)
  have l_aB_0 := Later.cell s_aB_0 (show w.heap.size < w13.heap.size by omega)
  have l_aB_1 := Later.cell s_aB_1 (show w.heap.size < w13.heap.size by omega)
  have l_aB_2 := Later.cell s_aB_2 (show w.heap.size < w13.heap.size by omega)
  have l_aB_3 := Later.cell s_aB_3 (show w.heap.size < w13.heap.size by omega)
  have l_aB_4 := Later.cell s_aB_4 (show w.heap.size < w13.heap.size by omega)
  have l_aB_5 := Later.cell s_aB_5 (show w.heap.size < w13.heap.size by omega)
  have l_aB_6 := Later.cell s_aB_6 (show w.heap.size < w13.heap.size by omega)
  have l_aB_7 := Later.cell s_aB_7 (show w.heap.size < w13.heap.size by omega)
  have l_aB_8 := Later.cell s_aB_8 (show w.heap.size < w13.heap.size by omega)
  clear s_x0_0 s_x0_1 s_x0_2 s_x0_3 s_x0_4 s_x0_5 s_x0_6 s_x0_7 s_x0_8 s_aB_0 s_aB_1 s_aB_2 s_aB_3 s_aB_4 s_aB_5 s_aB_6 s_aB_7 s_aB_8
  go_wp2_with fail
  refine wp_region_G (by kernel_rfl) [.q, .q, .s (fun _ u lo hi w' => ∃ A R, u = .agg #[.string b.m.name, .int .i64 b.m.stage, .slice A b.m.x.length b.m.x.length, .string b.bob, .string b.sing, .int .i64 b.step, .string b.call, .string b.tru, .slice R b.rx.length b.rx.length] ∧ OwnL w' lo hi A 1 encString b.m.x ∧ OwnL w' lo hi R 2 Rgr.enc b.rx), .s (fun _ u lo hi w' => u = .bool true), .q] [0, 0, 1, 1, 0] rfl 3 (by kernel_rfl) (inC w13) (w13).heap.size (inC.size w13) (inC.of (Below.refl _ _).drew) ?_
  (refine wpG_quiets 2 _ _ _ _ (by first | exact cls_none rfl | exact fun w h => h.1) (by intro j hj; rcases j with _ | _ | _ | _ | _ | _ | _ | _ | _ | _ | j <;> first | exact ⟨rfl, ⟨_, rfl, rfl⟩, rfl⟩ | (exfalso; omega)) ?_; simp only [List.take_succ_cons, List.take_zero, List.drop_succ_cons, List.drop_zero, Nat.zero_add, Nat.reduceAdd]; change wpQuiet _ _ (fun wq9 => ∃ x : Later w13, wq9 = x.W) _ _ _; (repeat (go_big_quiet_step (fail))); refine wpQuiet_nil ?_; try dsimp only)
  (refine wpG_call _ rfl rfl rfl rfl (fun u lo hi => loc_ex fun A => loc_ex fun R => loc_and (loc_pure _) (loc_and (loc_own (Nat.le_refl _) (Nat.le_refl _)) (loc_own (Nat.le_refl _) (Nat.le_refl _)))) 42 #[.agg #[.string b.m.name, .int .i64 b.m.stage, .slice b.m.A b.m.x.length b.m.c, .string b.bob, .string b.sing, .int .i64 b.step, .string b.call, .string b.tru, .slice b.RA b.rx.length b.rc]] (by intro w; go_simp) (by intro w1 hw1 hd; (refine (toBand_any b w1 ((Hb.out.below (Bw13.out.trans (hw1.below.mono Bw13.out.size)) (Nat.le_refl _)).more (Nat.le_trans Bw13.out.size hw1.below.size)) ((Hrb.out.below (Bw13.out.trans (hw1.below.mono Bw13.out.size)) (Nat.le_refl _)).more (Nat.le_trans Bw13.out.size hw1.below.size)) (by omega) (by omega)).mono ?_; rintro e w2 ⟨A, R, rfl, ho, ho3, hb⟩; exact ⟨_, rfl, hw1.step hb, eff_of_below hb, A, R, rfl, ho, ho3⟩)) ?_)
  (intro u_e8 lo_e8 hi_e8 hsat; obtain ⟨w1, hw1⟩ := hsat; have hr : ∃ A R, u_e8 = .agg #[.string b.m.name, .int .i64 b.m.stage, .slice A b.m.x.length b.m.x.length, .string b.bob, .string b.sing, .int .i64 b.step, .string b.call, .string b.tru, .slice R b.rx.length b.rx.length] ∧ OwnL w1 lo_e8 hi_e8 A 1 encString b.m.x ∧ OwnL w1 lo_e8 hi_e8 R 2 Rgr.enc b.rx := (hw1.rec rfl 2).2.2; obtain ⟨A_e8, R_e8, rfl, _⟩ := hr; clear hw1; simp only [Act.put, List.setIfInBounds_toArray, List.set_cons_zero, List.set_cons_succ, Nat.reduceAdd])
  (refine wpG_call _ rfl rfl rfl rfl (fun u lo hi => loc_pure _) 44 #[.agg #[.string b.m.name, .int .i64 b.m.stage, .slice Ax0 b.m.x.length b.m.x.length, .string b.bob, .string b.sing, .int .i64 b.step, .string b.call, .string b.tru, .slice Rx0 b.rx.length b.rx.length], .agg #[.string b.m.name, .int .i64 b.m.stage, .slice A_e8 b.m.x.length b.m.x.length, .string b.bob, .string b.sing, .int .i64 b.step, .string b.call, .string b.tru, .slice R_e8 b.rx.length b.rx.length]] (by intro w; go_simp) (by intro w1 hw1 hd; (have hdz : ∃ A R, (.agg #[.string b.m.name, .int .i64 b.m.stage, .slice A_e8 b.m.x.length b.m.x.length, .string b.bob, .string b.sing, .int .i64 b.step, .string b.call, .string b.tru, .slice R_e8 b.rx.length b.rx.length] : Value) = .agg #[.string b.m.name, .int .i64 b.m.stage, .slice A b.m.x.length b.m.x.length, .string b.bob, .string b.sing, .int .i64 b.step, .string b.call, .string b.tru, .slice R b.rx.length b.rx.length] ∧ OwnL w1 lo_e8 hi_e8 A 1 encString b.m.x ∧ OwnL w1 lo_e8 hi_e8 R 2 Rgr.enc b.rx := (hd 2 (gDep_mem (by kernel_rfl))).2; obtain ⟨Az, Rz, hez, hozA, hozR⟩ := hdz; obtain ⟨rfl, rfl⟩ : A_e8 = Az ∧ R_e8 = Rz := (by simpa using hez); refine (eqBand_t ⟨⟨b.m.name, b.m.stage, b.m.x, Ax0, b.m.x.length⟩, b.bob, b.sing, b.step, b.call, b.tru, b.rx, Rx0, b.rx.length⟩ A_e8 R_e8 b.m.x.length b.rx.length w1 ((O_x0_a_13.out.later hw1.below).rd encString_len) (hozA.rd encString_len) ((O_x0_r_13.out.later hw1.below).rd Rgr_enc_len) (hozR.rd Rgr_enc_len) (by simp only; omega) (by simp only; omega)).mono ?_; rintro e w2 ⟨rfl, hb⟩; exact ⟨_, rfl, hw1.step hb, eff_of_below hb, rfl⟩)) ?_)
  (intro ueq loeq hieq hsat; obtain ⟨w1, hw1⟩ := hsat; have hr : ueq = .bool true := (hw1.rec rfl 3).2.2; obtain rfl := hr; clear hw1; simp only [Act.put, List.setIfInBounds_toArray, List.set_cons_zero, List.set_cons_succ, Nat.reduceAdd])
  (refine wpG_quiets 1 _ _ _ _ (by first | exact cls_none rfl | exact fun w h => h.1) (by intro j hj; rcases j with _ | _ | _ | _ | _ | _ | _ | _ | _ | _ | j <;> first | exact ⟨rfl, ⟨_, rfl, rfl⟩, rfl⟩ | (exfalso; omega)) ?_; simp only [List.take_succ_cons, List.take_zero, List.drop_succ_cons, List.drop_zero, Nat.zero_add, Nat.reduceAdd]; change wpQuiet _ _ (fun wq9 => ∃ x : Later w13, wq9 = x.W) _ _ _; (repeat (go_big_quiet_step (fail))); refine wpQuiet_nil ?_; try dsimp only)
  intro w14 hh
  have hb := (hh.cls rfl).below
  clear hh l_x0_0 l_x0_1 l_x0_2 l_x0_3 l_x0_4 l_x0_5 l_x0_6 l_x0_7 l_x0_8 l_aB_0 l_aB_1 l_aB_2 l_aB_3 l_aB_4 l_aB_5 l_aB_6 l_aB_7 l_aB_8
  have C14 := Lib.hid hb
  clear hb
  have t14 := C14.out.size
  have Bw14 := Lib.hid (Bw13.out.trans (C14.out.mono Bw13.out.size))
  have HB_aB_14 := Lib.hid (HB_aB_13.out.later C14.out)
  clear HB_aB_13
  have HB_w0_14 := Lib.hid (HB_w0_13.out.later C14.out)
  clear HB_w0_13
  have HB_x0_14 := Lib.hid (HB_x0_13.out.later C14.out)
  clear HB_x0_13
  have HB_g0_14 := Lib.hid (HB_g0_13.out.later C14.out)
  clear HB_g0_13
  have O_w0_a_14 := Lib.hid (O_w0_a_13.out.later C14.out)
  clear O_w0_a_13
  have O_w0_r_14 := Lib.hid (O_w0_r_13.out.later C14.out)
  clear O_w0_r_13
  have O_w1_14 := Lib.hid (O_w1_13.out.later C14.out)
  clear O_w1_13
  have O_x0_a_14 := Lib.hid (O_x0_a_13.out.later C14.out)
  clear O_x0_a_13
  have O_x0_r_14 := Lib.hid (O_x0_r_13.out.later C14.out)
  clear O_x0_r_13
  have O_x1_14 := Lib.hid (O_x1_13.out.later C14.out)
  clear O_x1_13
  have O_g0_a_14 := Lib.hid (O_g0_a_13.out.later C14.out)
  clear O_g0_a_13
  have O_g0_r_14 := Lib.hid (O_g0_r_13.out.later C14.out)
  clear O_g0_r_13
  have O_g1_14 := Lib.hid (O_g1_13.out.later C14.out)
  clear O_g1_13
  go_wp2_with fail
  refine (toRingActS_any l Al cl _ ((Hrl.out.below Bw14.out (Nat.le_refl _)).more Bw14.out.size) (by omega)).mono ?_
  rintro e w15 ⟨Aq9, rfl, ho, hb⟩
  have C15 := Lib.hid hb
  clear hb
  have t15 := C15.out.size
  have Bw15 := Lib.hid (Bw14.out.trans (C15.out.mono Bw14.out.size))
  have HB_aB_15 := Lib.hid (HB_aB_14.out.later C15.out)
  clear HB_aB_14
  have HB_w0_15 := Lib.hid (HB_w0_14.out.later C15.out)
  clear HB_w0_14
  have HB_x0_15 := Lib.hid (HB_x0_14.out.later C15.out)
  clear HB_x0_14
  have HB_g0_15 := Lib.hid (HB_g0_14.out.later C15.out)
  clear HB_g0_14
  have O_w0_a_15 := Lib.hid (O_w0_a_14.out.later C15.out)
  clear O_w0_a_14
  have O_w0_r_15 := Lib.hid (O_w0_r_14.out.later C15.out)
  clear O_w0_r_14
  have O_w1_15 := Lib.hid (O_w1_14.out.later C15.out)
  clear O_w1_14
  have O_x0_a_15 := Lib.hid (O_x0_a_14.out.later C15.out)
  clear O_x0_a_14
  have O_x0_r_15 := Lib.hid (O_x0_r_14.out.later C15.out)
  clear O_x0_r_14
  have O_x1_15 := Lib.hid (O_x1_14.out.later C15.out)
  clear O_x1_14
  have O_g0_a_15 := Lib.hid (O_g0_a_14.out.later C15.out)
  clear O_g0_a_14
  have O_g0_r_15 := Lib.hid (O_g0_r_14.out.later C15.out)
  clear O_g0_r_14
  have O_g1_15 := Lib.hid (O_g1_14.out.later C15.out)
  clear O_g1_14
  have Oq := Lib.hid ho
  clear ho
  go_wp2_with fail
  refine (eqRingActS_t l Ax1 Aq9 l.length l.length _ (O_x1_15.out.rd Act__enc_len) (Oq.out.rd Act__enc_len) (by omega)).mono ?_
  rintro e w16 ⟨rfl, hb⟩
  clear Oq
  have C16 := Lib.hid hb
  clear hb
  have t16 := C16.out.size
  have Bw16 := Lib.hid (Bw15.out.trans (C16.out.mono Bw15.out.size))
  have HB_aB_16 := Lib.hid (HB_aB_15.out.later C16.out)
  clear HB_aB_15
  have HB_w0_16 := Lib.hid (HB_w0_15.out.later C16.out)
  clear HB_w0_15
  have HB_x0_16 := Lib.hid (HB_x0_15.out.later C16.out)
  clear HB_x0_15
  have HB_g0_16 := Lib.hid (HB_g0_15.out.later C16.out)
  clear HB_g0_15
  have O_w0_a_16 := Lib.hid (O_w0_a_15.out.later C16.out)
  clear O_w0_a_15
  have O_w0_r_16 := Lib.hid (O_w0_r_15.out.later C16.out)
  clear O_w0_r_15
  have O_w1_16 := Lib.hid (O_w1_15.out.later C16.out)
  clear O_w1_15
  have O_x0_a_16 := Lib.hid (O_x0_a_15.out.later C16.out)
  clear O_x0_a_15
  have O_x0_r_16 := Lib.hid (O_x0_r_15.out.later C16.out)
  clear O_x0_r_15
  have O_x1_16 := Lib.hid (O_x1_15.out.later C16.out)
  clear O_x1_15
  have O_g0_a_16 := Lib.hid (O_g0_a_15.out.later C16.out)
  clear O_g0_a_15
  have O_g0_r_16 := Lib.hid (O_g0_r_15.out.later C16.out)
  clear O_g0_r_15
  have O_g1_16 := Lib.hid (O_g1_15.out.later C16.out)
  clear O_g1_15
  have s_x0_0 : w16.cell? ⟨w7.heap.size, 0, none⟩ = some (.string b.m.name) := HB_x0_16.out.cell (i := 0) (by omega)
  have s_x0_1 : w16.cell? ⟨w7.heap.size, 1, none⟩ = some (.int .i64 b.m.stage) := HB_x0_16.out.cell (i := 1) (by omega)
  have s_x0_2 : w16.cell? ⟨w7.heap.size, 2, none⟩ = some (.slice Ax0 b.m.x.length b.m.x.length) := HB_x0_16.out.cell (i := 2) (by omega)
  have s_x0_3 : w16.cell? ⟨w7.heap.size, 3, none⟩ = some (.string b.bob) := HB_x0_16.out.cell (i := 3) (by omega)
  have s_x0_4 : w16.cell? ⟨w7.heap.size, 4, none⟩ = some (.string b.sing) := HB_x0_16.out.cell (i := 4) (by omega)
  have s_x0_5 : w16.cell? ⟨w7.heap.size, 5, none⟩ = some (.int .i64 b.step) := HB_x0_16.out.cell (i := 5) (by omega)
  have s_x0_6 : w16.cell? ⟨w7.heap.size, 6, none⟩ = some (.string b.call) := HB_x0_16.out.cell (i := 6) (by omega)
  have s_x0_7 : w16.cell? ⟨w7.heap.size, 7, none⟩ = some (.string b.tru) := HB_x0_16.out.cell (i := 7) (by omega)
  have s_x0_8 : w16.cell? ⟨w7.heap.size, 8, none⟩ = some (.slice Rx0 b.rx.length b.rx.length) := HB_x0_16.out.cell (i := 8) (by omega)
  go_wp2_with fail
  refine (markBand_any ⟨⟨b.m.name, b.m.stage, b.m.x, Ax0, b.m.x.length⟩, b.bob, b.sing, b.step, b.call, b.tru, b.rx, Rx0, b.rx.length⟩ w6.heap.size gsx0 w7.heap.size 1 _ O_x0_a_16.out O_x0_r_16.out (by omega) (by omega) (by omega) (by simp only; omega) (by simp only; omega) (by omega) (by omega)).mono ?_
  rintro e w17 ⟨he, hc⟩
  clear s_x0_0 s_x0_1 s_x0_2 s_x0_3 s_x0_4 s_x0_5 s_x0_6 s_x0_7 s_x0_8
  obtain ⟨q17, hq⟩ : ∃ q : Nat, q = 1 + b.m.x.length + b.rx.length * 2 := ⟨_, rfl⟩
  have he2 : e = .returned (.int .i64 (q17 : Int)) := by rw [hq]; exact he
  subst he2
  clear he
  have Hq17 := Lib.hid hq
  obtain ⟨qa17, qb17⟩ : 0 < q17 ∧ q17 ≤ 10000001 := by omega
  clear hq
  have C17 := Lib.hid hc
  clear hc
  have t17 := C17.out.size
  have Bw17 := Lib.hid (Below.chg Bw16.out C17.out (by omega) Bw16.out.size)
  have HB_aB_17 := Lib.hid (HB_aB_16.out.chg C17.out (by omega))
  clear HB_aB_16
  have HB_w0_17 := Lib.hid (HB_w0_16.out.chg C17.out (by omega))
  clear HB_w0_16
  have HB_g0_17 := Lib.hid (HB_g0_16.out.chg C17.out (by omega))
  clear HB_g0_16
  have O_w0_a_17 := Lib.hid (O_w0_a_16.out.chg C17.out (by omega))
  clear O_w0_a_16
  have O_w0_r_17 := Lib.hid (O_w0_r_16.out.chg C17.out (by omega))
  clear O_w0_r_16
  have O_w1_17 := Lib.hid (O_w1_16.out.chg C17.out (by omega))
  clear O_w1_16
  have O_x1_17 := Lib.hid (O_x1_16.out.chg C17.out (by omega))
  clear O_x1_16
  have O_g0_a_17 := Lib.hid (O_g0_a_16.out.chg C17.out (by omega))
  clear O_g0_a_16
  have O_g0_r_17 := Lib.hid (O_g0_r_16.out.chg C17.out (by omega))
  clear O_g0_r_16
  have O_g1_17 := Lib.hid (O_g1_16.out.chg C17.out (by omega))
  clear O_g1_16
  clear O_x0_a_16
  clear O_x0_r_16
  clear HB_x0_16
  go_wp2_with fail
  refine (markRingActS_any l w8.heap.size w9.heap.size Ax1 l.length q17 _ O_x1_17.out (by omega) (by omega) (by omega)).mono ?_
  rintro e w18 ⟨he, ho, hc⟩
  obtain ⟨q18, hq⟩ : ∃ q : Nat, q = q17 + l.length * 4 := ⟨_, rfl⟩
  have he2 : e = .returned (.int .i64 (q18 : Int)) := by rw [hq]; exact he
  subst he2
  clear he
  have Hq18 := Lib.hid hq
  obtain ⟨qa18, qb18⟩ : 0 < q18 ∧ q18 ≤ 20000001 := by omega
  clear hq
  have C18 := Lib.hid hc
  clear hc
  have t18 := C18.out.size
  have Bw18 := Lib.hid (Below.chg Bw17.out C18.out (by omega) Bw17.out.size)
  have HB_aB_18 := Lib.hid (HB_aB_17.out.chg C18.out (by omega))
  clear HB_aB_17
  have HB_w0_18 := Lib.hid (HB_w0_17.out.chg C18.out (by omega))
  clear HB_w0_17
  have HB_g0_18 := Lib.hid (HB_g0_17.out.chg C18.out (by omega))
  clear HB_g0_17
  have O_w0_a_18 := Lib.hid (O_w0_a_17.out.chg C18.out (by omega))
  clear O_w0_a_17
  have O_w0_r_18 := Lib.hid (O_w0_r_17.out.chg C18.out (by omega))
  clear O_w0_r_17
  have O_w1_18 := Lib.hid (O_w1_17.out.chg C18.out (by omega))
  clear O_w1_17
  have O_g0_a_18 := Lib.hid (O_g0_a_17.out.chg C18.out (by omega))
  clear O_g0_a_17
  have O_g0_r_18 := Lib.hid (O_g0_r_17.out.chg C18.out (by omega))
  clear O_g0_r_17
  have O_g1_18 := Lib.hid (O_g1_17.out.chg C18.out (by omega))
  clear O_g1_17
  clear O_x1_17
  clear ho
  have s_g0_0 : w18.cell? ⟨w10.heap.size, 0, none⟩ = some (.string dd.name) := HB_g0_18.out.cell (i := 0) (by omega)
  have s_g0_1 : w18.cell? ⟨w10.heap.size, 1, none⟩ = some (.int .i64 dd.stage) := HB_g0_18.out.cell (i := 1) (by omega)
  have s_g0_2 : w18.cell? ⟨w10.heap.size, 2, none⟩ = some (.slice A1_g0 dd.x.length c1_g0) := HB_g0_18.out.cell (i := 2) (by omega)
  have s_g0_3 : w18.cell? ⟨w10.heap.size, 3, none⟩ = some (.string dd.bob) := HB_g0_18.out.cell (i := 3) (by omega)
  have s_g0_4 : w18.cell? ⟨w10.heap.size, 4, none⟩ = some (.string dd.sing) := HB_g0_18.out.cell (i := 4) (by omega)
  have s_g0_5 : w18.cell? ⟨w10.heap.size, 5, none⟩ = some (.int .i64 dd.step) := HB_g0_18.out.cell (i := 5) (by omega)
  have s_g0_6 : w18.cell? ⟨w10.heap.size, 6, none⟩ = some (.string dd.call) := HB_g0_18.out.cell (i := 6) (by omega)
  have s_g0_7 : w18.cell? ⟨w10.heap.size, 7, none⟩ = some (.string dd.tru) := HB_g0_18.out.cell (i := 7) (by omega)
  have s_g0_8 : w18.cell? ⟨w10.heap.size, 8, none⟩ = some (.slice A3_g0 dd.rx.length c3_g0) := HB_g0_18.out.cell (i := 8) (by omega)
  have s_w0_0 : w18.cell? ⟨w5.heap.size, 0, none⟩ = some (.string dd.name) := HB_w0_18.out.cell (i := 0) (by omega)
  have s_w0_1 : w18.cell? ⟨w5.heap.size, 1, none⟩ = some (.int .i64 dd.stage) := HB_w0_18.out.cell (i := 1) (by omega)
  have s_w0_2 : w18.cell? ⟨w5.heap.size, 2, none⟩ = some (.slice A1_w0 dd.x.length c1_w0) := HB_w0_18.out.cell (i := 2) (by omega)
  have s_w0_3 : w18.cell? ⟨w5.heap.size, 3, none⟩ = some (.string dd.bob) := HB_w0_18.out.cell (i := 3) (by omega)
  have s_w0_4 : w18.cell? ⟨w5.heap.size, 4, none⟩ = some (.string dd.sing) := HB_w0_18.out.cell (i := 4) (by omega)
  have s_w0_5 : w18.cell? ⟨w5.heap.size, 5, none⟩ = some (.int .i64 dd.step) := HB_w0_18.out.cell (i := 5) (by omega)
  have s_w0_6 : w18.cell? ⟨w5.heap.size, 6, none⟩ = some (.string dd.call) := HB_w0_18.out.cell (i := 6) (by omega)
  have s_w0_7 : w18.cell? ⟨w5.heap.size, 7, none⟩ = some (.string dd.tru) := HB_w0_18.out.cell (i := 7) (by omega)
  have s_w0_8 : w18.cell? ⟨w5.heap.size, 8, none⟩ = some (.slice A3_w0 dd.rx.length c3_w0) := HB_w0_18.out.cell (i := 8) (by omega)
  go_wp2_with fail
  refine (eqBand_t ⟨⟨dd.name, dd.stage, dd.x, A1_g0, c1_g0⟩, dd.bob, dd.sing, dd.step, dd.call, dd.tru, dd.rx, A3_g0, c3_g0⟩ A1_w0 A3_w0 c1_w0 c3_w0 _ (O_g0_a_18.out.rd encString_len) (O_w0_a_18.out.rd encString_len) (O_g0_r_18.out.rd Rgr_enc_len) (O_w0_r_18.out.rd Rgr_enc_len) (by simp only; omega) (by simp only; omega)).mono ?_
  rintro e w19 ⟨rfl, hb⟩
  clear s_g0_0 s_g0_1 s_g0_2 s_g0_3 s_g0_4 s_g0_5 s_g0_6 s_g0_7 s_g0_8 s_w0_0 s_w0_1 s_w0_2 s_w0_3 s_w0_4 s_w0_5 s_w0_6 s_w0_7 s_w0_8
  have C19 := Lib.hid hb
  clear hb
  have t19 := C19.out.size
  have Bw19 := Lib.hid (Bw18.out.trans (C19.out.mono Bw18.out.size))
  have HB_aB_19 := Lib.hid (HB_aB_18.out.later C19.out)
  clear HB_aB_18
  have HB_w0_19 := Lib.hid (HB_w0_18.out.later C19.out)
  clear HB_w0_18
  have HB_g0_19 := Lib.hid (HB_g0_18.out.later C19.out)
  clear HB_g0_18
  have O_w0_a_19 := Lib.hid (O_w0_a_18.out.later C19.out)
  clear O_w0_a_18
  have O_w0_r_19 := Lib.hid (O_w0_r_18.out.later C19.out)
  clear O_w0_r_18
  have O_w1_19 := Lib.hid (O_w1_18.out.later C19.out)
  clear O_w1_18
  have O_g0_a_19 := Lib.hid (O_g0_a_18.out.later C19.out)
  clear O_g0_a_18
  have O_g0_r_19 := Lib.hid (O_g0_r_18.out.later C19.out)
  clear O_g0_r_18
  have O_g1_19 := Lib.hid (O_g1_18.out.later C19.out)
  clear O_g1_18
  go_wp2_with fail
  refine (eqStringS_t rr AR_g0 AR_w0 cR_g0 cR_w0 _ (O_g1_19.out.rd encString_len) (O_w1_19.out.rd encString_len) (by omega)).mono ?_
  rintro e w20 ⟨rfl, hb⟩
  have C20 := Lib.hid hb
  clear hb
  have t20 := C20.out.size
  have Bw20 := Lib.hid (Bw19.out.trans (C20.out.mono Bw19.out.size))
  have HB_aB_20 := Lib.hid (HB_aB_19.out.later C20.out)
  clear HB_aB_19
  have HB_w0_20 := Lib.hid (HB_w0_19.out.later C20.out)
  clear HB_w0_19
  have HB_g0_20 := Lib.hid (HB_g0_19.out.later C20.out)
  clear HB_g0_19
  have O_w0_a_20 := Lib.hid (O_w0_a_19.out.later C20.out)
  clear O_w0_a_19
  have O_w0_r_20 := Lib.hid (O_w0_r_19.out.later C20.out)
  clear O_w0_r_19
  have O_w1_20 := Lib.hid (O_w1_19.out.later C20.out)
  clear O_w1_19
  have O_g0_a_20 := Lib.hid (O_g0_a_19.out.later C20.out)
  clear O_g0_a_19
  have O_g0_r_20 := Lib.hid (O_g0_r_19.out.later C20.out)
  clear O_g0_r_19
  have O_g1_20 := Lib.hid (O_g1_19.out.later C20.out)
  clear O_g1_19
  have s_g0_0 : w20.cell? ⟨w10.heap.size, 0, none⟩ = some (.string dd.name) := HB_g0_20.out.cell (i := 0) (by omega)
  have s_g0_1 : w20.cell? ⟨w10.heap.size, 1, none⟩ = some (.int .i64 dd.stage) := HB_g0_20.out.cell (i := 1) (by omega)
  have s_g0_2 : w20.cell? ⟨w10.heap.size, 2, none⟩ = some (.slice A1_g0 dd.x.length c1_g0) := HB_g0_20.out.cell (i := 2) (by omega)
  have s_g0_3 : w20.cell? ⟨w10.heap.size, 3, none⟩ = some (.string dd.bob) := HB_g0_20.out.cell (i := 3) (by omega)
  have s_g0_4 : w20.cell? ⟨w10.heap.size, 4, none⟩ = some (.string dd.sing) := HB_g0_20.out.cell (i := 4) (by omega)
  have s_g0_5 : w20.cell? ⟨w10.heap.size, 5, none⟩ = some (.int .i64 dd.step) := HB_g0_20.out.cell (i := 5) (by omega)
  have s_g0_6 : w20.cell? ⟨w10.heap.size, 6, none⟩ = some (.string dd.call) := HB_g0_20.out.cell (i := 6) (by omega)
  have s_g0_7 : w20.cell? ⟨w10.heap.size, 7, none⟩ = some (.string dd.tru) := HB_g0_20.out.cell (i := 7) (by omega)
  have s_g0_8 : w20.cell? ⟨w10.heap.size, 8, none⟩ = some (.slice A3_g0 dd.rx.length c3_g0) := HB_g0_20.out.cell (i := 8) (by omega)
  go_wp2_with fail
  refine (markBandC_any ⟨⟨dd.name, dd.stage, dd.x, A1_g0, c1_g0⟩, dd.bob, dd.sing, dd.step, dd.call, dd.tru, dd.rx, A3_g0, c3_g0⟩ lo_g0 gs_g0 hi_g0 1 _ O_g0_a_20.out O_g0_r_20.out (by omega) (by omega) (by omega) (by simp only; omega) (by simp only; omega) (by omega) (by omega)).mono ?_
  rintro e w21 ⟨he, ho, ho3, hc⟩
  clear s_g0_0 s_g0_1 s_g0_2 s_g0_3 s_g0_4 s_g0_5 s_g0_6 s_g0_7 s_g0_8
  obtain ⟨q21, hq⟩ : ∃ q : Nat, q = 1 + dd.x.length + dd.rx.length * 2 := ⟨_, rfl⟩
  have he2 : e = .returned (.int .i64 (q21 : Int)) := by rw [hq]; exact he
  subst he2
  clear he
  have Hq21 := Lib.hid hq
  obtain ⟨qa21, qb21⟩ : 0 < q21 ∧ q21 ≤ 10000001 := by omega
  clear hq
  have C21 := Lib.hid hc
  clear hc
  have t21 := C21.out.size
  have Bw21 := Lib.hid (Below.chg Bw20.out C21.out (by omega) Bw20.out.size)
  have HB_aB_21 := Lib.hid (HB_aB_20.out.chg C21.out (by omega))
  clear HB_aB_20
  have HB_w0_21 := Lib.hid (HB_w0_20.out.chg C21.out (by omega))
  clear HB_w0_20
  have O_w0_a_21 := Lib.hid (O_w0_a_20.out.chg C21.out (by omega))
  clear O_w0_a_20
  have O_w0_r_21 := Lib.hid (O_w0_r_20.out.chg C21.out (by omega))
  clear O_w0_r_20
  have O_w1_21 := Lib.hid (O_w1_20.out.chg C21.out (by omega))
  clear O_w1_20
  have O_g1_21 := Lib.hid (O_g1_20.out.chg C21.out (by omega))
  clear O_g1_20
  have O_g0_a_21 := Lib.hid ho
  have O_g0_r_21 := Lib.hid ho3
  clear ho ho3 O_g0_a_20 O_g0_r_20
  have HB_g0_21 := Lib.hid (HB_g0_20.out.chg C21.out (by omega))
  clear HB_g0_20
  go_wp2_with fail
  refine (markStringS_any rr gw_g0 (gw_g0 + 1) AR_g0 cR_g0 q21 _ O_g1_21.out (by omega) (by omega) (by omega)).mono ?_
  rintro e w22 ⟨he, ho, hc⟩
  obtain ⟨q22, hq⟩ : ∃ q : Nat, q = q21 + (rr).length * 1 := ⟨_, rfl⟩
  have he2 : e = .returned (.int .i64 (q22 : Int)) := by rw [hq]; exact he
  subst he2
  clear he
  have Hq22 := Lib.hid hq
  obtain ⟨qa22, qb22⟩ : 0 < q22 ∧ q22 ≤ 20000001 := by omega
  clear hq
  have C22 := Lib.hid hc
  clear hc
  have t22 := C22.out.size
  have Bw22 := Lib.hid (Below.chg Bw21.out C22.out (by omega) Bw21.out.size)
  have HB_aB_22 := Lib.hid (HB_aB_21.out.chg C22.out (by omega))
  clear HB_aB_21
  have HB_w0_22 := Lib.hid (HB_w0_21.out.chg C22.out (by omega))
  clear HB_w0_21
  have HB_g0_22 := Lib.hid (HB_g0_21.out.chg C22.out (by omega))
  clear HB_g0_21
  have O_w0_a_22 := Lib.hid (O_w0_a_21.out.chg C22.out (by omega))
  clear O_w0_a_21
  have O_w0_r_22 := Lib.hid (O_w0_r_21.out.chg C22.out (by omega))
  clear O_w0_r_21
  have O_w1_22 := Lib.hid (O_w1_21.out.chg C22.out (by omega))
  clear O_w1_21
  have O_g0_a_22 := Lib.hid (O_g0_a_21.out.chg C22.out (by omega))
  clear O_g0_a_21
  have O_g0_r_22 := Lib.hid (O_g0_r_21.out.chg C22.out (by omega))
  clear O_g0_r_21
  have O_g1_22 := Lib.hid ho
  clear ho O_g1_21
  have s_g0_0 : w22.cell? ⟨w10.heap.size, 0, none⟩ = some (.string dd.name) := HB_g0_22.out.cell (i := 0) (by omega)
  have s_g0_1 : w22.cell? ⟨w10.heap.size, 1, none⟩ = some (.int .i64 dd.stage) := HB_g0_22.out.cell (i := 1) (by omega)
  have s_g0_2 : w22.cell? ⟨w10.heap.size, 2, none⟩ = some (.slice A1_g0 dd.x.length c1_g0) := HB_g0_22.out.cell (i := 2) (by omega)
  have s_g0_3 : w22.cell? ⟨w10.heap.size, 3, none⟩ = some (.string dd.bob) := HB_g0_22.out.cell (i := 3) (by omega)
  have s_g0_4 : w22.cell? ⟨w10.heap.size, 4, none⟩ = some (.string dd.sing) := HB_g0_22.out.cell (i := 4) (by omega)
  have s_g0_5 : w22.cell? ⟨w10.heap.size, 5, none⟩ = some (.int .i64 dd.step) := HB_g0_22.out.cell (i := 5) (by omega)
  have s_g0_6 : w22.cell? ⟨w10.heap.size, 6, none⟩ = some (.string dd.call) := HB_g0_22.out.cell (i := 6) (by omega)
  have s_g0_7 : w22.cell? ⟨w10.heap.size, 7, none⟩ = some (.string dd.tru) := HB_g0_22.out.cell (i := 7) (by omega)
  have s_g0_8 : w22.cell? ⟨w10.heap.size, 8, none⟩ = some (.slice A3_g0 dd.rx.length c3_g0) := HB_g0_22.out.cell (i := 8) (by omega)
  go_wp2_with fail
  refine (heldBand_any dd.name dd.stage A1_g0 dd.x.length c1_g0 dd.bob dd.sing dd.step dd.call dd.tru A3_g0 dd.rx.length c3_g0 1 _ (O_g0_a_22.out.rd encString_len) (O_g0_r_22.out.rd Rgr_enc_len) (by omega) (by omega) (by omega) (by omega)).mono ?_
  rintro e w23 ⟨he, hb⟩
  clear s_g0_0 s_g0_1 s_g0_2 s_g0_3 s_g0_4 s_g0_5 s_g0_6 s_g0_7 s_g0_8
  have he2 : e = .returned (.int .i64 (q21 : Int)) := by rw [Hq21.out]; exact he
  subst he2
  clear he
  have C23 := Lib.hid hb
  clear hb
  have t23 := C23.out.size
  have Bw23 := Lib.hid (Bw22.out.trans (C23.out.mono Bw22.out.size))
  have HB_aB_23 := Lib.hid (HB_aB_22.out.later C23.out)
  clear HB_aB_22
  have HB_w0_23 := Lib.hid (HB_w0_22.out.later C23.out)
  clear HB_w0_22
  have HB_g0_23 := Lib.hid (HB_g0_22.out.later C23.out)
  clear HB_g0_22
  have O_w0_a_23 := Lib.hid (O_w0_a_22.out.later C23.out)
  clear O_w0_a_22
  have O_w0_r_23 := Lib.hid (O_w0_r_22.out.later C23.out)
  clear O_w0_r_22
  have O_w1_23 := Lib.hid (O_w1_22.out.later C23.out)
  clear O_w1_22
  have O_g0_a_23 := Lib.hid (O_g0_a_22.out.later C23.out)
  clear O_g0_a_22
  have O_g0_r_23 := Lib.hid (O_g0_r_22.out.later C23.out)
  clear O_g0_r_22
  have O_g1_23 := Lib.hid (O_g1_22.out.later C23.out)
  clear O_g1_22
  go_wp2_with fail
  refine (heldStringS_any (rr).length AR_g0 cR_g0 q21 _ (O_g1_23.out.rd encString_len) (by omega) (by omega) (by omega)).mono ?_
  rintro e w24 ⟨he, hb⟩
  have he2 : e = .returned (.int .i64 (q22 : Int)) := by rw [Hq22.out]; exact he
  subst he2
  clear he
  have C24 := Lib.hid hb
  clear hb
  have t24 := C24.out.size
  have Bw24 := Lib.hid (Bw23.out.trans (C24.out.mono Bw23.out.size))
  have HB_aB_24 := Lib.hid (HB_aB_23.out.later C24.out)
  clear HB_aB_23
  have HB_w0_24 := Lib.hid (HB_w0_23.out.later C24.out)
  clear HB_w0_23
  have HB_g0_24 := Lib.hid (HB_g0_23.out.later C24.out)
  clear HB_g0_23
  have O_w0_a_24 := Lib.hid (O_w0_a_23.out.later C24.out)
  clear O_w0_a_23
  have O_w0_r_24 := Lib.hid (O_w0_r_23.out.later C24.out)
  clear O_w0_r_23
  have O_w1_24 := Lib.hid (O_w1_23.out.later C24.out)
  clear O_w1_23
  have O_g0_a_24 := Lib.hid (O_g0_a_23.out.later C24.out)
  clear O_g0_a_23
  have O_g0_r_24 := Lib.hid (O_g0_r_23.out.later C24.out)
  clear O_g0_r_23
  have O_g1_24 := Lib.hid (O_g1_23.out.later C24.out)
  clear O_g1_23
  have s_aB_0 : w24.cell? ⟨w.heap.size, 0, none⟩ = some (.string b.m.name) := HB_aB_24.out.cell (i := 0) (by omega)
  have s_aB_1 : w24.cell? ⟨w.heap.size, 1, none⟩ = some (.int .i64 b.m.stage) := HB_aB_24.out.cell (i := 1) (by omega)
  have s_aB_2 : w24.cell? ⟨w.heap.size, 2, none⟩ = some (.slice b.m.A b.m.x.length b.m.c) := HB_aB_24.out.cell (i := 2) (by omega)
  have s_aB_3 : w24.cell? ⟨w.heap.size, 3, none⟩ = some (.string b.bob) := HB_aB_24.out.cell (i := 3) (by omega)
  have s_aB_4 : w24.cell? ⟨w.heap.size, 4, none⟩ = some (.string b.sing) := HB_aB_24.out.cell (i := 4) (by omega)
  have s_aB_5 : w24.cell? ⟨w.heap.size, 5, none⟩ = some (.int .i64 b.step) := HB_aB_24.out.cell (i := 5) (by omega)
  have s_aB_6 : w24.cell? ⟨w.heap.size, 6, none⟩ = some (.string b.call) := HB_aB_24.out.cell (i := 6) (by omega)
  have s_aB_7 : w24.cell? ⟨w.heap.size, 7, none⟩ = some (.string b.tru) := HB_aB_24.out.cell (i := 7) (by omega)
  have s_aB_8 : w24.cell? ⟨w.heap.size, 8, none⟩ = some (.slice b.RA b.rx.length b.rc) := HB_aB_24.out.cell (i := 8) (by omega)
  go_wp2_with fail
  refine (toBand_any b _ ((Hb.out.below Bw24.out (Nat.le_refl _)).more Bw24.out.size) ((Hrb.out.below Bw24.out (Nat.le_refl _)).more Bw24.out.size) (by omega) (by omega)).mono ?_
  rintro e w25 ⟨A_h00, R_h00, rfl, ho, ho3, hb⟩
  clear s_aB_0 s_aB_1 s_aB_2 s_aB_3 s_aB_4 s_aB_5 s_aB_6 s_aB_7 s_aB_8
  have C25 := Lib.hid hb
  clear hb
  have t25 := C25.out.size
  have Bw25 := Lib.hid (Bw24.out.trans (C25.out.mono Bw24.out.size))
  have HB_aB_25 := Lib.hid (HB_aB_24.out.later C25.out)
  clear HB_aB_24
  have HB_w0_25 := Lib.hid (HB_w0_24.out.later C25.out)
  clear HB_w0_24
  have HB_g0_25 := Lib.hid (HB_g0_24.out.later C25.out)
  clear HB_g0_24
  have O_w0_a_25 := Lib.hid (O_w0_a_24.out.later C25.out)
  clear O_w0_a_24
  have O_w0_r_25 := Lib.hid (O_w0_r_24.out.later C25.out)
  clear O_w0_r_24
  have O_w1_25 := Lib.hid (O_w1_24.out.later C25.out)
  clear O_w1_24
  have O_g0_a_25 := Lib.hid (O_g0_a_24.out.later C25.out)
  clear O_g0_a_24
  have O_g0_r_25 := Lib.hid (O_g0_r_24.out.later C25.out)
  clear O_g0_r_24
  have O_g1_25 := Lib.hid (O_g1_24.out.later C25.out)
  clear O_g1_24
  have O_t_h00_a_25 := Lib.hid ho
  have O_t_h00_r_25 := Lib.hid ho3
  clear ho ho3
  go_wp2_with fail
  refine (toRingActS_any l Al cl _ ((Hrl.out.below Bw25.out (Nat.le_refl _)).more Bw25.out.size) (by omega)).mono ?_
  rintro e w26 ⟨A_h01, rfl, ho, hb⟩
  have C26 := Lib.hid hb
  clear hb
  have t26 := C26.out.size
  have Bw26 := Lib.hid (Bw25.out.trans (C26.out.mono Bw25.out.size))
  have HB_aB_26 := Lib.hid (HB_aB_25.out.later C26.out)
  clear HB_aB_25
  have HB_w0_26 := Lib.hid (HB_w0_25.out.later C26.out)
  clear HB_w0_25
  have HB_g0_26 := Lib.hid (HB_g0_25.out.later C26.out)
  clear HB_g0_25
  have O_w0_a_26 := Lib.hid (O_w0_a_25.out.later C26.out)
  clear O_w0_a_25
  have O_w0_r_26 := Lib.hid (O_w0_r_25.out.later C26.out)
  clear O_w0_r_25
  have O_w1_26 := Lib.hid (O_w1_25.out.later C26.out)
  clear O_w1_25
  have O_g0_a_26 := Lib.hid (O_g0_a_25.out.later C26.out)
  clear O_g0_a_25
  have O_g0_r_26 := Lib.hid (O_g0_r_25.out.later C26.out)
  clear O_g0_r_25
  have O_g1_26 := Lib.hid (O_g1_25.out.later C26.out)
  clear O_g1_25
  have O_t_h00_a_26 := Lib.hid (O_t_h00_a_25.out.later C26.out)
  clear O_t_h00_a_25
  have O_t_h00_r_26 := Lib.hid (O_t_h00_r_25.out.later C26.out)
  clear O_t_h00_r_25
  have O_t_h01_26 := Lib.hid ho
  clear ho
  go_wp2_with fail
  refine (playB_of hD.out rfl (iPlayBand_any ⟨⟨b.m.name, b.m.stage, b.m.x, A_h00, b.m.x.length⟩, b.bob, b.sing, b.step, b.call, b.tru, b.rx, R_h00, b.rx.length⟩ l A_h01 l.length _ ⟨(O_t_h00_a_26.out.rd encString_len), (O_t_h00_r_26.out.rd Rgr_enc_len), by simp only; omega, by simp only; omega, Hmb.out, by simp only; omega, by simp only; omega, by simp only; omega, by simp only; omega, by simp only; omega⟩ (O_t_h01_26.out.rd Act__enc_len) (by omega) (HT.out.later Bw26.out))).mono ?_
  rintro e w27 ⟨u9, rfl, hbd, hb⟩
  obtain ⟨v2, AR_h0, cR_h0, gw_h0, lo_h0, hi_h0, rfl, hj1_h0, hj2_h0, hj3_h0, hj4_h0, hj5_h0, hj6_h0, ⟨A1_h0, c1_h0, A3_h0, c3_h0, gs_h0, rfl, hg1_h0, hg2_h0, ho1, ho3⟩, hoR⟩ := hbd
  clear O_t_h00_a_26
  clear O_t_h00_r_26
  clear O_t_h01_26
  have C27 := Lib.hid hb
  clear hb
  have t27 := C27.out.size
  have Bw27 := Lib.hid (Bw26.out.trans (C27.out.mono Bw26.out.size))
  clear HB_aB_26
  have HB_w0_27 := Lib.hid (HB_w0_26.out.later C27.out)
  clear HB_w0_26
  have HB_g0_27 := Lib.hid (HB_g0_26.out.later C27.out)
  clear HB_g0_26
  have O_w0_a_27 := Lib.hid (O_w0_a_26.out.later C27.out)
  clear O_w0_a_26
  have O_w0_r_27 := Lib.hid (O_w0_r_26.out.later C27.out)
  clear O_w0_r_26
  have O_w1_27 := Lib.hid (O_w1_26.out.later C27.out)
  clear O_w1_26
  have O_g0_a_27 := Lib.hid (O_g0_a_26.out.later C27.out)
  clear O_g0_a_26
  have O_g0_r_27 := Lib.hid (O_g0_r_26.out.later C27.out)
  clear O_g0_r_26
  have O_g1_27 := Lib.hid (O_g1_26.out.later C27.out)
  clear O_g1_26
  have O_h0_a_27 := Lib.hid ho1
  have O_h0_r_27 := Lib.hid ho3
  have O_h1_27 := Lib.hid hoR
  clear ho1 ho3 hoR
  go_upto_region 36 with fail
  have hWx : ∃ W : World, Hid ((w27.alloc (.cells #[.string dd.name, .int .i64 dd.stage, .slice A1_h0 dd.x.length c1_h0, .string dd.bob, .string dd.sing, .int .i64 dd.step, .string dd.call, .string dd.tru, .slice A3_h0 dd.rx.length c3_h0] 36)) = W) ∧ Hid (Below w27.heap.size w27 W) ∧ Hid (Cells W w27.heap.size 9 (fun i => (#[Value.string dd.name, .int .i64 dd.stage, .slice A1_h0 dd.x.length c1_h0, .string dd.bob, .string dd.sing, .int .i64 dd.step, .string dd.call, .string dd.tru, .slice A3_h0 dd.rx.length c3_h0] : Array Value).getD i undef)) := ⟨_, Lib.hid rfl, Lib.hid ((Below.refl _ _).alloc (Nat.le_refl _) _), Lib.hid (Cells.newD _ #[.string dd.name, .int .i64 dd.stage, .slice A1_h0 dd.x.length c1_h0, .string dd.bob, .string dd.sing, .int .i64 dd.step, .string dd.call, .string dd.tru, .slice A3_h0 dd.rx.length c3_h0] _)⟩
  obtain ⟨w28, hWe, hb', hbx⟩ := hWx
  rw [hWe.out]
  clear hWe
  have hb := hb'.out
  clear hb'
  have txh0 : w27.heap.size + 1 ≤ w28.heap.size := hbx.out.lt
  have C28 := Lib.hid hb
  clear hb
  have t28 := C28.out.size
  have Bw28 := Lib.hid (Bw27.out.trans (C28.out.mono Bw27.out.size))
  have HB_w0_28 := Lib.hid (HB_w0_27.out.later C28.out)
  clear HB_w0_27
  have HB_g0_28 := Lib.hid (HB_g0_27.out.later C28.out)
  clear HB_g0_27
  have O_w0_a_28 := Lib.hid (O_w0_a_27.out.later C28.out)
  clear O_w0_a_27
  have O_w0_r_28 := Lib.hid (O_w0_r_27.out.later C28.out)
  clear O_w0_r_27
  have O_w1_28 := Lib.hid (O_w1_27.out.later C28.out)
  clear O_w1_27
  have O_g0_a_28 := Lib.hid (O_g0_a_27.out.later C28.out)
  clear O_g0_a_27
  have O_g0_r_28 := Lib.hid (O_g0_r_27.out.later C28.out)
  clear O_g0_r_27
  have O_g1_28 := Lib.hid (O_g1_27.out.later C28.out)
  clear O_g1_27
  have O_h0_a_28 := Lib.hid (O_h0_a_27.out.later C28.out)
  clear O_h0_a_27
  have O_h0_r_28 := Lib.hid (O_h0_r_27.out.later C28.out)
  clear O_h0_r_27
  have O_h1_28 := Lib.hid (O_h1_27.out.later C28.out)
  clear O_h1_27
  have HB_h0_28 := hbx
  clear hbx
  have s_h0_0 : w28.cell? ⟨w27.heap.size, 0, none⟩ = some (.string dd.name) := HB_h0_28.out.cell (i := 0) (by omega)
  have s_h0_1 : w28.cell? ⟨w27.heap.size, 1, none⟩ = some (.int .i64 dd.stage) := HB_h0_28.out.cell (i := 1) (by omega)
  have s_h0_2 : w28.cell? ⟨w27.heap.size, 2, none⟩ = some (.slice A1_h0 dd.x.length c1_h0) := HB_h0_28.out.cell (i := 2) (by omega)
  have s_h0_3 : w28.cell? ⟨w27.heap.size, 3, none⟩ = some (.string dd.bob) := HB_h0_28.out.cell (i := 3) (by omega)
  have s_h0_4 : w28.cell? ⟨w27.heap.size, 4, none⟩ = some (.string dd.sing) := HB_h0_28.out.cell (i := 4) (by omega)
  have s_h0_5 : w28.cell? ⟨w27.heap.size, 5, none⟩ = some (.int .i64 dd.step) := HB_h0_28.out.cell (i := 5) (by omega)
  have s_h0_6 : w28.cell? ⟨w27.heap.size, 6, none⟩ = some (.string dd.call) := HB_h0_28.out.cell (i := 6) (by omega)
  have s_h0_7 : w28.cell? ⟨w27.heap.size, 7, none⟩ = some (.string dd.tru) := HB_h0_28.out.cell (i := 7) (by omega)
  have s_h0_8 : w28.cell? ⟨w27.heap.size, 8, none⟩ = some (.slice A3_h0 dd.rx.length c3_h0) := HB_h0_28.out.cell (i := 8) (by omega)
  have s_w0_0 : w28.cell? ⟨w5.heap.size, 0, none⟩ = some (.string dd.name) := HB_w0_28.out.cell (i := 0) (by omega)
  have s_w0_1 : w28.cell? ⟨w5.heap.size, 1, none⟩ = some (.int .i64 dd.stage) := HB_w0_28.out.cell (i := 1) (by omega)
  have s_w0_2 : w28.cell? ⟨w5.heap.size, 2, none⟩ = some (.slice A1_w0 dd.x.length c1_w0) := HB_w0_28.out.cell (i := 2) (by omega)
  have s_w0_3 : w28.cell? ⟨w5.heap.size, 3, none⟩ = some (.string dd.bob) := HB_w0_28.out.cell (i := 3) (by omega)
  have s_w0_4 : w28.cell? ⟨w5.heap.size, 4, none⟩ = some (.string dd.sing) := HB_w0_28.out.cell (i := 4) (by omega)
  have s_w0_5 : w28.cell? ⟨w5.heap.size, 5, none⟩ = some (.int .i64 dd.step) := HB_w0_28.out.cell (i := 5) (by omega)
  have s_w0_6 : w28.cell? ⟨w5.heap.size, 6, none⟩ = some (.string dd.call) := HB_w0_28.out.cell (i := 6) (by omega)
  have s_w0_7 : w28.cell? ⟨w5.heap.size, 7, none⟩ = some (.string dd.tru) := HB_w0_28.out.cell (i := 7) (by omega)
  have s_w0_8 : w28.cell? ⟨w5.heap.size, 8, none⟩ = some (.slice A3_w0 dd.rx.length c3_w0) := HB_w0_28.out.cell (i := 8) (by omega)
  go_wp2_with fail
  refine (eqBand_t ⟨⟨dd.name, dd.stage, dd.x, A1_h0, c1_h0⟩, dd.bob, dd.sing, dd.step, dd.call, dd.tru, dd.rx, A3_h0, c3_h0⟩ A1_w0 A3_w0 c1_w0 c3_w0 _ (O_h0_a_28.out.rd encString_len) (O_w0_a_28.out.rd encString_len) (O_h0_r_28.out.rd Rgr_enc_len) (O_w0_r_28.out.rd Rgr_enc_len) (by simp only; omega) (by simp only; omega)).mono ?_
  rintro e w29 ⟨rfl, hb⟩
  clear s_h0_0 s_h0_1 s_h0_2 s_h0_3 s_h0_4 s_h0_5 s_h0_6 s_h0_7 s_h0_8 s_w0_0 s_w0_1 s_w0_2 s_w0_3 s_w0_4 s_w0_5 s_w0_6 s_w0_7 s_w0_8
  have C29 := Lib.hid hb
  clear hb
  have t29 := C29.out.size
  have Bw29 := Lib.hid (Bw28.out.trans (C29.out.mono Bw28.out.size))
  clear HB_w0_28
  have HB_g0_29 := Lib.hid (HB_g0_28.out.later C29.out)
  clear HB_g0_28
  clear HB_h0_28
  clear O_w0_a_28
  clear O_w0_r_28
  have O_w1_29 := Lib.hid (O_w1_28.out.later C29.out)
  clear O_w1_28
  have O_g0_a_29 := Lib.hid (O_g0_a_28.out.later C29.out)
  clear O_g0_a_28
  have O_g0_r_29 := Lib.hid (O_g0_r_28.out.later C29.out)
  clear O_g0_r_28
  have O_g1_29 := Lib.hid (O_g1_28.out.later C29.out)
  clear O_g1_28
  clear O_h0_a_28
  clear O_h0_r_28
  have O_h1_29 := Lib.hid (O_h1_28.out.later C29.out)
  clear O_h1_28
  go_wp2_with fail
  refine (eqStringS_t rr AR_h0 AR_w0 cR_h0 cR_w0 _ (O_h1_29.out.rd encString_len) (O_w1_29.out.rd encString_len) (by omega)).mono ?_
  rintro e w30 ⟨rfl, hb⟩
  have C30 := Lib.hid hb
  clear hb
  have t30 := C30.out.size
  have Bw30 := Lib.hid (Bw29.out.trans (C30.out.mono Bw29.out.size))
  have HB_g0_30 := Lib.hid (HB_g0_29.out.later C30.out)
  clear HB_g0_29
  clear O_w1_29
  have O_g0_a_30 := Lib.hid (O_g0_a_29.out.later C30.out)
  clear O_g0_a_29
  have O_g0_r_30 := Lib.hid (O_g0_r_29.out.later C30.out)
  clear O_g0_r_29
  have O_g1_30 := Lib.hid (O_g1_29.out.later C30.out)
  clear O_g1_29
  clear O_h1_29
  have s_g0_0 : w30.cell? ⟨w10.heap.size, 0, none⟩ = some (.string dd.name) := HB_g0_30.out.cell (i := 0) (by omega)
  have s_g0_1 : w30.cell? ⟨w10.heap.size, 1, none⟩ = some (.int .i64 dd.stage) := HB_g0_30.out.cell (i := 1) (by omega)
  have s_g0_2 : w30.cell? ⟨w10.heap.size, 2, none⟩ = some (.slice A1_g0 dd.x.length c1_g0) := HB_g0_30.out.cell (i := 2) (by omega)
  have s_g0_3 : w30.cell? ⟨w10.heap.size, 3, none⟩ = some (.string dd.bob) := HB_g0_30.out.cell (i := 3) (by omega)
  have s_g0_4 : w30.cell? ⟨w10.heap.size, 4, none⟩ = some (.string dd.sing) := HB_g0_30.out.cell (i := 4) (by omega)
  have s_g0_5 : w30.cell? ⟨w10.heap.size, 5, none⟩ = some (.int .i64 dd.step) := HB_g0_30.out.cell (i := 5) (by omega)
  have s_g0_6 : w30.cell? ⟨w10.heap.size, 6, none⟩ = some (.string dd.call) := HB_g0_30.out.cell (i := 6) (by omega)
  have s_g0_7 : w30.cell? ⟨w10.heap.size, 7, none⟩ = some (.string dd.tru) := HB_g0_30.out.cell (i := 7) (by omega)
  have s_g0_8 : w30.cell? ⟨w10.heap.size, 8, none⟩ = some (.slice A3_g0 dd.rx.length c3_g0) := HB_g0_30.out.cell (i := 8) (by omega)
  go_wp2_with fail
  refine (heldBand_any dd.name dd.stage A1_g0 dd.x.length c1_g0 dd.bob dd.sing dd.step dd.call dd.tru A3_g0 dd.rx.length c3_g0 1 _ (O_g0_a_30.out.rd encString_len) (O_g0_r_30.out.rd Rgr_enc_len) (by omega) (by omega) (by omega) (by omega)).mono ?_
  rintro e w31 ⟨he, hb⟩
  clear s_g0_0 s_g0_1 s_g0_2 s_g0_3 s_g0_4 s_g0_5 s_g0_6 s_g0_7 s_g0_8
  have he2 : e = .returned (.int .i64 (q21 : Int)) := by rw [Hq21.out]; exact he
  subst he2
  clear he
  have C31 := Lib.hid hb
  clear hb
  have t31 := C31.out.size
  have Bw31 := Lib.hid (Bw30.out.trans (C31.out.mono Bw30.out.size))
  clear HB_g0_30
  clear O_g0_a_30
  clear O_g0_r_30
  have O_g1_31 := Lib.hid (O_g1_30.out.later C31.out)
  clear O_g1_30
  go_wp2_with fail
  refine (heldStringS_any (rr).length AR_g0 cR_g0 q21 _ (O_g1_31.out.rd encString_len) (by omega) (by omega) (by omega)).mono ?_
  rintro e w32 ⟨he, hb⟩
  have he2 : e = .returned (.int .i64 (q22 : Int)) := by rw [Hq22.out]; exact he
  subst he2
  clear he
  have C32 := Lib.hid hb
  clear hb
  have t32 := C32.out.size
  have Bw32 := Lib.hid (Bw31.out.trans (C32.out.mono Bw31.out.size))
  clear O_g1_31
  go_wp2_with fail
  go_ret
  exact ⟨rfl, Bw32.out⟩

namespace fnExactPlayBand
open Go.ChangeShapes Go.WideShapes Go.ChangeAt Go.RowKit Go.Deep
open Go.ChangeMaps (open_string shut_string)
theorem own : ownKnob Tryz.prog.godebug = none := by kernel_rfl
theorem laid : laidOutB Tryz.prog = true := by kernel_rfl
theorem reads : Tryz.f5.params.toList.all (fun t => Tryz.prog.readableRec t && decide (t < Tryz.prog.types.size)) = true := by kernel_rfl
theorem door_met (os : Os) (args : Array Value) : laidMetH Tryz.prog Rows.fnExactPlayBandRow.laid ((World.doorLaid Tryz.prog 400 os).forCall (fun _ _ => 0) ⟨#[], args, []⟩).memory :=
  laidMetH_of_parts3 (fuel := 8) (laidMet_of_run' 8 (by kernel_rfl) (by kernel_rfl)) (by kernel_rfl) (by kernel_rfl)
set_option maxRecDepth 100000 in
theorem lifted (os : Os) (started : os.Started) (H : Type) (enc : TypeId × Value → H) :
    ReturnsInHanded {} Tryz.checked os 5 .any (fun w args => (Rows.fnExactPlayBandSpec.pre enc Tryz.prog Tryz.f5 [] false w args ∧ laidMetH Tryz.prog Rows.fnExactPlayBandRow.laid w) ∧ sizedMet enc Tryz.prog Tryz.f5 (OpenSpec.ofChange Rows.fnExactPlayBandSpec) false w args) (Rows.fnExactPlayBandSpec.post enc Tryz.prog Tryz.f5 false true false false) := by
  refine returnsInHanded_of_change_and (C := Tryz.checked) (X := fun w _ => laidMetH Tryz.prog Rows.fnExactPlayBandRow.laid w) (fun _ _ _ hh h => h.of_heap hh) own started (by kernel_rfl) Tryz.func5
    (ChangeSpec.witness_shaped (enc := enc) (C := Tryz.checked) (os := os) (X := fun w _ => laidMetH Tryz.prog Rows.fnExactPlayBandRow.laid w) false (World.doorLaid Tryz.prog 400 os) #[.agg #[.string ByteArray.empty, .int .i64 0, .slice none 0 0, .string ByteArray.empty, .string ByteArray.empty, .int .i64 0, .string ByteArray.empty, .string ByteArray.empty, .slice none 0 0], .slice none 0 0] 8 rfl (World.shaped_of_RefB (by kernel_rfl) (by kernel_rfl)) (by kernel_rfl) (by kernel_rfl) (by kernel_rfl) (door_met os _)) ?_
  intro W base args ds gs before hval0 hW _ _ hL _
  have htabW : Tab W := tab_of (by rw [MakeChecks.laidMetH_plain _ _ _ (by kernel_rfl)] at hL; exact hL)
  have hval : ∀ (j : Nat) t v, Tryz.f5.params[j]? = some t → args[j]? = some v → Value.okWide Tryz.prog W .any base t v := hval0
  have hW' := hW
  obtain ⟨p, q, hA0, hV, rfl, hfz, hnd⟩ := hW
  have hA : DataW.TrodAll enc Tryz.prog W 0 (fun _ => true) true Tryz.f5.params.toList args.toList ds p := hA0
  rw [Tryz.params5] at hA hval
  obtain ⟨rfl, rfl⟩ := trodVars_none hV
  have hlt : ∀ x ∈ p, x.block < W.heap.size := fun x hx => by simpa using hW'.lt x (List.mem_append.2 (.inl hx))
  clear hA0 hval0
  obtain ⟨v0, vs0, d0, ds0, p0, q0, hargs, rfl, rfl, h0, r0⟩ := trodAll_cons hA
  obtain ⟨v1, vs1, d1, ds1, p1, q1, rfl, rfl, rfl, h1, r1⟩ := trodAll_cons r0
  obtain ⟨rfl, rfl, rfl⟩ := trodAll_nil r1
  obtain rfl : args = #[v0, v1] := by cases args; simp_all
  clear hargs
  obtain ⟨b0, rfl, hfit0, hrd0, hrr0, _⟩ := open_struct Tryz.underlying72 Bnd.enc _ Band_el (hval 0 72 v0 rfl rfl) h0
  obtain ⟨A1, a1, c1, rfl, y1, x1, z1⟩ := open_list Tryz.underlying73 4 (by kernel_rfl) (by omega) Act_.enc _ RingAct_el (hval 1 73 v1 rfl rfl) h1
  refine (playBandLaw W b0 hrd0 hrr0 hfit0 a1 A1 c1 x1 (by unfold maxLen at y1; omega) z1 htabW).mono fun e W' ⟨he, hg⟩ => ?_
  subst he
  exact ⟨_, rfl, law_post laid reads rfl Tryz.underlying4 rfl rfl hW' hg⟩
theorem over : Rows.fnExactPlayBandRow.holds Tryz.pinned (OpenSpec.ofChange Rows.fnExactPlayBandSpec) :=
  OpenClaim.holds_of_wide 5 Tryz.f5 rfl rfl rfl rfl rfl rfl rfl ⟨rfl, rfl, rfl, rfl, rfl⟩ rfl rfl rfl rfl rfl (by kernel_rfl) Tryz.func5 facts
    (of_decide_eq_true (by kernel_rfl)) (by unfold Func.isWrapper; first | (rw [if_pos (by decide +kernel)]; kernel_rfl) | (rw [if_neg (by decide +kernel)]; exact ⟨rfl, rfl⟩))
    (fun os started H enc _ => lifted os started H enc)
theorem proved : Rows.FnExactPlayBandCardSaid :=
  Claim7.holds_tied_plain_at .later [] [.data, .data, .data] true (true, "8ea8722d9bec10e40dd518fc551386b0131c2808448e8c77b75e0d0b3d94450e") false
    over (fun _ h => by cases h) (by kernel_rfl) (fun _ h => by cases h) fnExactPlayBand_row_tie rfl ⟨rfl, rfl⟩ (by kernel_rfl) rfl
    (fun f fn hf hfn => by
      obtain rfl : f = 5 := Option.some.inj ((show Tryz.prog.funcNamed "loop.example/g00894/laws.FnExactPlayBand" = some 5 by kernel_rfl).symm.trans hf) |>.symm
      obtain rfl : fn = Tryz.f5 := (Option.some.inj (Tryz.func5.symm.trans hfn)).symm
      exact ⟨by kernel_rfl, fun j t ht => by
        have hm : t ∈ Tryz.f5.params.toList := Array.mem_toList_iff.2 (Array.mem_of_getElem? ht)
        have hall : (Tryz.f5.params.toList.all fun u => !Tryz.prog.wantsStandIn u) = true := by kernel_rfl
        exact (show Tryz.prog.wantsStandIn t = false by simpa using List.all_eq_true.1 hall t hm)⟩)
    (by kernel_rfl)
end fnExactPlayBand
end Go.Proofs.YtbfhfnejppfehaaGreatDoor
