/-
  RowOfBand of the program returns what the reference's returns, for all arguments; the tied card.
-/
import Derived.Test.YtpedfjcidbopiaaDoorRowOfBand
import Derived.Test.YtpedfjcidbopiaaDoorOpenBand
import Derived.Test.YtpedfjcidbopiaaDoorFaRowOfBand
namespace Go.Proofs.YtpedfjcidbopiaaDoor
open Go.RowKit
set_option linter.unusedVariables false
set_option linter.unusedSimpArgs false
set_option maxRecDepth 100000

set_option maxHeartbeats 8000000 in
theorem rowOfBandLaw (w : World) (b : Bnd) (h : RdL w w.heap.size b.m.A 1 encString b.m.x) (hr : RdL w w.heap.size b.RA 2 Rgr.enc b.rx) (hf : b.Fits) (htab : Tab w) :
    Calls Tryd.prog 7 #[.agg #[.string b.m.name, .int .i64 b.m.stage, .slice b.m.A b.m.x.length b.m.c, .string b.bob, .string b.sing, .int .i64 b.step, .string b.call, .string b.tru, .slice b.RA b.rx.length b.rc]] w fun e w' => e = .returned (.bool true) ∧ Below w.heap.size w w' := by
  have H := Lib.hid h
  have Hr := Lib.hid hr
  have Hf := Lib.hid hf
  clear h hr hf
  have Htab := Lib.hid htab
  clear htab
  go_enter Tryd.func7, Tryd.ntmps7
  go_wp2_with fail
  have s_0_0 : (w.alloc (.cells #[.string b.m.name, .int .i64 b.m.stage, .slice b.m.A b.m.x.length b.m.c, .string b.bob, .string b.sing, .int .i64 b.step, .string b.call, .string b.tru, .slice b.RA b.rx.length b.rc] 58)).cell? ⟨w.heap.size, 0, none⟩ = some (.string b.m.name) := by simp [go_sem]
  have s_1_0 : (w.alloc (.cells #[.string b.m.name, .int .i64 b.m.stage, .slice b.m.A b.m.x.length b.m.c, .string b.bob, .string b.sing, .int .i64 b.step, .string b.call, .string b.tru, .slice b.RA b.rx.length b.rc] 58)).cell? ⟨w.heap.size, 1, none⟩ = some (.int .i64 b.m.stage) := by simp [go_sem]
  have s_2_0 : (w.alloc (.cells #[.string b.m.name, .int .i64 b.m.stage, .slice b.m.A b.m.x.length b.m.c, .string b.bob, .string b.sing, .int .i64 b.step, .string b.call, .string b.tru, .slice b.RA b.rx.length b.rc] 58)).cell? ⟨w.heap.size, 2, none⟩ = some (.slice b.m.A b.m.x.length b.m.c) := by simp [go_sem]
  have s_3_0 : (w.alloc (.cells #[.string b.m.name, .int .i64 b.m.stage, .slice b.m.A b.m.x.length b.m.c, .string b.bob, .string b.sing, .int .i64 b.step, .string b.call, .string b.tru, .slice b.RA b.rx.length b.rc] 58)).cell? ⟨w.heap.size, 3, none⟩ = some (.string b.bob) := by simp [go_sem]
  have s_4_0 : (w.alloc (.cells #[.string b.m.name, .int .i64 b.m.stage, .slice b.m.A b.m.x.length b.m.c, .string b.bob, .string b.sing, .int .i64 b.step, .string b.call, .string b.tru, .slice b.RA b.rx.length b.rc] 58)).cell? ⟨w.heap.size, 4, none⟩ = some (.string b.sing) := by simp [go_sem]
  have s_5_0 : (w.alloc (.cells #[.string b.m.name, .int .i64 b.m.stage, .slice b.m.A b.m.x.length b.m.c, .string b.bob, .string b.sing, .int .i64 b.step, .string b.call, .string b.tru, .slice b.RA b.rx.length b.rc] 58)).cell? ⟨w.heap.size, 5, none⟩ = some (.int .i64 b.step) := by simp [go_sem]
  have s_6_0 : (w.alloc (.cells #[.string b.m.name, .int .i64 b.m.stage, .slice b.m.A b.m.x.length b.m.c, .string b.bob, .string b.sing, .int .i64 b.step, .string b.call, .string b.tru, .slice b.RA b.rx.length b.rc] 58)).cell? ⟨w.heap.size, 6, none⟩ = some (.string b.call) := by simp [go_sem]
  have s_7_0 : (w.alloc (.cells #[.string b.m.name, .int .i64 b.m.stage, .slice b.m.A b.m.x.length b.m.c, .string b.bob, .string b.sing, .int .i64 b.step, .string b.call, .string b.tru, .slice b.RA b.rx.length b.rc] 58)).cell? ⟨w.heap.size, 7, none⟩ = some (.string b.tru) := by simp [go_sem]
  have s_8_0 : (w.alloc (.cells #[.string b.m.name, .int .i64 b.m.stage, .slice b.m.A b.m.x.length b.m.c, .string b.bob, .string b.sing, .int .i64 b.step, .string b.call, .string b.tru, .slice b.RA b.rx.length b.rc] 58)).cell? ⟨w.heap.size, 8, none⟩ = some (.slice b.RA b.rx.length b.rc) := by simp [go_sem]
  have t0 : w.heap.size + 1 ≤ (w.alloc (.cells #[.string b.m.name, .int .i64 b.m.stage, .slice b.m.A b.m.x.length b.m.c, .string b.bob, .string b.sing, .int .i64 b.step, .string b.call, .string b.tru, .slice b.RA b.rx.length b.rc] 58)).heap.size := by simp
  have Bw0 : Hid (Below w.heap.size w (w.alloc (.cells #[.string b.m.name, .int .i64 b.m.stage, .slice b.m.A b.m.x.length b.m.c, .string b.bob, .string b.sing, .int .i64 b.step, .string b.call, .string b.tru, .slice b.RA b.rx.length b.rc] 58))) := Lib.hid ((Below.refl _ _).alloc (Nat.le_refl _) _)
  generalize (w.alloc (.cells #[.string b.m.name, .int .i64 b.m.stage, .slice b.m.A b.m.x.length b.m.c, .string b.bob, .string b.sing, .int .i64 b.step, .string b.call, .string b.tru, .slice b.RA b.rx.length b.rc] 58)) = w0 at *
  refine (szBand_any b 1048576 w0 ((H.out.below Bw0.out (Nat.le_refl _)).more Bw0.out.size) Hf.out (by omega) (by omega)).mono ?_
  rintro e w1 ⟨r1, rfl, hz, hb⟩
  have C1 := Lib.hid hb
  clear hb
  have t1 := C1.out.size
  have Bw1 := Lib.hid (Bw0.out.trans (C1.out.mono Bw0.out.size))
  have s_0_1 := (C1.out.cell (p := ⟨w.heap.size, 0, none⟩) (show w.heap.size < w0.heap.size by omega)).trans s_0_0
  have s_1_1 := (C1.out.cell (p := ⟨w.heap.size, 1, none⟩) (show w.heap.size < w0.heap.size by omega)).trans s_1_0
  have s_2_1 := (C1.out.cell (p := ⟨w.heap.size, 2, none⟩) (show w.heap.size < w0.heap.size by omega)).trans s_2_0
  have s_3_1 := (C1.out.cell (p := ⟨w.heap.size, 3, none⟩) (show w.heap.size < w0.heap.size by omega)).trans s_3_0
  have s_4_1 := (C1.out.cell (p := ⟨w.heap.size, 4, none⟩) (show w.heap.size < w0.heap.size by omega)).trans s_4_0
  have s_5_1 := (C1.out.cell (p := ⟨w.heap.size, 5, none⟩) (show w.heap.size < w0.heap.size by omega)).trans s_5_0
  have s_6_1 := (C1.out.cell (p := ⟨w.heap.size, 6, none⟩) (show w.heap.size < w0.heap.size by omega)).trans s_6_0
  have s_7_1 := (C1.out.cell (p := ⟨w.heap.size, 7, none⟩) (show w.heap.size < w0.heap.size by omega)).trans s_7_0
  have s_8_1 := (C1.out.cell (p := ⟨w.heap.size, 8, none⟩) (show w.heap.size < w0.heap.size by omega)).trans s_8_0
  clear s_0_0 s_1_0 s_2_0 s_3_0 s_4_0 s_5_0 s_6_0 s_7_0 s_8_0
  have Z1 := Lib.hid hz
  clear hz
  by_cases n1 : r1 < 0
  · go_wp2_with fail
    go_ret
    exact ⟨rfl, Bw1.out⟩
  have z1 := Z1.out.resolve_left (by omega)
  have y1 : 0 ≤ r1 := z1.1
  have hsm := z1.2.2
  obtain ⟨m1, m2, m3, m4, m5, m6, m7, m8⟩ := hsm
  have M3 := Lib.hid m3
  clear z1 m3
  by_cases hp : bandP b
  · have HP := Lib.hid hp
    clear hp
    go_wp2_with fail
    refine (toBand_any b w1 ((H.out.below Bw1.out (Nat.le_refl _)).more Bw1.out.size) ((Hr.out.below Bw1.out (Nat.le_refl _)).more Bw1.out.size) (by omega) (by omega)).mono ?_
    rintro e w2 ⟨Aa2, Ar2, rfl, ho1, ho3, hb⟩
    have C2 := Lib.hid hb
    clear hb
    have t2 := C2.out.size
    have Bw2 := Lib.hid (Bw1.out.trans (C2.out.mono Bw1.out.size))
    have s_0_2 := (C2.out.cell (p := ⟨w.heap.size, 0, none⟩) (show w.heap.size < w1.heap.size by omega)).trans s_0_1
    have s_1_2 := (C2.out.cell (p := ⟨w.heap.size, 1, none⟩) (show w.heap.size < w1.heap.size by omega)).trans s_1_1
    have s_2_2 := (C2.out.cell (p := ⟨w.heap.size, 2, none⟩) (show w.heap.size < w1.heap.size by omega)).trans s_2_1
    have s_3_2 := (C2.out.cell (p := ⟨w.heap.size, 3, none⟩) (show w.heap.size < w1.heap.size by omega)).trans s_3_1
    have s_4_2 := (C2.out.cell (p := ⟨w.heap.size, 4, none⟩) (show w.heap.size < w1.heap.size by omega)).trans s_4_1
    have s_5_2 := (C2.out.cell (p := ⟨w.heap.size, 5, none⟩) (show w.heap.size < w1.heap.size by omega)).trans s_5_1
    have s_6_2 := (C2.out.cell (p := ⟨w.heap.size, 6, none⟩) (show w.heap.size < w1.heap.size by omega)).trans s_6_1
    have s_7_2 := (C2.out.cell (p := ⟨w.heap.size, 7, none⟩) (show w.heap.size < w1.heap.size by omega)).trans s_7_1
    have s_8_2 := (C2.out.cell (p := ⟨w.heap.size, 8, none⟩) (show w.heap.size < w1.heap.size by omega)).trans s_8_1
    clear s_0_1 s_1_1 s_2_1 s_3_1 s_4_1 s_5_1 s_6_1 s_7_1 s_8_1
    have ok2 : Bnd.Ok ⟨⟨b.m.name, b.m.stage, b.m.x, Aa2, b.m.x.length⟩, b.bob, b.sing, b.step, b.call, b.tru, b.rx, Ar2, b.rx.length⟩ w2 := ⟨ho1.rd encString_len, ho3.rd Rgr_enc_len, by simp only; omega, by simp only; omega, M3.out, by simp only; omega, by simp only; omega, by simp only; omega, by simp only; omega, by simp only; omega⟩
    have OK2 := Lib.hid ok2
    clear ok2 ho1 ho3
    go_wp2_with fail
    refine (sRowOfBand_t ⟨⟨b.m.name, b.m.stage, b.m.x, Aa2, b.m.x.length⟩, b.bob, b.sing, b.step, b.call, b.tru, b.rx, Ar2, b.rx.length⟩ _ OK2.out HP.out (Htab.out.later Bw2.out)).mono ?_
    rintro e w3 ⟨rfl, hb⟩
    have C3 := Lib.hid hb
    clear hb
    have t3 := C3.out.size
    have Bw3 := Lib.hid (Bw2.out.trans (C3.out.mono Bw2.out.size))
    have s_0_3 := (C3.out.cell (p := ⟨w.heap.size, 0, none⟩) (show w.heap.size < w2.heap.size by omega)).trans s_0_2
    have s_1_3 := (C3.out.cell (p := ⟨w.heap.size, 1, none⟩) (show w.heap.size < w2.heap.size by omega)).trans s_1_2
    have s_2_3 := (C3.out.cell (p := ⟨w.heap.size, 2, none⟩) (show w.heap.size < w2.heap.size by omega)).trans s_2_2
    have s_3_3 := (C3.out.cell (p := ⟨w.heap.size, 3, none⟩) (show w.heap.size < w2.heap.size by omega)).trans s_3_2
    have s_4_3 := (C3.out.cell (p := ⟨w.heap.size, 4, none⟩) (show w.heap.size < w2.heap.size by omega)).trans s_4_2
    have s_5_3 := (C3.out.cell (p := ⟨w.heap.size, 5, none⟩) (show w.heap.size < w2.heap.size by omega)).trans s_5_2
    have s_6_3 := (C3.out.cell (p := ⟨w.heap.size, 6, none⟩) (show w.heap.size < w2.heap.size by omega)).trans s_6_2
    have s_7_3 := (C3.out.cell (p := ⟨w.heap.size, 7, none⟩) (show w.heap.size < w2.heap.size by omega)).trans s_7_2
    have s_8_3 := (C3.out.cell (p := ⟨w.heap.size, 8, none⟩) (show w.heap.size < w2.heap.size by omega)).trans s_8_2
    clear s_0_2 s_1_2 s_2_2 s_3_2 s_4_2 s_5_2 s_6_2 s_7_2 s_8_2
    go_wp2_with fail
    refine (toBandS_any b w3 ((H.out.below Bw3.out (Nat.le_refl _)).more Bw3.out.size) ((Hr.out.below Bw3.out (Nat.le_refl _)).more Bw3.out.size) (by omega) (by omega)).mono ?_
    rintro e w4 ⟨Ax, Rx, gsx, rfl, hgx1, hgx2, ho1, ho3, hb⟩
    have C4 := Lib.hid hb
    clear hb
    have t4 := C4.out.size
    have Bw4 := Lib.hid (Bw3.out.trans (C4.out.mono Bw3.out.size))
    have s_0_4 := (C4.out.cell (p := ⟨w.heap.size, 0, none⟩) (show w.heap.size < w3.heap.size by omega)).trans s_0_3
    have s_1_4 := (C4.out.cell (p := ⟨w.heap.size, 1, none⟩) (show w.heap.size < w3.heap.size by omega)).trans s_1_3
    have s_2_4 := (C4.out.cell (p := ⟨w.heap.size, 2, none⟩) (show w.heap.size < w3.heap.size by omega)).trans s_2_3
    have s_3_4 := (C4.out.cell (p := ⟨w.heap.size, 3, none⟩) (show w.heap.size < w3.heap.size by omega)).trans s_3_3
    have s_4_4 := (C4.out.cell (p := ⟨w.heap.size, 4, none⟩) (show w.heap.size < w3.heap.size by omega)).trans s_4_3
    have s_5_4 := (C4.out.cell (p := ⟨w.heap.size, 5, none⟩) (show w.heap.size < w3.heap.size by omega)).trans s_5_3
    have s_6_4 := (C4.out.cell (p := ⟨w.heap.size, 6, none⟩) (show w.heap.size < w3.heap.size by omega)).trans s_6_3
    have s_7_4 := (C4.out.cell (p := ⟨w.heap.size, 7, none⟩) (show w.heap.size < w3.heap.size by omega)).trans s_7_3
    have s_8_4 := (C4.out.cell (p := ⟨w.heap.size, 8, none⟩) (show w.heap.size < w3.heap.size by omega)).trans s_8_3
    clear s_0_3 s_1_3 s_2_3 s_3_3 s_4_3 s_5_3 s_6_3 s_7_3 s_8_3
    have O_x0_a_4 := Lib.hid ho1
    have O_x0_r_4 := Lib.hid ho3
    clear ho1 ho3
    go_wp2_with fail
    have x_0_5 : (w4.alloc (.cells #[.string b.m.name, .int .i64 b.m.stage, .slice Ax b.m.x.length b.m.x.length, .string b.bob, .string b.sing, .int .i64 b.step, .string b.call, .string b.tru, .slice Rx b.rx.length b.rx.length] 65)).cell? ⟨w4.heap.size, 0, none⟩ = some (.string b.m.name) := by simp [go_sem]
    have x_1_5 : (w4.alloc (.cells #[.string b.m.name, .int .i64 b.m.stage, .slice Ax b.m.x.length b.m.x.length, .string b.bob, .string b.sing, .int .i64 b.step, .string b.call, .string b.tru, .slice Rx b.rx.length b.rx.length] 65)).cell? ⟨w4.heap.size, 1, none⟩ = some (.int .i64 b.m.stage) := by simp [go_sem]
    have x_2_5 : (w4.alloc (.cells #[.string b.m.name, .int .i64 b.m.stage, .slice Ax b.m.x.length b.m.x.length, .string b.bob, .string b.sing, .int .i64 b.step, .string b.call, .string b.tru, .slice Rx b.rx.length b.rx.length] 65)).cell? ⟨w4.heap.size, 2, none⟩ = some (.slice Ax b.m.x.length b.m.x.length) := by simp [go_sem]
    have x_3_5 : (w4.alloc (.cells #[.string b.m.name, .int .i64 b.m.stage, .slice Ax b.m.x.length b.m.x.length, .string b.bob, .string b.sing, .int .i64 b.step, .string b.call, .string b.tru, .slice Rx b.rx.length b.rx.length] 65)).cell? ⟨w4.heap.size, 3, none⟩ = some (.string b.bob) := by simp [go_sem]
    have x_4_5 : (w4.alloc (.cells #[.string b.m.name, .int .i64 b.m.stage, .slice Ax b.m.x.length b.m.x.length, .string b.bob, .string b.sing, .int .i64 b.step, .string b.call, .string b.tru, .slice Rx b.rx.length b.rx.length] 65)).cell? ⟨w4.heap.size, 4, none⟩ = some (.string b.sing) := by simp [go_sem]
    have x_5_5 : (w4.alloc (.cells #[.string b.m.name, .int .i64 b.m.stage, .slice Ax b.m.x.length b.m.x.length, .string b.bob, .string b.sing, .int .i64 b.step, .string b.call, .string b.tru, .slice Rx b.rx.length b.rx.length] 65)).cell? ⟨w4.heap.size, 5, none⟩ = some (.int .i64 b.step) := by simp [go_sem]
    have x_6_5 : (w4.alloc (.cells #[.string b.m.name, .int .i64 b.m.stage, .slice Ax b.m.x.length b.m.x.length, .string b.bob, .string b.sing, .int .i64 b.step, .string b.call, .string b.tru, .slice Rx b.rx.length b.rx.length] 65)).cell? ⟨w4.heap.size, 6, none⟩ = some (.string b.call) := by simp [go_sem]
    have x_7_5 : (w4.alloc (.cells #[.string b.m.name, .int .i64 b.m.stage, .slice Ax b.m.x.length b.m.x.length, .string b.bob, .string b.sing, .int .i64 b.step, .string b.call, .string b.tru, .slice Rx b.rx.length b.rx.length] 65)).cell? ⟨w4.heap.size, 7, none⟩ = some (.string b.tru) := by simp [go_sem]
    have x_8_5 : (w4.alloc (.cells #[.string b.m.name, .int .i64 b.m.stage, .slice Ax b.m.x.length b.m.x.length, .string b.bob, .string b.sing, .int .i64 b.step, .string b.call, .string b.tru, .slice Rx b.rx.length b.rx.length] 65)).cell? ⟨w4.heap.size, 8, none⟩ = some (.slice Rx b.rx.length b.rx.length) := by simp [go_sem]
    have t5 : w4.heap.size + 1 ≤ (w4.alloc (.cells #[.string b.m.name, .int .i64 b.m.stage, .slice Ax b.m.x.length b.m.x.length, .string b.bob, .string b.sing, .int .i64 b.step, .string b.call, .string b.tru, .slice Rx b.rx.length b.rx.length] 65)).heap.size := by simp
    have C5 : Hid (Below w4.heap.size w4 (w4.alloc (.cells #[.string b.m.name, .int .i64 b.m.stage, .slice Ax b.m.x.length b.m.x.length, .string b.bob, .string b.sing, .int .i64 b.step, .string b.call, .string b.tru, .slice Rx b.rx.length b.rx.length] 65))) := Lib.hid ((Below.refl _ _).alloc (Nat.le_refl _) _)
    generalize (w4.alloc (.cells #[.string b.m.name, .int .i64 b.m.stage, .slice Ax b.m.x.length b.m.x.length, .string b.bob, .string b.sing, .int .i64 b.step, .string b.call, .string b.tru, .slice Rx b.rx.length b.rx.length] 65)) = w5 at *
    have Bw5 := Lib.hid (Bw4.out.trans (C5.out.mono Bw4.out.size))
    have s_0_5 := (C5.out.cell (p := ⟨w.heap.size, 0, none⟩) (show w.heap.size < w4.heap.size by omega)).trans s_0_4
    have s_1_5 := (C5.out.cell (p := ⟨w.heap.size, 1, none⟩) (show w.heap.size < w4.heap.size by omega)).trans s_1_4
    have s_2_5 := (C5.out.cell (p := ⟨w.heap.size, 2, none⟩) (show w.heap.size < w4.heap.size by omega)).trans s_2_4
    have s_3_5 := (C5.out.cell (p := ⟨w.heap.size, 3, none⟩) (show w.heap.size < w4.heap.size by omega)).trans s_3_4
    have s_4_5 := (C5.out.cell (p := ⟨w.heap.size, 4, none⟩) (show w.heap.size < w4.heap.size by omega)).trans s_4_4
    have s_5_5 := (C5.out.cell (p := ⟨w.heap.size, 5, none⟩) (show w.heap.size < w4.heap.size by omega)).trans s_5_4
    have s_6_5 := (C5.out.cell (p := ⟨w.heap.size, 6, none⟩) (show w.heap.size < w4.heap.size by omega)).trans s_6_4
    have s_7_5 := (C5.out.cell (p := ⟨w.heap.size, 7, none⟩) (show w.heap.size < w4.heap.size by omega)).trans s_7_4
    have s_8_5 := (C5.out.cell (p := ⟨w.heap.size, 8, none⟩) (show w.heap.size < w4.heap.size by omega)).trans s_8_4
    clear s_0_4 s_1_4 s_2_4 s_3_4 s_4_4 s_5_4 s_6_4 s_7_4 s_8_4
    have O_x0_a_5 := Lib.hid (O_x0_a_4.out.later C5.out)
    clear O_x0_a_4
    have O_x0_r_5 := Lib.hid (O_x0_r_4.out.later C5.out)
    clear O_x0_r_4
    have ok5 : Bnd.Ok ⟨⟨b.m.name, b.m.stage, b.m.x, Ax, b.m.x.length⟩, b.bob, b.sing, b.step, b.call, b.tru, b.rx, Rx, b.rx.length⟩ w5 := ⟨O_x0_a_5.out.rd encString_len, O_x0_r_5.out.rd Rgr_enc_len, by simp only; omega, by simp only; omega, M3.out, by simp only; omega, by simp only; omega, by simp only; omega, by simp only; omega, by simp only; omega⟩
    have OK5 := Lib.hid ok5
    clear ok5
    go_wp2_with fail
    refine (iRowOfBand_t ⟨⟨b.m.name, b.m.stage, b.m.x, Ax, b.m.x.length⟩, b.bob, b.sing, b.step, b.call, b.tru, b.rx, Rx, b.rx.length⟩ _ OK5.out HP.out (Htab.out.later Bw5.out)).mono ?_
    rintro e w6 ⟨rfl, hb⟩
    have C6 := Lib.hid hb
    clear hb
    have t6 := C6.out.size
    have Bw6 := Lib.hid (Bw5.out.trans (C6.out.mono Bw5.out.size))
    have s_0_6 := (C6.out.cell (p := ⟨w.heap.size, 0, none⟩) (show w.heap.size < w5.heap.size by omega)).trans s_0_5
    have s_1_6 := (C6.out.cell (p := ⟨w.heap.size, 1, none⟩) (show w.heap.size < w5.heap.size by omega)).trans s_1_5
    have s_2_6 := (C6.out.cell (p := ⟨w.heap.size, 2, none⟩) (show w.heap.size < w5.heap.size by omega)).trans s_2_5
    have s_3_6 := (C6.out.cell (p := ⟨w.heap.size, 3, none⟩) (show w.heap.size < w5.heap.size by omega)).trans s_3_5
    have s_4_6 := (C6.out.cell (p := ⟨w.heap.size, 4, none⟩) (show w.heap.size < w5.heap.size by omega)).trans s_4_5
    have s_5_6 := (C6.out.cell (p := ⟨w.heap.size, 5, none⟩) (show w.heap.size < w5.heap.size by omega)).trans s_5_5
    have s_6_6 := (C6.out.cell (p := ⟨w.heap.size, 6, none⟩) (show w.heap.size < w5.heap.size by omega)).trans s_6_5
    have s_7_6 := (C6.out.cell (p := ⟨w.heap.size, 7, none⟩) (show w.heap.size < w5.heap.size by omega)).trans s_7_5
    have s_8_6 := (C6.out.cell (p := ⟨w.heap.size, 8, none⟩) (show w.heap.size < w5.heap.size by omega)).trans s_8_5
    clear s_0_5 s_1_5 s_2_5 s_3_5 s_4_5 s_5_5 s_6_5 s_7_5 s_8_5
    have x_0_6 := (C6.out.cell (p := ⟨w4.heap.size, 0, none⟩) (show w4.heap.size < w5.heap.size by omega)).trans x_0_5
    have x_1_6 := (C6.out.cell (p := ⟨w4.heap.size, 1, none⟩) (show w4.heap.size < w5.heap.size by omega)).trans x_1_5
    have x_2_6 := (C6.out.cell (p := ⟨w4.heap.size, 2, none⟩) (show w4.heap.size < w5.heap.size by omega)).trans x_2_5
    have x_3_6 := (C6.out.cell (p := ⟨w4.heap.size, 3, none⟩) (show w4.heap.size < w5.heap.size by omega)).trans x_3_5
    have x_4_6 := (C6.out.cell (p := ⟨w4.heap.size, 4, none⟩) (show w4.heap.size < w5.heap.size by omega)).trans x_4_5
    have x_5_6 := (C6.out.cell (p := ⟨w4.heap.size, 5, none⟩) (show w4.heap.size < w5.heap.size by omega)).trans x_5_5
    have x_6_6 := (C6.out.cell (p := ⟨w4.heap.size, 6, none⟩) (show w4.heap.size < w5.heap.size by omega)).trans x_6_5
    have x_7_6 := (C6.out.cell (p := ⟨w4.heap.size, 7, none⟩) (show w4.heap.size < w5.heap.size by omega)).trans x_7_5
    have x_8_6 := (C6.out.cell (p := ⟨w4.heap.size, 8, none⟩) (show w4.heap.size < w5.heap.size by omega)).trans x_8_5
    clear x_0_5 x_1_5 x_2_5 x_3_5 x_4_5 x_5_5 x_6_5 x_7_5 x_8_5
    have O_x0_a_6 := Lib.hid (O_x0_a_5.out.later C6.out)
    clear O_x0_a_5
    have O_x0_r_6 := Lib.hid (O_x0_r_5.out.later C6.out)
    clear O_x0_r_5
    go_wp2_with fail
    go_region_held3 (fun w' => w'.cell? ⟨w4.heap.size, 0, none⟩ = some (.string b.m.name) ∧ w'.cell? ⟨w4.heap.size, 1, none⟩ = some (.int .i64 b.m.stage) ∧ w'.cell? ⟨w4.heap.size, 2, none⟩ = some (.slice Ax b.m.x.length b.m.x.length) ∧ w'.cell? ⟨w4.heap.size, 3, none⟩ = some (.string b.bob) ∧ w'.cell? ⟨w4.heap.size, 4, none⟩ = some (.string b.sing) ∧ w'.cell? ⟨w4.heap.size, 5, none⟩ = some (.int .i64 b.step) ∧ w'.cell? ⟨w4.heap.size, 6, none⟩ = some (.string b.call) ∧ w'.cell? ⟨w4.heap.size, 7, none⟩ = some (.string b.tru) ∧ w'.cell? ⟨w4.heap.size, 8, none⟩ = some (.slice Rx b.rx.length b.rx.length) ∧ w'.cell? ⟨w.heap.size, 0, none⟩ = some (.string b.m.name) ∧ w'.cell? ⟨w.heap.size, 1, none⟩ = some (.int .i64 b.m.stage) ∧ w'.cell? ⟨w.heap.size, 2, none⟩ = some (.slice b.m.A b.m.x.length b.m.c) ∧ w'.cell? ⟨w.heap.size, 3, none⟩ = some (.string b.bob) ∧ w'.cell? ⟨w.heap.size, 4, none⟩ = some (.string b.sing) ∧ w'.cell? ⟨w.heap.size, 5, none⟩ = some (.int .i64 b.step) ∧ w'.cell? ⟨w.heap.size, 6, none⟩ = some (.string b.call) ∧ w'.cell? ⟨w.heap.size, 7, none⟩ = some (.string b.tru) ∧ w'.cell? ⟨w.heap.size, 8, none⟩ = some (.slice b.RA b.rx.length b.rc)) (first | exact ⟨x_0_6, x_1_6, x_2_6, x_3_6, x_4_6, x_5_6, x_6_6, x_7_6, x_8_6, s_0_6, s_1_6, s_2_6, s_3_6, s_4_6, s_5_6, s_6_6, s_7_6, s_8_6⟩ | exact ⟨yx_0, yx_1, yx_2, yx_3, yx_4, yx_5, yx_6, yx_7, yx_8, ys_0, ys_1, ys_2, ys_3, ys_4, ys_5, ys_6, ys_7, ys_8⟩ | exact ⟨zx_0, zx_1, zx_2, zx_3, zx_4, zx_5, zx_6, zx_7, zx_8, zs_0, zs_1, zs_2, zs_3, zs_4, zs_5, zs_6, zs_7, zs_8⟩ | go_keep) (first | (go_at_call 32; refine (toBand_any b _ (show RdL w6.drew w6.drew.heap.size b.m.A 1 encString b.m.x from ((H.out.below Bw6.out (Nat.le_refl _)).more Bw6.out.size)) (show RdL w6.drew w6.drew.heap.size b.RA 2 Rgr.enc b.rx from ((Hr.out.below Bw6.out (Nat.le_refl _)).more Bw6.out.size)) (by omega) (by omega)).mono ?_; rintro e wa ⟨Ay, Ry, rfl, hq1, hq3, hba⟩; have yx_0 : wa.cell? ⟨w4.heap.size, 0, none⟩ = some (.string b.m.name) := (hba.cell (p := ⟨w4.heap.size, 0, none⟩) (show w4.heap.size < w6.heap.size by omega)).trans x_0_6; have yx_1 : wa.cell? ⟨w4.heap.size, 1, none⟩ = some (.int .i64 b.m.stage) := (hba.cell (p := ⟨w4.heap.size, 1, none⟩) (show w4.heap.size < w6.heap.size by omega)).trans x_1_6; have yx_2 : wa.cell? ⟨w4.heap.size, 2, none⟩ = some (.slice Ax b.m.x.length b.m.x.length) := (hba.cell (p := ⟨w4.heap.size, 2, none⟩) (show w4.heap.size < w6.heap.size by omega)).trans x_2_6; have yx_3 : wa.cell? ⟨w4.heap.size, 3, none⟩ = some (.string b.bob) := (hba.cell (p := ⟨w4.heap.size, 3, none⟩) (show w4.heap.size < w6.heap.size by omega)).trans x_3_6; have yx_4 : wa.cell? ⟨w4.heap.size, 4, none⟩ = some (.string b.sing) := (hba.cell (p := ⟨w4.heap.size, 4, none⟩) (show w4.heap.size < w6.heap.size by omega)).trans x_4_6; have yx_5 : wa.cell? ⟨w4.heap.size, 5, none⟩ = some (.int .i64 b.step) := (hba.cell (p := ⟨w4.heap.size, 5, none⟩) (show w4.heap.size < w6.heap.size by omega)).trans x_5_6; have yx_6 : wa.cell? ⟨w4.heap.size, 6, none⟩ = some (.string b.call) := (hba.cell (p := ⟨w4.heap.size, 6, none⟩) (show w4.heap.size < w6.heap.size by omega)).trans x_6_6; have yx_7 : wa.cell? ⟨w4.heap.size, 7, none⟩ = some (.string b.tru) := (hba.cell (p := ⟨w4.heap.size, 7, none⟩) (show w4.heap.size < w6.heap.size by omega)).trans x_7_6; have yx_8 : wa.cell? ⟨w4.heap.size, 8, none⟩ = some (.slice Rx b.rx.length b.rx.length) := (hba.cell (p := ⟨w4.heap.size, 8, none⟩) (show w4.heap.size < w6.heap.size by omega)).trans x_8_6; have ys_0 : wa.cell? ⟨w.heap.size, 0, none⟩ = some (.string b.m.name) := (hba.cell (p := ⟨w.heap.size, 0, none⟩) (show w.heap.size < w6.heap.size by omega)).trans s_0_6; have ys_1 : wa.cell? ⟨w.heap.size, 1, none⟩ = some (.int .i64 b.m.stage) := (hba.cell (p := ⟨w.heap.size, 1, none⟩) (show w.heap.size < w6.heap.size by omega)).trans s_1_6; have ys_2 : wa.cell? ⟨w.heap.size, 2, none⟩ = some (.slice b.m.A b.m.x.length b.m.c) := (hba.cell (p := ⟨w.heap.size, 2, none⟩) (show w.heap.size < w6.heap.size by omega)).trans s_2_6; have ys_3 : wa.cell? ⟨w.heap.size, 3, none⟩ = some (.string b.bob) := (hba.cell (p := ⟨w.heap.size, 3, none⟩) (show w.heap.size < w6.heap.size by omega)).trans s_3_6; have ys_4 : wa.cell? ⟨w.heap.size, 4, none⟩ = some (.string b.sing) := (hba.cell (p := ⟨w.heap.size, 4, none⟩) (show w.heap.size < w6.heap.size by omega)).trans s_4_6; have ys_5 : wa.cell? ⟨w.heap.size, 5, none⟩ = some (.int .i64 b.step) := (hba.cell (p := ⟨w.heap.size, 5, none⟩) (show w.heap.size < w6.heap.size by omega)).trans s_5_6; have ys_6 : wa.cell? ⟨w.heap.size, 6, none⟩ = some (.string b.call) := (hba.cell (p := ⟨w.heap.size, 6, none⟩) (show w.heap.size < w6.heap.size by omega)).trans s_6_6; have ys_7 : wa.cell? ⟨w.heap.size, 7, none⟩ = some (.string b.tru) := (hba.cell (p := ⟨w.heap.size, 7, none⟩) (show w.heap.size < w6.heap.size by omega)).trans s_7_6; have ys_8 : wa.cell? ⟨w.heap.size, 8, none⟩ = some (.slice b.RA b.rx.length b.rc) := (hba.cell (p := ⟨w.heap.size, 8, none⟩) (show w.heap.size < w6.heap.size by omega)).trans s_8_6; have HBa : Hid (Below w6.heap.size w6 wa) := Lib.hid ((Below.refl _ _).drew.trans hba); have Hq1 := Lib.hid hq1; have Hq3 := Lib.hid hq3; have Hq5 := Lib.hid (O_x0_a_6.out.later HBa.out); have Hq7 := Lib.hid (O_x0_r_6.out.later HBa.out); clear hq1 hq3 hba) | (go_at_call 34; refine (eqBand_t ⟨⟨b.m.name, b.m.stage, b.m.x, Ax, b.m.x.length⟩, b.bob, b.sing, b.step, b.call, b.tru, b.rx, Rx, b.rx.length⟩ Ay Ry b.m.x.length b.rx.length wa (Hq5.out.rd encString_len) (Hq1.out.rd encString_len) (Hq7.out.rd Rgr_enc_len) (Hq3.out.rd Rgr_enc_len) (by simp only; omega) (by simp only; omega)).mono ?_; rintro e w7 ⟨rfl, hbb⟩; have hya := HBa.out.size; have zx_0 : w7.cell? ⟨w4.heap.size, 0, none⟩ = some (.string b.m.name) := (hbb.cell (p := ⟨w4.heap.size, 0, none⟩) (show w4.heap.size < wa.heap.size by omega)).trans yx_0; have zx_1 : w7.cell? ⟨w4.heap.size, 1, none⟩ = some (.int .i64 b.m.stage) := (hbb.cell (p := ⟨w4.heap.size, 1, none⟩) (show w4.heap.size < wa.heap.size by omega)).trans yx_1; have zx_2 : w7.cell? ⟨w4.heap.size, 2, none⟩ = some (.slice Ax b.m.x.length b.m.x.length) := (hbb.cell (p := ⟨w4.heap.size, 2, none⟩) (show w4.heap.size < wa.heap.size by omega)).trans yx_2; have zx_3 : w7.cell? ⟨w4.heap.size, 3, none⟩ = some (.string b.bob) := (hbb.cell (p := ⟨w4.heap.size, 3, none⟩) (show w4.heap.size < wa.heap.size by omega)).trans yx_3; have zx_4 : w7.cell? ⟨w4.heap.size, 4, none⟩ = some (.string b.sing) := (hbb.cell (p := ⟨w4.heap.size, 4, none⟩) (show w4.heap.size < wa.heap.size by omega)).trans yx_4; have zx_5 : w7.cell? ⟨w4.heap.size, 5, none⟩ = some (.int .i64 b.step) := (hbb.cell (p := ⟨w4.heap.size, 5, none⟩) (show w4.heap.size < wa.heap.size by omega)).trans yx_5; have zx_6 : w7.cell? ⟨w4.heap.size, 6, none⟩ = some (.string b.call) := (hbb.cell (p := ⟨w4.heap.size, 6, none⟩) (show w4.heap.size < wa.heap.size by omega)).trans yx_6; have zx_7 : w7.cell? ⟨w4.heap.size, 7, none⟩ = some (.string b.tru) := (hbb.cell (p := ⟨w4.heap.size, 7, none⟩) (show w4.heap.size < wa.heap.size by omega)).trans yx_7; have zx_8 : w7.cell? ⟨w4.heap.size, 8, none⟩ = some (.slice Rx b.rx.length b.rx.length) := (hbb.cell (p := ⟨w4.heap.size, 8, none⟩) (show w4.heap.size < wa.heap.size by omega)).trans yx_8; have zs_0 : w7.cell? ⟨w.heap.size, 0, none⟩ = some (.string b.m.name) := (hbb.cell (p := ⟨w.heap.size, 0, none⟩) (show w.heap.size < wa.heap.size by omega)).trans ys_0; have zs_1 : w7.cell? ⟨w.heap.size, 1, none⟩ = some (.int .i64 b.m.stage) := (hbb.cell (p := ⟨w.heap.size, 1, none⟩) (show w.heap.size < wa.heap.size by omega)).trans ys_1; have zs_2 : w7.cell? ⟨w.heap.size, 2, none⟩ = some (.slice b.m.A b.m.x.length b.m.c) := (hbb.cell (p := ⟨w.heap.size, 2, none⟩) (show w.heap.size < wa.heap.size by omega)).trans ys_2; have zs_3 : w7.cell? ⟨w.heap.size, 3, none⟩ = some (.string b.bob) := (hbb.cell (p := ⟨w.heap.size, 3, none⟩) (show w.heap.size < wa.heap.size by omega)).trans ys_3; have zs_4 : w7.cell? ⟨w.heap.size, 4, none⟩ = some (.string b.sing) := (hbb.cell (p := ⟨w.heap.size, 4, none⟩) (show w.heap.size < wa.heap.size by omega)).trans ys_4; have zs_5 : w7.cell? ⟨w.heap.size, 5, none⟩ = some (.int .i64 b.step) := (hbb.cell (p := ⟨w.heap.size, 5, none⟩) (show w.heap.size < wa.heap.size by omega)).trans ys_5; have zs_6 : w7.cell? ⟨w.heap.size, 6, none⟩ = some (.string b.call) := (hbb.cell (p := ⟨w.heap.size, 6, none⟩) (show w.heap.size < wa.heap.size by omega)).trans ys_6; have zs_7 : w7.cell? ⟨w.heap.size, 7, none⟩ = some (.string b.tru) := (hbb.cell (p := ⟨w.heap.size, 7, none⟩) (show w.heap.size < wa.heap.size by omega)).trans ys_7; have zs_8 : w7.cell? ⟨w.heap.size, 8, none⟩ = some (.slice b.RA b.rx.length b.rc) := (hbb.cell (p := ⟨w.heap.size, 8, none⟩) (show w.heap.size < wa.heap.size by omega)).trans ys_8))
    have hb : Below w6.heap.size w6 w7 := HBa.out.trans (hbb.mono HBa.out.size)
    clear hbb yx_0 ys_0 zx_0 zs_0 yx_1 ys_1 zx_1 zs_1 yx_2 ys_2 zx_2 zs_2 yx_3 ys_3 zx_3 zs_3 yx_4 ys_4 zx_4 zs_4 yx_5 ys_5 zx_5 zs_5 yx_6 ys_6 zx_6 zs_6 yx_7 ys_7 zx_7 zs_7 yx_8 ys_8 zx_8 zs_8
    have C7 := Lib.hid hb
    clear hb
    have t7 := C7.out.size
    have Bw7 := Lib.hid (Bw6.out.trans (C7.out.mono Bw6.out.size))
    have s_0_7 := (C7.out.cell (p := ⟨w.heap.size, 0, none⟩) (show w.heap.size < w6.heap.size by omega)).trans s_0_6
    have s_1_7 := (C7.out.cell (p := ⟨w.heap.size, 1, none⟩) (show w.heap.size < w6.heap.size by omega)).trans s_1_6
    have s_2_7 := (C7.out.cell (p := ⟨w.heap.size, 2, none⟩) (show w.heap.size < w6.heap.size by omega)).trans s_2_6
    have s_3_7 := (C7.out.cell (p := ⟨w.heap.size, 3, none⟩) (show w.heap.size < w6.heap.size by omega)).trans s_3_6
    have s_4_7 := (C7.out.cell (p := ⟨w.heap.size, 4, none⟩) (show w.heap.size < w6.heap.size by omega)).trans s_4_6
    have s_5_7 := (C7.out.cell (p := ⟨w.heap.size, 5, none⟩) (show w.heap.size < w6.heap.size by omega)).trans s_5_6
    have s_6_7 := (C7.out.cell (p := ⟨w.heap.size, 6, none⟩) (show w.heap.size < w6.heap.size by omega)).trans s_6_6
    have s_7_7 := (C7.out.cell (p := ⟨w.heap.size, 7, none⟩) (show w.heap.size < w6.heap.size by omega)).trans s_7_6
    have s_8_7 := (C7.out.cell (p := ⟨w.heap.size, 8, none⟩) (show w.heap.size < w6.heap.size by omega)).trans s_8_6
    clear s_0_6 s_1_6 s_2_6 s_3_6 s_4_6 s_5_6 s_6_6 s_7_6 s_8_6
    have x_0_7 := (C7.out.cell (p := ⟨w4.heap.size, 0, none⟩) (show w4.heap.size < w6.heap.size by omega)).trans x_0_6
    have x_1_7 := (C7.out.cell (p := ⟨w4.heap.size, 1, none⟩) (show w4.heap.size < w6.heap.size by omega)).trans x_1_6
    have x_2_7 := (C7.out.cell (p := ⟨w4.heap.size, 2, none⟩) (show w4.heap.size < w6.heap.size by omega)).trans x_2_6
    have x_3_7 := (C7.out.cell (p := ⟨w4.heap.size, 3, none⟩) (show w4.heap.size < w6.heap.size by omega)).trans x_3_6
    have x_4_7 := (C7.out.cell (p := ⟨w4.heap.size, 4, none⟩) (show w4.heap.size < w6.heap.size by omega)).trans x_4_6
    have x_5_7 := (C7.out.cell (p := ⟨w4.heap.size, 5, none⟩) (show w4.heap.size < w6.heap.size by omega)).trans x_5_6
    have x_6_7 := (C7.out.cell (p := ⟨w4.heap.size, 6, none⟩) (show w4.heap.size < w6.heap.size by omega)).trans x_6_6
    have x_7_7 := (C7.out.cell (p := ⟨w4.heap.size, 7, none⟩) (show w4.heap.size < w6.heap.size by omega)).trans x_7_6
    have x_8_7 := (C7.out.cell (p := ⟨w4.heap.size, 8, none⟩) (show w4.heap.size < w6.heap.size by omega)).trans x_8_6
    clear x_0_6 x_1_6 x_2_6 x_3_6 x_4_6 x_5_6 x_6_6 x_7_6 x_8_6
    go_wp2_with fail
    go_ret
    exact ⟨rfl, Bw7.out⟩
  · have HP := Lib.hid hp
    clear hp
    go_wp2_with fail
    refine (toBand_any b w1 ((H.out.below Bw1.out (Nat.le_refl _)).more Bw1.out.size) ((Hr.out.below Bw1.out (Nat.le_refl _)).more Bw1.out.size) (by omega) (by omega)).mono ?_
    rintro e w2 ⟨Aa2, Ar2, rfl, ho1, ho3, hb⟩
    have C2 := Lib.hid hb
    clear hb
    have t2 := C2.out.size
    have Bw2 := Lib.hid (Bw1.out.trans (C2.out.mono Bw1.out.size))
    have s_0_2 := (C2.out.cell (p := ⟨w.heap.size, 0, none⟩) (show w.heap.size < w1.heap.size by omega)).trans s_0_1
    have s_1_2 := (C2.out.cell (p := ⟨w.heap.size, 1, none⟩) (show w.heap.size < w1.heap.size by omega)).trans s_1_1
    have s_2_2 := (C2.out.cell (p := ⟨w.heap.size, 2, none⟩) (show w.heap.size < w1.heap.size by omega)).trans s_2_1
    have s_3_2 := (C2.out.cell (p := ⟨w.heap.size, 3, none⟩) (show w.heap.size < w1.heap.size by omega)).trans s_3_1
    have s_4_2 := (C2.out.cell (p := ⟨w.heap.size, 4, none⟩) (show w.heap.size < w1.heap.size by omega)).trans s_4_1
    have s_5_2 := (C2.out.cell (p := ⟨w.heap.size, 5, none⟩) (show w.heap.size < w1.heap.size by omega)).trans s_5_1
    have s_6_2 := (C2.out.cell (p := ⟨w.heap.size, 6, none⟩) (show w.heap.size < w1.heap.size by omega)).trans s_6_1
    have s_7_2 := (C2.out.cell (p := ⟨w.heap.size, 7, none⟩) (show w.heap.size < w1.heap.size by omega)).trans s_7_1
    have s_8_2 := (C2.out.cell (p := ⟨w.heap.size, 8, none⟩) (show w.heap.size < w1.heap.size by omega)).trans s_8_1
    clear s_0_1 s_1_1 s_2_1 s_3_1 s_4_1 s_5_1 s_6_1 s_7_1 s_8_1
    have ok2 : Bnd.Ok ⟨⟨b.m.name, b.m.stage, b.m.x, Aa2, b.m.x.length⟩, b.bob, b.sing, b.step, b.call, b.tru, b.rx, Ar2, b.rx.length⟩ w2 := ⟨ho1.rd encString_len, ho3.rd Rgr_enc_len, by simp only; omega, by simp only; omega, M3.out, by simp only; omega, by simp only; omega, by simp only; omega, by simp only; omega, by simp only; omega⟩
    have OK2 := Lib.hid ok2
    clear ok2 ho1 ho3
    go_wp2_with fail
    refine (sRowOfBand_f ⟨⟨b.m.name, b.m.stage, b.m.x, Aa2, b.m.x.length⟩, b.bob, b.sing, b.step, b.call, b.tru, b.rx, Ar2, b.rx.length⟩ _ OK2.out HP.out).mono ?_
    rintro e w3 ⟨rfl, hb⟩
    have C3 := Lib.hid hb
    clear hb
    have t3 := C3.out.size
    have Bw3 := Lib.hid (Bw2.out.trans (C3.out.mono Bw2.out.size))
    have s_0_3 := (C3.out.cell (p := ⟨w.heap.size, 0, none⟩) (show w.heap.size < w2.heap.size by omega)).trans s_0_2
    have s_1_3 := (C3.out.cell (p := ⟨w.heap.size, 1, none⟩) (show w.heap.size < w2.heap.size by omega)).trans s_1_2
    have s_2_3 := (C3.out.cell (p := ⟨w.heap.size, 2, none⟩) (show w.heap.size < w2.heap.size by omega)).trans s_2_2
    have s_3_3 := (C3.out.cell (p := ⟨w.heap.size, 3, none⟩) (show w.heap.size < w2.heap.size by omega)).trans s_3_2
    have s_4_3 := (C3.out.cell (p := ⟨w.heap.size, 4, none⟩) (show w.heap.size < w2.heap.size by omega)).trans s_4_2
    have s_5_3 := (C3.out.cell (p := ⟨w.heap.size, 5, none⟩) (show w.heap.size < w2.heap.size by omega)).trans s_5_2
    have s_6_3 := (C3.out.cell (p := ⟨w.heap.size, 6, none⟩) (show w.heap.size < w2.heap.size by omega)).trans s_6_2
    have s_7_3 := (C3.out.cell (p := ⟨w.heap.size, 7, none⟩) (show w.heap.size < w2.heap.size by omega)).trans s_7_2
    have s_8_3 := (C3.out.cell (p := ⟨w.heap.size, 8, none⟩) (show w.heap.size < w2.heap.size by omega)).trans s_8_2
    clear s_0_2 s_1_2 s_2_2 s_3_2 s_4_2 s_5_2 s_6_2 s_7_2 s_8_2
    go_wp2_with fail
    refine (toBandS_any b w3 ((H.out.below Bw3.out (Nat.le_refl _)).more Bw3.out.size) ((Hr.out.below Bw3.out (Nat.le_refl _)).more Bw3.out.size) (by omega) (by omega)).mono ?_
    rintro e w4 ⟨Ax, Rx, gsx, rfl, hgx1, hgx2, ho1, ho3, hb⟩
    have C4 := Lib.hid hb
    clear hb
    have t4 := C4.out.size
    have Bw4 := Lib.hid (Bw3.out.trans (C4.out.mono Bw3.out.size))
    have s_0_4 := (C4.out.cell (p := ⟨w.heap.size, 0, none⟩) (show w.heap.size < w3.heap.size by omega)).trans s_0_3
    have s_1_4 := (C4.out.cell (p := ⟨w.heap.size, 1, none⟩) (show w.heap.size < w3.heap.size by omega)).trans s_1_3
    have s_2_4 := (C4.out.cell (p := ⟨w.heap.size, 2, none⟩) (show w.heap.size < w3.heap.size by omega)).trans s_2_3
    have s_3_4 := (C4.out.cell (p := ⟨w.heap.size, 3, none⟩) (show w.heap.size < w3.heap.size by omega)).trans s_3_3
    have s_4_4 := (C4.out.cell (p := ⟨w.heap.size, 4, none⟩) (show w.heap.size < w3.heap.size by omega)).trans s_4_3
    have s_5_4 := (C4.out.cell (p := ⟨w.heap.size, 5, none⟩) (show w.heap.size < w3.heap.size by omega)).trans s_5_3
    have s_6_4 := (C4.out.cell (p := ⟨w.heap.size, 6, none⟩) (show w.heap.size < w3.heap.size by omega)).trans s_6_3
    have s_7_4 := (C4.out.cell (p := ⟨w.heap.size, 7, none⟩) (show w.heap.size < w3.heap.size by omega)).trans s_7_3
    have s_8_4 := (C4.out.cell (p := ⟨w.heap.size, 8, none⟩) (show w.heap.size < w3.heap.size by omega)).trans s_8_3
    clear s_0_3 s_1_3 s_2_3 s_3_3 s_4_3 s_5_3 s_6_3 s_7_3 s_8_3
    have O_x0_a_4 := Lib.hid ho1
    have O_x0_r_4 := Lib.hid ho3
    clear ho1 ho3
    go_wp2_with fail
    have x_0_5 : (w4.alloc (.cells #[.string b.m.name, .int .i64 b.m.stage, .slice Ax b.m.x.length b.m.x.length, .string b.bob, .string b.sing, .int .i64 b.step, .string b.call, .string b.tru, .slice Rx b.rx.length b.rx.length] 65)).cell? ⟨w4.heap.size, 0, none⟩ = some (.string b.m.name) := by simp [go_sem]
    have x_1_5 : (w4.alloc (.cells #[.string b.m.name, .int .i64 b.m.stage, .slice Ax b.m.x.length b.m.x.length, .string b.bob, .string b.sing, .int .i64 b.step, .string b.call, .string b.tru, .slice Rx b.rx.length b.rx.length] 65)).cell? ⟨w4.heap.size, 1, none⟩ = some (.int .i64 b.m.stage) := by simp [go_sem]
    have x_2_5 : (w4.alloc (.cells #[.string b.m.name, .int .i64 b.m.stage, .slice Ax b.m.x.length b.m.x.length, .string b.bob, .string b.sing, .int .i64 b.step, .string b.call, .string b.tru, .slice Rx b.rx.length b.rx.length] 65)).cell? ⟨w4.heap.size, 2, none⟩ = some (.slice Ax b.m.x.length b.m.x.length) := by simp [go_sem]
    have x_3_5 : (w4.alloc (.cells #[.string b.m.name, .int .i64 b.m.stage, .slice Ax b.m.x.length b.m.x.length, .string b.bob, .string b.sing, .int .i64 b.step, .string b.call, .string b.tru, .slice Rx b.rx.length b.rx.length] 65)).cell? ⟨w4.heap.size, 3, none⟩ = some (.string b.bob) := by simp [go_sem]
    have x_4_5 : (w4.alloc (.cells #[.string b.m.name, .int .i64 b.m.stage, .slice Ax b.m.x.length b.m.x.length, .string b.bob, .string b.sing, .int .i64 b.step, .string b.call, .string b.tru, .slice Rx b.rx.length b.rx.length] 65)).cell? ⟨w4.heap.size, 4, none⟩ = some (.string b.sing) := by simp [go_sem]
    have x_5_5 : (w4.alloc (.cells #[.string b.m.name, .int .i64 b.m.stage, .slice Ax b.m.x.length b.m.x.length, .string b.bob, .string b.sing, .int .i64 b.step, .string b.call, .string b.tru, .slice Rx b.rx.length b.rx.length] 65)).cell? ⟨w4.heap.size, 5, none⟩ = some (.int .i64 b.step) := by simp [go_sem]
    have x_6_5 : (w4.alloc (.cells #[.string b.m.name, .int .i64 b.m.stage, .slice Ax b.m.x.length b.m.x.length, .string b.bob, .string b.sing, .int .i64 b.step, .string b.call, .string b.tru, .slice Rx b.rx.length b.rx.length] 65)).cell? ⟨w4.heap.size, 6, none⟩ = some (.string b.call) := by simp [go_sem]
    have x_7_5 : (w4.alloc (.cells #[.string b.m.name, .int .i64 b.m.stage, .slice Ax b.m.x.length b.m.x.length, .string b.bob, .string b.sing, .int .i64 b.step, .string b.call, .string b.tru, .slice Rx b.rx.length b.rx.length] 65)).cell? ⟨w4.heap.size, 7, none⟩ = some (.string b.tru) := by simp [go_sem]
    have x_8_5 : (w4.alloc (.cells #[.string b.m.name, .int .i64 b.m.stage, .slice Ax b.m.x.length b.m.x.length, .string b.bob, .string b.sing, .int .i64 b.step, .string b.call, .string b.tru, .slice Rx b.rx.length b.rx.length] 65)).cell? ⟨w4.heap.size, 8, none⟩ = some (.slice Rx b.rx.length b.rx.length) := by simp [go_sem]
    have t5 : w4.heap.size + 1 ≤ (w4.alloc (.cells #[.string b.m.name, .int .i64 b.m.stage, .slice Ax b.m.x.length b.m.x.length, .string b.bob, .string b.sing, .int .i64 b.step, .string b.call, .string b.tru, .slice Rx b.rx.length b.rx.length] 65)).heap.size := by simp
    have C5 : Hid (Below w4.heap.size w4 (w4.alloc (.cells #[.string b.m.name, .int .i64 b.m.stage, .slice Ax b.m.x.length b.m.x.length, .string b.bob, .string b.sing, .int .i64 b.step, .string b.call, .string b.tru, .slice Rx b.rx.length b.rx.length] 65))) := Lib.hid ((Below.refl _ _).alloc (Nat.le_refl _) _)
    generalize (w4.alloc (.cells #[.string b.m.name, .int .i64 b.m.stage, .slice Ax b.m.x.length b.m.x.length, .string b.bob, .string b.sing, .int .i64 b.step, .string b.call, .string b.tru, .slice Rx b.rx.length b.rx.length] 65)) = w5 at *
    have Bw5 := Lib.hid (Bw4.out.trans (C5.out.mono Bw4.out.size))
    have s_0_5 := (C5.out.cell (p := ⟨w.heap.size, 0, none⟩) (show w.heap.size < w4.heap.size by omega)).trans s_0_4
    have s_1_5 := (C5.out.cell (p := ⟨w.heap.size, 1, none⟩) (show w.heap.size < w4.heap.size by omega)).trans s_1_4
    have s_2_5 := (C5.out.cell (p := ⟨w.heap.size, 2, none⟩) (show w.heap.size < w4.heap.size by omega)).trans s_2_4
    have s_3_5 := (C5.out.cell (p := ⟨w.heap.size, 3, none⟩) (show w.heap.size < w4.heap.size by omega)).trans s_3_4
    have s_4_5 := (C5.out.cell (p := ⟨w.heap.size, 4, none⟩) (show w.heap.size < w4.heap.size by omega)).trans s_4_4
    have s_5_5 := (C5.out.cell (p := ⟨w.heap.size, 5, none⟩) (show w.heap.size < w4.heap.size by omega)).trans s_5_4
    have s_6_5 := (C5.out.cell (p := ⟨w.heap.size, 6, none⟩) (show w.heap.size < w4.heap.size by omega)).trans s_6_4
    have s_7_5 := (C5.out.cell (p := ⟨w.heap.size, 7, none⟩) (show w.heap.size < w4.heap.size by omega)).trans s_7_4
    have s_8_5 := (C5.out.cell (p := ⟨w.heap.size, 8, none⟩) (show w.heap.size < w4.heap.size by omega)).trans s_8_4
    clear s_0_4 s_1_4 s_2_4 s_3_4 s_4_4 s_5_4 s_6_4 s_7_4 s_8_4
    have O_x0_a_5 := Lib.hid (O_x0_a_4.out.later C5.out)
    clear O_x0_a_4
    have O_x0_r_5 := Lib.hid (O_x0_r_4.out.later C5.out)
    clear O_x0_r_4
    have ok5 : Bnd.Ok ⟨⟨b.m.name, b.m.stage, b.m.x, Ax, b.m.x.length⟩, b.bob, b.sing, b.step, b.call, b.tru, b.rx, Rx, b.rx.length⟩ w5 := ⟨O_x0_a_5.out.rd encString_len, O_x0_r_5.out.rd Rgr_enc_len, by simp only; omega, by simp only; omega, M3.out, by simp only; omega, by simp only; omega, by simp only; omega, by simp only; omega, by simp only; omega⟩
    have OK5 := Lib.hid ok5
    clear ok5
    go_wp2_with fail
    refine (iRowOfBand_f ⟨⟨b.m.name, b.m.stage, b.m.x, Ax, b.m.x.length⟩, b.bob, b.sing, b.step, b.call, b.tru, b.rx, Rx, b.rx.length⟩ _ OK5.out HP.out).mono ?_
    rintro e w6 ⟨rfl, hb⟩
    have C6 := Lib.hid hb
    clear hb
    have t6 := C6.out.size
    have Bw6 := Lib.hid (Bw5.out.trans (C6.out.mono Bw5.out.size))
    have s_0_6 := (C6.out.cell (p := ⟨w.heap.size, 0, none⟩) (show w.heap.size < w5.heap.size by omega)).trans s_0_5
    have s_1_6 := (C6.out.cell (p := ⟨w.heap.size, 1, none⟩) (show w.heap.size < w5.heap.size by omega)).trans s_1_5
    have s_2_6 := (C6.out.cell (p := ⟨w.heap.size, 2, none⟩) (show w.heap.size < w5.heap.size by omega)).trans s_2_5
    have s_3_6 := (C6.out.cell (p := ⟨w.heap.size, 3, none⟩) (show w.heap.size < w5.heap.size by omega)).trans s_3_5
    have s_4_6 := (C6.out.cell (p := ⟨w.heap.size, 4, none⟩) (show w.heap.size < w5.heap.size by omega)).trans s_4_5
    have s_5_6 := (C6.out.cell (p := ⟨w.heap.size, 5, none⟩) (show w.heap.size < w5.heap.size by omega)).trans s_5_5
    have s_6_6 := (C6.out.cell (p := ⟨w.heap.size, 6, none⟩) (show w.heap.size < w5.heap.size by omega)).trans s_6_5
    have s_7_6 := (C6.out.cell (p := ⟨w.heap.size, 7, none⟩) (show w.heap.size < w5.heap.size by omega)).trans s_7_5
    have s_8_6 := (C6.out.cell (p := ⟨w.heap.size, 8, none⟩) (show w.heap.size < w5.heap.size by omega)).trans s_8_5
    clear s_0_5 s_1_5 s_2_5 s_3_5 s_4_5 s_5_5 s_6_5 s_7_5 s_8_5
    have x_0_6 := (C6.out.cell (p := ⟨w4.heap.size, 0, none⟩) (show w4.heap.size < w5.heap.size by omega)).trans x_0_5
    have x_1_6 := (C6.out.cell (p := ⟨w4.heap.size, 1, none⟩) (show w4.heap.size < w5.heap.size by omega)).trans x_1_5
    have x_2_6 := (C6.out.cell (p := ⟨w4.heap.size, 2, none⟩) (show w4.heap.size < w5.heap.size by omega)).trans x_2_5
    have x_3_6 := (C6.out.cell (p := ⟨w4.heap.size, 3, none⟩) (show w4.heap.size < w5.heap.size by omega)).trans x_3_5
    have x_4_6 := (C6.out.cell (p := ⟨w4.heap.size, 4, none⟩) (show w4.heap.size < w5.heap.size by omega)).trans x_4_5
    have x_5_6 := (C6.out.cell (p := ⟨w4.heap.size, 5, none⟩) (show w4.heap.size < w5.heap.size by omega)).trans x_5_5
    have x_6_6 := (C6.out.cell (p := ⟨w4.heap.size, 6, none⟩) (show w4.heap.size < w5.heap.size by omega)).trans x_6_5
    have x_7_6 := (C6.out.cell (p := ⟨w4.heap.size, 7, none⟩) (show w4.heap.size < w5.heap.size by omega)).trans x_7_5
    have x_8_6 := (C6.out.cell (p := ⟨w4.heap.size, 8, none⟩) (show w4.heap.size < w5.heap.size by omega)).trans x_8_5
    clear x_0_5 x_1_5 x_2_5 x_3_5 x_4_5 x_5_5 x_6_5 x_7_5 x_8_5
    have O_x0_a_6 := Lib.hid (O_x0_a_5.out.later C6.out)
    clear O_x0_a_5
    have O_x0_r_6 := Lib.hid (O_x0_r_5.out.later C6.out)
    clear O_x0_r_5
    go_wp2_with fail
    go_region_held3 (fun w' => w'.cell? ⟨w4.heap.size, 0, none⟩ = some (.string b.m.name) ∧ w'.cell? ⟨w4.heap.size, 1, none⟩ = some (.int .i64 b.m.stage) ∧ w'.cell? ⟨w4.heap.size, 2, none⟩ = some (.slice Ax b.m.x.length b.m.x.length) ∧ w'.cell? ⟨w4.heap.size, 3, none⟩ = some (.string b.bob) ∧ w'.cell? ⟨w4.heap.size, 4, none⟩ = some (.string b.sing) ∧ w'.cell? ⟨w4.heap.size, 5, none⟩ = some (.int .i64 b.step) ∧ w'.cell? ⟨w4.heap.size, 6, none⟩ = some (.string b.call) ∧ w'.cell? ⟨w4.heap.size, 7, none⟩ = some (.string b.tru) ∧ w'.cell? ⟨w4.heap.size, 8, none⟩ = some (.slice Rx b.rx.length b.rx.length) ∧ w'.cell? ⟨w.heap.size, 0, none⟩ = some (.string b.m.name) ∧ w'.cell? ⟨w.heap.size, 1, none⟩ = some (.int .i64 b.m.stage) ∧ w'.cell? ⟨w.heap.size, 2, none⟩ = some (.slice b.m.A b.m.x.length b.m.c) ∧ w'.cell? ⟨w.heap.size, 3, none⟩ = some (.string b.bob) ∧ w'.cell? ⟨w.heap.size, 4, none⟩ = some (.string b.sing) ∧ w'.cell? ⟨w.heap.size, 5, none⟩ = some (.int .i64 b.step) ∧ w'.cell? ⟨w.heap.size, 6, none⟩ = some (.string b.call) ∧ w'.cell? ⟨w.heap.size, 7, none⟩ = some (.string b.tru) ∧ w'.cell? ⟨w.heap.size, 8, none⟩ = some (.slice b.RA b.rx.length b.rc)) (first | exact ⟨x_0_6, x_1_6, x_2_6, x_3_6, x_4_6, x_5_6, x_6_6, x_7_6, x_8_6, s_0_6, s_1_6, s_2_6, s_3_6, s_4_6, s_5_6, s_6_6, s_7_6, s_8_6⟩ | exact ⟨yx_0, yx_1, yx_2, yx_3, yx_4, yx_5, yx_6, yx_7, yx_8, ys_0, ys_1, ys_2, ys_3, ys_4, ys_5, ys_6, ys_7, ys_8⟩ | exact ⟨zx_0, zx_1, zx_2, zx_3, zx_4, zx_5, zx_6, zx_7, zx_8, zs_0, zs_1, zs_2, zs_3, zs_4, zs_5, zs_6, zs_7, zs_8⟩ | go_keep) (first | (go_at_call 32; refine (toBand_any b _ (show RdL w6.drew w6.drew.heap.size b.m.A 1 encString b.m.x from ((H.out.below Bw6.out (Nat.le_refl _)).more Bw6.out.size)) (show RdL w6.drew w6.drew.heap.size b.RA 2 Rgr.enc b.rx from ((Hr.out.below Bw6.out (Nat.le_refl _)).more Bw6.out.size)) (by omega) (by omega)).mono ?_; rintro e wa ⟨Ay, Ry, rfl, hq1, hq3, hba⟩; have yx_0 : wa.cell? ⟨w4.heap.size, 0, none⟩ = some (.string b.m.name) := (hba.cell (p := ⟨w4.heap.size, 0, none⟩) (show w4.heap.size < w6.heap.size by omega)).trans x_0_6; have yx_1 : wa.cell? ⟨w4.heap.size, 1, none⟩ = some (.int .i64 b.m.stage) := (hba.cell (p := ⟨w4.heap.size, 1, none⟩) (show w4.heap.size < w6.heap.size by omega)).trans x_1_6; have yx_2 : wa.cell? ⟨w4.heap.size, 2, none⟩ = some (.slice Ax b.m.x.length b.m.x.length) := (hba.cell (p := ⟨w4.heap.size, 2, none⟩) (show w4.heap.size < w6.heap.size by omega)).trans x_2_6; have yx_3 : wa.cell? ⟨w4.heap.size, 3, none⟩ = some (.string b.bob) := (hba.cell (p := ⟨w4.heap.size, 3, none⟩) (show w4.heap.size < w6.heap.size by omega)).trans x_3_6; have yx_4 : wa.cell? ⟨w4.heap.size, 4, none⟩ = some (.string b.sing) := (hba.cell (p := ⟨w4.heap.size, 4, none⟩) (show w4.heap.size < w6.heap.size by omega)).trans x_4_6; have yx_5 : wa.cell? ⟨w4.heap.size, 5, none⟩ = some (.int .i64 b.step) := (hba.cell (p := ⟨w4.heap.size, 5, none⟩) (show w4.heap.size < w6.heap.size by omega)).trans x_5_6; have yx_6 : wa.cell? ⟨w4.heap.size, 6, none⟩ = some (.string b.call) := (hba.cell (p := ⟨w4.heap.size, 6, none⟩) (show w4.heap.size < w6.heap.size by omega)).trans x_6_6; have yx_7 : wa.cell? ⟨w4.heap.size, 7, none⟩ = some (.string b.tru) := (hba.cell (p := ⟨w4.heap.size, 7, none⟩) (show w4.heap.size < w6.heap.size by omega)).trans x_7_6; have yx_8 : wa.cell? ⟨w4.heap.size, 8, none⟩ = some (.slice Rx b.rx.length b.rx.length) := (hba.cell (p := ⟨w4.heap.size, 8, none⟩) (show w4.heap.size < w6.heap.size by omega)).trans x_8_6; have ys_0 : wa.cell? ⟨w.heap.size, 0, none⟩ = some (.string b.m.name) := (hba.cell (p := ⟨w.heap.size, 0, none⟩) (show w.heap.size < w6.heap.size by omega)).trans s_0_6; have ys_1 : wa.cell? ⟨w.heap.size, 1, none⟩ = some (.int .i64 b.m.stage) := (hba.cell (p := ⟨w.heap.size, 1, none⟩) (show w.heap.size < w6.heap.size by omega)).trans s_1_6; have ys_2 : wa.cell? ⟨w.heap.size, 2, none⟩ = some (.slice b.m.A b.m.x.length b.m.c) := (hba.cell (p := ⟨w.heap.size, 2, none⟩) (show w.heap.size < w6.heap.size by omega)).trans s_2_6; have ys_3 : wa.cell? ⟨w.heap.size, 3, none⟩ = some (.string b.bob) := (hba.cell (p := ⟨w.heap.size, 3, none⟩) (show w.heap.size < w6.heap.size by omega)).trans s_3_6; have ys_4 : wa.cell? ⟨w.heap.size, 4, none⟩ = some (.string b.sing) := (hba.cell (p := ⟨w.heap.size, 4, none⟩) (show w.heap.size < w6.heap.size by omega)).trans s_4_6; have ys_5 : wa.cell? ⟨w.heap.size, 5, none⟩ = some (.int .i64 b.step) := (hba.cell (p := ⟨w.heap.size, 5, none⟩) (show w.heap.size < w6.heap.size by omega)).trans s_5_6; have ys_6 : wa.cell? ⟨w.heap.size, 6, none⟩ = some (.string b.call) := (hba.cell (p := ⟨w.heap.size, 6, none⟩) (show w.heap.size < w6.heap.size by omega)).trans s_6_6; have ys_7 : wa.cell? ⟨w.heap.size, 7, none⟩ = some (.string b.tru) := (hba.cell (p := ⟨w.heap.size, 7, none⟩) (show w.heap.size < w6.heap.size by omega)).trans s_7_6; have ys_8 : wa.cell? ⟨w.heap.size, 8, none⟩ = some (.slice b.RA b.rx.length b.rc) := (hba.cell (p := ⟨w.heap.size, 8, none⟩) (show w.heap.size < w6.heap.size by omega)).trans s_8_6; have HBa : Hid (Below w6.heap.size w6 wa) := Lib.hid ((Below.refl _ _).drew.trans hba); have Hq1 := Lib.hid hq1; have Hq3 := Lib.hid hq3; have Hq5 := Lib.hid (O_x0_a_6.out.later HBa.out); have Hq7 := Lib.hid (O_x0_r_6.out.later HBa.out); clear hq1 hq3 hba) | (go_at_call 34; refine (eqBand_t ⟨⟨b.m.name, b.m.stage, b.m.x, Ax, b.m.x.length⟩, b.bob, b.sing, b.step, b.call, b.tru, b.rx, Rx, b.rx.length⟩ Ay Ry b.m.x.length b.rx.length wa (Hq5.out.rd encString_len) (Hq1.out.rd encString_len) (Hq7.out.rd Rgr_enc_len) (Hq3.out.rd Rgr_enc_len) (by simp only; omega) (by simp only; omega)).mono ?_; rintro e w7 ⟨rfl, hbb⟩; have hya := HBa.out.size; have zx_0 : w7.cell? ⟨w4.heap.size, 0, none⟩ = some (.string b.m.name) := (hbb.cell (p := ⟨w4.heap.size, 0, none⟩) (show w4.heap.size < wa.heap.size by omega)).trans yx_0; have zx_1 : w7.cell? ⟨w4.heap.size, 1, none⟩ = some (.int .i64 b.m.stage) := (hbb.cell (p := ⟨w4.heap.size, 1, none⟩) (show w4.heap.size < wa.heap.size by omega)).trans yx_1; have zx_2 : w7.cell? ⟨w4.heap.size, 2, none⟩ = some (.slice Ax b.m.x.length b.m.x.length) := (hbb.cell (p := ⟨w4.heap.size, 2, none⟩) (show w4.heap.size < wa.heap.size by omega)).trans yx_2; have zx_3 : w7.cell? ⟨w4.heap.size, 3, none⟩ = some (.string b.bob) := (hbb.cell (p := ⟨w4.heap.size, 3, none⟩) (show w4.heap.size < wa.heap.size by omega)).trans yx_3; have zx_4 : w7.cell? ⟨w4.heap.size, 4, none⟩ = some (.string b.sing) := (hbb.cell (p := ⟨w4.heap.size, 4, none⟩) (show w4.heap.size < wa.heap.size by omega)).trans yx_4; have zx_5 : w7.cell? ⟨w4.heap.size, 5, none⟩ = some (.int .i64 b.step) := (hbb.cell (p := ⟨w4.heap.size, 5, none⟩) (show w4.heap.size < wa.heap.size by omega)).trans yx_5; have zx_6 : w7.cell? ⟨w4.heap.size, 6, none⟩ = some (.string b.call) := (hbb.cell (p := ⟨w4.heap.size, 6, none⟩) (show w4.heap.size < wa.heap.size by omega)).trans yx_6; have zx_7 : w7.cell? ⟨w4.heap.size, 7, none⟩ = some (.string b.tru) := (hbb.cell (p := ⟨w4.heap.size, 7, none⟩) (show w4.heap.size < wa.heap.size by omega)).trans yx_7; have zx_8 : w7.cell? ⟨w4.heap.size, 8, none⟩ = some (.slice Rx b.rx.length b.rx.length) := (hbb.cell (p := ⟨w4.heap.size, 8, none⟩) (show w4.heap.size < wa.heap.size by omega)).trans yx_8; have zs_0 : w7.cell? ⟨w.heap.size, 0, none⟩ = some (.string b.m.name) := (hbb.cell (p := ⟨w.heap.size, 0, none⟩) (show w.heap.size < wa.heap.size by omega)).trans ys_0; have zs_1 : w7.cell? ⟨w.heap.size, 1, none⟩ = some (.int .i64 b.m.stage) := (hbb.cell (p := ⟨w.heap.size, 1, none⟩) (show w.heap.size < wa.heap.size by omega)).trans ys_1; have zs_2 : w7.cell? ⟨w.heap.size, 2, none⟩ = some (.slice b.m.A b.m.x.length b.m.c) := (hbb.cell (p := ⟨w.heap.size, 2, none⟩) (show w.heap.size < wa.heap.size by omega)).trans ys_2; have zs_3 : w7.cell? ⟨w.heap.size, 3, none⟩ = some (.string b.bob) := (hbb.cell (p := ⟨w.heap.size, 3, none⟩) (show w.heap.size < wa.heap.size by omega)).trans ys_3; have zs_4 : w7.cell? ⟨w.heap.size, 4, none⟩ = some (.string b.sing) := (hbb.cell (p := ⟨w.heap.size, 4, none⟩) (show w.heap.size < wa.heap.size by omega)).trans ys_4; have zs_5 : w7.cell? ⟨w.heap.size, 5, none⟩ = some (.int .i64 b.step) := (hbb.cell (p := ⟨w.heap.size, 5, none⟩) (show w.heap.size < wa.heap.size by omega)).trans ys_5; have zs_6 : w7.cell? ⟨w.heap.size, 6, none⟩ = some (.string b.call) := (hbb.cell (p := ⟨w.heap.size, 6, none⟩) (show w.heap.size < wa.heap.size by omega)).trans ys_6; have zs_7 : w7.cell? ⟨w.heap.size, 7, none⟩ = some (.string b.tru) := (hbb.cell (p := ⟨w.heap.size, 7, none⟩) (show w.heap.size < wa.heap.size by omega)).trans ys_7; have zs_8 : w7.cell? ⟨w.heap.size, 8, none⟩ = some (.slice b.RA b.rx.length b.rc) := (hbb.cell (p := ⟨w.heap.size, 8, none⟩) (show w.heap.size < wa.heap.size by omega)).trans ys_8))
    have hb : Below w6.heap.size w6 w7 := HBa.out.trans (hbb.mono HBa.out.size)
    clear hbb yx_0 ys_0 zx_0 zs_0 yx_1 ys_1 zx_1 zs_1 yx_2 ys_2 zx_2 zs_2 yx_3 ys_3 zx_3 zs_3 yx_4 ys_4 zx_4 zs_4 yx_5 ys_5 zx_5 zs_5 yx_6 ys_6 zx_6 zs_6 yx_7 ys_7 zx_7 zs_7 yx_8 ys_8 zx_8 zs_8
    have C7 := Lib.hid hb
    clear hb
    have t7 := C7.out.size
    have Bw7 := Lib.hid (Bw6.out.trans (C7.out.mono Bw6.out.size))
    have s_0_7 := (C7.out.cell (p := ⟨w.heap.size, 0, none⟩) (show w.heap.size < w6.heap.size by omega)).trans s_0_6
    have s_1_7 := (C7.out.cell (p := ⟨w.heap.size, 1, none⟩) (show w.heap.size < w6.heap.size by omega)).trans s_1_6
    have s_2_7 := (C7.out.cell (p := ⟨w.heap.size, 2, none⟩) (show w.heap.size < w6.heap.size by omega)).trans s_2_6
    have s_3_7 := (C7.out.cell (p := ⟨w.heap.size, 3, none⟩) (show w.heap.size < w6.heap.size by omega)).trans s_3_6
    have s_4_7 := (C7.out.cell (p := ⟨w.heap.size, 4, none⟩) (show w.heap.size < w6.heap.size by omega)).trans s_4_6
    have s_5_7 := (C7.out.cell (p := ⟨w.heap.size, 5, none⟩) (show w.heap.size < w6.heap.size by omega)).trans s_5_6
    have s_6_7 := (C7.out.cell (p := ⟨w.heap.size, 6, none⟩) (show w.heap.size < w6.heap.size by omega)).trans s_6_6
    have s_7_7 := (C7.out.cell (p := ⟨w.heap.size, 7, none⟩) (show w.heap.size < w6.heap.size by omega)).trans s_7_6
    have s_8_7 := (C7.out.cell (p := ⟨w.heap.size, 8, none⟩) (show w.heap.size < w6.heap.size by omega)).trans s_8_6
    clear s_0_6 s_1_6 s_2_6 s_3_6 s_4_6 s_5_6 s_6_6 s_7_6 s_8_6
    have x_0_7 := (C7.out.cell (p := ⟨w4.heap.size, 0, none⟩) (show w4.heap.size < w6.heap.size by omega)).trans x_0_6
    have x_1_7 := (C7.out.cell (p := ⟨w4.heap.size, 1, none⟩) (show w4.heap.size < w6.heap.size by omega)).trans x_1_6
    have x_2_7 := (C7.out.cell (p := ⟨w4.heap.size, 2, none⟩) (show w4.heap.size < w6.heap.size by omega)).trans x_2_6
    have x_3_7 := (C7.out.cell (p := ⟨w4.heap.size, 3, none⟩) (show w4.heap.size < w6.heap.size by omega)).trans x_3_6
    have x_4_7 := (C7.out.cell (p := ⟨w4.heap.size, 4, none⟩) (show w4.heap.size < w6.heap.size by omega)).trans x_4_6
    have x_5_7 := (C7.out.cell (p := ⟨w4.heap.size, 5, none⟩) (show w4.heap.size < w6.heap.size by omega)).trans x_5_6
    have x_6_7 := (C7.out.cell (p := ⟨w4.heap.size, 6, none⟩) (show w4.heap.size < w6.heap.size by omega)).trans x_6_6
    have x_7_7 := (C7.out.cell (p := ⟨w4.heap.size, 7, none⟩) (show w4.heap.size < w6.heap.size by omega)).trans x_7_6
    have x_8_7 := (C7.out.cell (p := ⟨w4.heap.size, 8, none⟩) (show w4.heap.size < w6.heap.size by omega)).trans x_8_6
    clear x_0_6 x_1_6 x_2_6 x_3_6 x_4_6 x_5_6 x_6_6 x_7_6 x_8_6
    go_wp2_with fail
    go_ret
    exact ⟨rfl, Bw7.out⟩

namespace fnExactRowOfBand
open Go.ChangeShapes Go.WideShapes Go.ChangeAt Go.RowKit Go.Deep
open Go.ChangeMaps (open_string shut_string)
theorem own : ownKnob Tryd.prog.godebug = none := by kernel_rfl
theorem laid : laidOutB Tryd.prog = true := by kernel_rfl
theorem reads : Tryd.f7.params.toList.all (fun t => Tryd.prog.readableRec t && decide (t < Tryd.prog.types.size)) = true := by kernel_rfl
theorem door_met (os : Os) (args : Array Value) : laidMetH Tryd.prog Rows.fnExactRowOfBandRow.laid ((World.doorLaid Tryd.prog 400 os).forCall (fun _ _ => 0) ⟨#[], args, []⟩).memory :=
  laidMetH_of_parts3 (fuel := 8) (laidMet_of_run' 8 (by kernel_rfl) (by kernel_rfl)) (by kernel_rfl) (by kernel_rfl)
set_option maxRecDepth 100000 in
theorem lifted (os : Os) (started : os.Started) (H : Type) (enc : TypeId × Value → H) :
    ReturnsInHanded {} Tryd.checked os 7 .any (fun w args => (Rows.fnExactRowOfBandSpec.pre enc Tryd.prog Tryd.f7 [] false w args ∧ laidMetH Tryd.prog Rows.fnExactRowOfBandRow.laid w) ∧ sizedMet enc Tryd.prog Tryd.f7 (OpenSpec.ofChange Rows.fnExactRowOfBandSpec) false w args) (Rows.fnExactRowOfBandSpec.post enc Tryd.prog Tryd.f7 false true false false) := by
  refine returnsInHanded_of_change_and (C := Tryd.checked) (X := fun w _ => laidMetH Tryd.prog Rows.fnExactRowOfBandRow.laid w) (fun _ _ _ hh h => h.of_heap hh) own started (by kernel_rfl) Tryd.func7
    (ChangeSpec.witness_shaped (enc := enc) (C := Tryd.checked) (os := os) (X := fun w _ => laidMetH Tryd.prog Rows.fnExactRowOfBandRow.laid w) false (World.doorLaid Tryd.prog 400 os) #[.agg #[.string ByteArray.empty, .int .i64 0, .slice none 0 0, .string ByteArray.empty, .string ByteArray.empty, .int .i64 0, .string ByteArray.empty, .string ByteArray.empty, .slice none 0 0]] 8 rfl (World.shaped_of_RefB (by kernel_rfl) (by kernel_rfl)) (by kernel_rfl) (by kernel_rfl) (by kernel_rfl) (door_met os _)) ?_
  intro W base args ds gs before hval0 hW _ _ hL _
  have htabW : Tab W := tab_of (by rw [MakeChecks.laidMetH_plain _ _ _ (by kernel_rfl)] at hL; exact hL)
  have hval : ∀ (j : Nat) t v, Tryd.f7.params[j]? = some t → args[j]? = some v → Value.okWide Tryd.prog W .any base t v := hval0
  have hW' := hW
  obtain ⟨p, q, hA0, hV, rfl, hfz, hnd⟩ := hW
  have hA : DataW.TrodAll enc Tryd.prog W 0 (fun _ => true) true Tryd.f7.params.toList args.toList ds p := hA0
  rw [Tryd.params7] at hA hval
  obtain ⟨rfl, rfl⟩ := trodVars_none hV
  have hlt : ∀ x ∈ p, x.block < W.heap.size := fun x hx => by simpa using hW'.lt x (List.mem_append.2 (.inl hx))
  clear hA0 hval0
  obtain ⟨v0, vs0, d0, ds0, p0, q0, hargs, rfl, rfl, h0, r0⟩ := trodAll_cons hA
  obtain ⟨rfl, rfl, rfl⟩ := trodAll_nil r0
  obtain rfl : args = #[v0] := by cases args; simp_all
  clear hargs
  obtain ⟨b, rfl, hfit, hrd, hrd2, _⟩ := open_struct Tryd.underlying58 Bnd.enc _ Band_el (hval 0 58 v0 rfl rfl) h0
  refine (rowOfBandLaw W b hrd hrd2 hfit htabW).mono fun e W' ⟨he, hg⟩ => ?_
  subst he
  exact ⟨_, rfl, law_post laid reads rfl Tryd.underlying4 rfl rfl hW' hg⟩
theorem over : Rows.fnExactRowOfBandRow.holds Tryd.pinned (OpenSpec.ofChange Rows.fnExactRowOfBandSpec) :=
  OpenClaim.holds_of_wide 7 Tryd.f7 rfl rfl rfl rfl rfl rfl rfl ⟨rfl, rfl, rfl, rfl, rfl⟩ rfl rfl rfl rfl rfl (by kernel_rfl) Tryd.func7 facts
    (of_decide_eq_true (by kernel_rfl)) (by unfold Func.isWrapper; first | (rw [if_pos (by decide +kernel)]; kernel_rfl) | (rw [if_neg (by decide +kernel)]; exact ⟨rfl, rfl⟩))
    (fun os started H enc _ => lifted os started H enc)
theorem proved : Rows.FnExactRowOfBandCardSaid :=
  Claim7.holds_tied_plain_at .later [] [.data, .data, .data] true (true, "8fdb6f0415f5832eb9ac773a81c0808de358d28ce214618cbc1653be8f2d6dc7") false
    over (fun _ h => by cases h) (by kernel_rfl) (fun _ h => by cases h) fnExactRowOfBand_row_tie rfl ⟨rfl, rfl⟩ (by kernel_rfl) rfl
    (fun f fn hf hfn => by
      obtain rfl : f = 7 := Option.some.inj ((show Tryd.prog.funcNamed "loop.example/g00894/laws.FnExactRowOfBand" = some 7 by kernel_rfl).symm.trans hf) |>.symm
      obtain rfl : fn = Tryd.f7 := (Option.some.inj (Tryd.func7.symm.trans hfn)).symm
      exact ⟨by kernel_rfl, fun j t ht => by
        have hm : t ∈ Tryd.f7.params.toList := Array.mem_toList_iff.2 (Array.mem_of_getElem? ht)
        have hall : (Tryd.f7.params.toList.all fun u => !Tryd.prog.wantsStandIn u) = true := by kernel_rfl
        exact (show Tryd.prog.wantsStandIn t = false by simpa using List.all_eq_true.1 hall t hm)⟩)
    (by kernel_rfl)
end fnExactRowOfBand
end Go.Proofs.YtpedfjcidbopiaaDoor
