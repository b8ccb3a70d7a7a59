/-
  GoodBand of the program returns what the reference's returns, for all arguments: no condition.
-/
import Derived.Test.YtdegbckoejddeaaTyBand
import Derived.Test.YtdegbckoejddeaaOpenBand
import Derived.Test.YtdegbckoejddeaaRow
namespace Go.Proofs.Ytdegbckoejddeaa
open Go.RowKit Go.ChangeShapes Go.WideShapes Go.Deep
set_option linter.unusedVariables false
set_option linter.unusedSimpArgs false
set_option maxRecDepth 100000

theorem Bnd.Ok.later {b : Bnd} {w w' : World} (h : b.Ok w) (hb : Below w.heap.size w w') : b.Ok w' :=
  ⟨(h.ch.below hb (Nat.le_refl _)).more hb.size, (h.ri.below hb (Nat.le_refl _)).more hb.size, h.nm, h.cl, h.cs, h.bs, h.ss, h.ks, h.ts, h.rl⟩
set_option maxHeartbeats 4000000 in
theorem bandLaw (w : World) (b : Bnd) (h : RdL w w.heap.size b.m.A 1 encString b.m.x) (hr : RdL w w.heap.size b.RA 2 Rgr.enc b.rx) (hf : b.Fits) :
    Calls Try.prog 13 #[.agg #[.string b.m.name, .int .i64 b.m.stage, .slice b.m.A b.m.x.length b.m.c, .string b.bob, .string b.sing, .int .i64 b.step, .string b.call, .string b.tru, .slice b.RA b.rx.length b.rc]] w fun e w' => e = .returned (.bool true) ∧ Below w.heap.size w w' := by
  have H := Lib.hid h
  have Hr := Lib.hid hr
  have Hf := Lib.hid hf
  clear h hr hf
  go_enter Try.func13, Try.ntmps13
  go_wp2_with fail
  have s0_0 : (w.alloc (.cells #[.string b.m.name, .int .i64 b.m.stage, .slice b.m.A b.m.x.length b.m.c, .string b.bob, .string b.sing, .int .i64 b.step, .string b.call, .string b.tru, .slice b.RA b.rx.length b.rc] 77)).cell? ⟨w.heap.size, 0, none⟩ = some (.string b.m.name) := by simp [go_sem]
  have s0_1 : (w.alloc (.cells #[.string b.m.name, .int .i64 b.m.stage, .slice b.m.A b.m.x.length b.m.c, .string b.bob, .string b.sing, .int .i64 b.step, .string b.call, .string b.tru, .slice b.RA b.rx.length b.rc] 77)).cell? ⟨w.heap.size, 1, none⟩ = some (.int .i64 b.m.stage) := by simp [go_sem]
  have s0_2 : (w.alloc (.cells #[.string b.m.name, .int .i64 b.m.stage, .slice b.m.A b.m.x.length b.m.c, .string b.bob, .string b.sing, .int .i64 b.step, .string b.call, .string b.tru, .slice b.RA b.rx.length b.rc] 77)).cell? ⟨w.heap.size, 2, none⟩ = some (.slice b.m.A b.m.x.length b.m.c) := by simp [go_sem]
  have s0_3 : (w.alloc (.cells #[.string b.m.name, .int .i64 b.m.stage, .slice b.m.A b.m.x.length b.m.c, .string b.bob, .string b.sing, .int .i64 b.step, .string b.call, .string b.tru, .slice b.RA b.rx.length b.rc] 77)).cell? ⟨w.heap.size, 3, none⟩ = some (.string b.bob) := by simp [go_sem]
  have s0_4 : (w.alloc (.cells #[.string b.m.name, .int .i64 b.m.stage, .slice b.m.A b.m.x.length b.m.c, .string b.bob, .string b.sing, .int .i64 b.step, .string b.call, .string b.tru, .slice b.RA b.rx.length b.rc] 77)).cell? ⟨w.heap.size, 4, none⟩ = some (.string b.sing) := by simp [go_sem]
  have s0_5 : (w.alloc (.cells #[.string b.m.name, .int .i64 b.m.stage, .slice b.m.A b.m.x.length b.m.c, .string b.bob, .string b.sing, .int .i64 b.step, .string b.call, .string b.tru, .slice b.RA b.rx.length b.rc] 77)).cell? ⟨w.heap.size, 5, none⟩ = some (.int .i64 b.step) := by simp [go_sem]
  have s0_6 : (w.alloc (.cells #[.string b.m.name, .int .i64 b.m.stage, .slice b.m.A b.m.x.length b.m.c, .string b.bob, .string b.sing, .int .i64 b.step, .string b.call, .string b.tru, .slice b.RA b.rx.length b.rc] 77)).cell? ⟨w.heap.size, 6, none⟩ = some (.string b.call) := by simp [go_sem]
  have s0_7 : (w.alloc (.cells #[.string b.m.name, .int .i64 b.m.stage, .slice b.m.A b.m.x.length b.m.c, .string b.bob, .string b.sing, .int .i64 b.step, .string b.call, .string b.tru, .slice b.RA b.rx.length b.rc] 77)).cell? ⟨w.heap.size, 7, none⟩ = some (.string b.tru) := by simp [go_sem]
  have s0_8 : (w.alloc (.cells #[.string b.m.name, .int .i64 b.m.stage, .slice b.m.A b.m.x.length b.m.c, .string b.bob, .string b.sing, .int .i64 b.step, .string b.call, .string b.tru, .slice b.RA b.rx.length b.rc] 77)).cell? ⟨w.heap.size, 8, none⟩ = some (.slice b.RA b.rx.length b.rc) := by simp [go_sem]
  have t0 : w.heap.size + 1 ≤ (w.alloc (.cells #[.string b.m.name, .int .i64 b.m.stage, .slice b.m.A b.m.x.length b.m.c, .string b.bob, .string b.sing, .int .i64 b.step, .string b.call, .string b.tru, .slice b.RA b.rx.length b.rc] 77)).heap.size := by simp
  have Bw0 : Hid (Below w.heap.size w (w.alloc (.cells #[.string b.m.name, .int .i64 b.m.stage, .slice b.m.A b.m.x.length b.m.c, .string b.bob, .string b.sing, .int .i64 b.step, .string b.call, .string b.tru, .slice b.RA b.rx.length b.rc] 77))) := Lib.hid ((Below.refl _ _).alloc (Nat.le_refl _) _)
  generalize (w.alloc (.cells #[.string b.m.name, .int .i64 b.m.stage, .slice b.m.A b.m.x.length b.m.c, .string b.bob, .string b.sing, .int .i64 b.step, .string b.call, .string b.tru, .slice b.RA b.rx.length b.rc] 77)) = w0 at *
  refine (szBand_any b 1048576 w0 ((H.out.below Bw0.out (Nat.le_refl _)).more Bw0.out.size) Hf.out (by omega) (by omega)).mono ?_
  rintro e w1 ⟨r1, rfl, hz, hb⟩
  have C1 := Lib.hid hb
  clear hb
  have t1 := C1.out.size
  have Bw1 := Lib.hid (Bw0.out.trans (C1.out.mono Bw0.out.size))
  have s1_0 := (C1.out.cell (p := ⟨w.heap.size, 0, none⟩) (show w.heap.size < w0.heap.size by omega)).trans s0_0
  have s1_1 := (C1.out.cell (p := ⟨w.heap.size, 1, none⟩) (show w.heap.size < w0.heap.size by omega)).trans s0_1
  have s1_2 := (C1.out.cell (p := ⟨w.heap.size, 2, none⟩) (show w.heap.size < w0.heap.size by omega)).trans s0_2
  have s1_3 := (C1.out.cell (p := ⟨w.heap.size, 3, none⟩) (show w.heap.size < w0.heap.size by omega)).trans s0_3
  have s1_4 := (C1.out.cell (p := ⟨w.heap.size, 4, none⟩) (show w.heap.size < w0.heap.size by omega)).trans s0_4
  have s1_5 := (C1.out.cell (p := ⟨w.heap.size, 5, none⟩) (show w.heap.size < w0.heap.size by omega)).trans s0_5
  have s1_6 := (C1.out.cell (p := ⟨w.heap.size, 6, none⟩) (show w.heap.size < w0.heap.size by omega)).trans s0_6
  have s1_7 := (C1.out.cell (p := ⟨w.heap.size, 7, none⟩) (show w.heap.size < w0.heap.size by omega)).trans s0_7
  have s1_8 := (C1.out.cell (p := ⟨w.heap.size, 8, none⟩) (show w.heap.size < w0.heap.size by omega)).trans s0_8
  clear s0_0 s0_1 s0_2 s0_3 s0_4 s0_5 s0_6 s0_7 s0_8
  have Z1 := Lib.hid hz
  clear hz
  by_cases n1 : r1 < 0
  · go_wp2_with fail
    go_ret
    exact ⟨rfl, Bw1.out⟩
  have z1 := Z1.out.resolve_left (by omega)
  have y1 : 0 ≤ r1 := z1.1
  have hsm := z1.2.2
  obtain ⟨m1, m2, m3, m4, m5, m6, m7, m8⟩ := hsm
  have M3 := Lib.hid m3
  clear z1 m3
  by_cases hp : bandP b
  · have e1 := B_t hp
    clear hp
    go_wp2_with fail
    refine (toBand_any b w1 ((H.out.below Bw1.out (Nat.le_refl _)).more Bw1.out.size) ((Hr.out.below Bw1.out (Nat.le_refl _)).more Bw1.out.size) (by omega) (by omega)).mono ?_
    rintro e w2 ⟨A1, A3, rfl, ho1, ho3, hb⟩
    have C2 := Lib.hid hb
    clear hb
    have t2 := C2.out.size
    have Bw2 := Lib.hid (Bw1.out.trans (C2.out.mono Bw1.out.size))
    have s2_0 := (C2.out.cell (p := ⟨w.heap.size, 0, none⟩) (show w.heap.size < w1.heap.size by omega)).trans s1_0
    have s2_1 := (C2.out.cell (p := ⟨w.heap.size, 1, none⟩) (show w.heap.size < w1.heap.size by omega)).trans s1_1
    have s2_2 := (C2.out.cell (p := ⟨w.heap.size, 2, none⟩) (show w.heap.size < w1.heap.size by omega)).trans s1_2
    have s2_3 := (C2.out.cell (p := ⟨w.heap.size, 3, none⟩) (show w.heap.size < w1.heap.size by omega)).trans s1_3
    have s2_4 := (C2.out.cell (p := ⟨w.heap.size, 4, none⟩) (show w.heap.size < w1.heap.size by omega)).trans s1_4
    have s2_5 := (C2.out.cell (p := ⟨w.heap.size, 5, none⟩) (show w.heap.size < w1.heap.size by omega)).trans s1_5
    have s2_6 := (C2.out.cell (p := ⟨w.heap.size, 6, none⟩) (show w.heap.size < w1.heap.size by omega)).trans s1_6
    have s2_7 := (C2.out.cell (p := ⟨w.heap.size, 7, none⟩) (show w.heap.size < w1.heap.size by omega)).trans s1_7
    have s2_8 := (C2.out.cell (p := ⟨w.heap.size, 8, none⟩) (show w.heap.size < w1.heap.size by omega)).trans s1_8
    clear s1_0 s1_1 s1_2 s1_3 s1_4 s1_5 s1_6 s1_7 s1_8
    have ok2 : Bnd.Ok ⟨⟨b.m.name, b.m.stage, b.m.x, A1, b.m.x.length⟩, b.bob, b.sing, b.step, b.call, b.tru, b.rx, A3, b.rx.length⟩ w2 := ⟨ho1.rd encString_len, ho3.rd Rgr_enc_len, by simp only; omega, by simp only; omega, M3.out, by simp only; omega, by simp only; omega, by simp only; omega, by simp only; omega, by simp only; omega⟩
    have OK2 := Lib.hid ok2
    clear ok2 ho1 ho3
    go_wp2_with fail
    refine (sBand_any _ w2 OK2.out).mono ?_
    rintro e w3 ⟨he, hb⟩
    have he2 : e = .returned (.bool (B (bandP b))) := he
    rw [e1] at he2
    subst he2
    clear he
    have C3 := Lib.hid hb
    clear hb
    have t3 := C3.out.size
    have Bw3 := Lib.hid (Bw2.out.trans (C3.out.mono Bw2.out.size))
    have s3_0 := (C3.out.cell (p := ⟨w.heap.size, 0, none⟩) (show w.heap.size < w2.heap.size by omega)).trans s2_0
    have s3_1 := (C3.out.cell (p := ⟨w.heap.size, 1, none⟩) (show w.heap.size < w2.heap.size by omega)).trans s2_1
    have s3_2 := (C3.out.cell (p := ⟨w.heap.size, 2, none⟩) (show w.heap.size < w2.heap.size by omega)).trans s2_2
    have s3_3 := (C3.out.cell (p := ⟨w.heap.size, 3, none⟩) (show w.heap.size < w2.heap.size by omega)).trans s2_3
    have s3_4 := (C3.out.cell (p := ⟨w.heap.size, 4, none⟩) (show w.heap.size < w2.heap.size by omega)).trans s2_4
    have s3_5 := (C3.out.cell (p := ⟨w.heap.size, 5, none⟩) (show w.heap.size < w2.heap.size by omega)).trans s2_5
    have s3_6 := (C3.out.cell (p := ⟨w.heap.size, 6, none⟩) (show w.heap.size < w2.heap.size by omega)).trans s2_6
    have s3_7 := (C3.out.cell (p := ⟨w.heap.size, 7, none⟩) (show w.heap.size < w2.heap.size by omega)).trans s2_7
    have s3_8 := (C3.out.cell (p := ⟨w.heap.size, 8, none⟩) (show w.heap.size < w2.heap.size by omega)).trans s2_8
    clear s2_0 s2_1 s2_2 s2_3 s2_4 s2_5 s2_6 s2_7 s2_8
    go_wp2_with fail
    refine (toBand_any b w3 ((H.out.below Bw3.out (Nat.le_refl _)).more Bw3.out.size) ((Hr.out.below Bw3.out (Nat.le_refl _)).more Bw3.out.size) (by omega) (by omega)).mono ?_
    rintro e w4 ⟨A1', A3', rfl, ho1, ho3, hb⟩
    have C4 := Lib.hid hb
    clear hb
    have t4 := C4.out.size
    have Bw4 := Lib.hid (Bw3.out.trans (C4.out.mono Bw3.out.size))
    have s4_0 := (C4.out.cell (p := ⟨w.heap.size, 0, none⟩) (show w.heap.size < w3.heap.size by omega)).trans s3_0
    have s4_1 := (C4.out.cell (p := ⟨w.heap.size, 1, none⟩) (show w.heap.size < w3.heap.size by omega)).trans s3_1
    have s4_2 := (C4.out.cell (p := ⟨w.heap.size, 2, none⟩) (show w.heap.size < w3.heap.size by omega)).trans s3_2
    have s4_3 := (C4.out.cell (p := ⟨w.heap.size, 3, none⟩) (show w.heap.size < w3.heap.size by omega)).trans s3_3
    have s4_4 := (C4.out.cell (p := ⟨w.heap.size, 4, none⟩) (show w.heap.size < w3.heap.size by omega)).trans s3_4
    have s4_5 := (C4.out.cell (p := ⟨w.heap.size, 5, none⟩) (show w.heap.size < w3.heap.size by omega)).trans s3_5
    have s4_6 := (C4.out.cell (p := ⟨w.heap.size, 6, none⟩) (show w.heap.size < w3.heap.size by omega)).trans s3_6
    have s4_7 := (C4.out.cell (p := ⟨w.heap.size, 7, none⟩) (show w.heap.size < w3.heap.size by omega)).trans s3_7
    have s4_8 := (C4.out.cell (p := ⟨w.heap.size, 8, none⟩) (show w.heap.size < w3.heap.size by omega)).trans s3_8
    clear s3_0 s3_1 s3_2 s3_3 s3_4 s3_5 s3_6 s3_7 s3_8
    have ok4 : Bnd.Ok ⟨⟨b.m.name, b.m.stage, b.m.x, A1', b.m.x.length⟩, b.bob, b.sing, b.step, b.call, b.tru, b.rx, A3', b.rx.length⟩ w4 := ⟨ho1.rd encString_len, ho3.rd Rgr_enc_len, by simp only; omega, by simp only; omega, M3.out, by simp only; omega, by simp only; omega, by simp only; omega, by simp only; omega, by simp only; omega⟩
    have OK4 := Lib.hid ok4
    have O1 := Lib.hid ho1
    have O3 := Lib.hid ho3
    clear ok4 ho1 ho3
    go_wp2_with fail
    have x4_0 : (w4.alloc (.cells #[.string b.m.name, .int .i64 b.m.stage, .slice A1' b.m.x.length b.m.x.length, .string b.bob, .string b.sing, .int .i64 b.step, .string b.call, .string b.tru, .slice A3' b.rx.length b.rx.length] 84)).cell? ⟨w4.heap.size, 0, none⟩ = some (.string b.m.name) := by simp [go_sem]
    have x4_1 : (w4.alloc (.cells #[.string b.m.name, .int .i64 b.m.stage, .slice A1' b.m.x.length b.m.x.length, .string b.bob, .string b.sing, .int .i64 b.step, .string b.call, .string b.tru, .slice A3' b.rx.length b.rx.length] 84)).cell? ⟨w4.heap.size, 1, none⟩ = some (.int .i64 b.m.stage) := by simp [go_sem]
    have x4_2 : (w4.alloc (.cells #[.string b.m.name, .int .i64 b.m.stage, .slice A1' b.m.x.length b.m.x.length, .string b.bob, .string b.sing, .int .i64 b.step, .string b.call, .string b.tru, .slice A3' b.rx.length b.rx.length] 84)).cell? ⟨w4.heap.size, 2, none⟩ = some (.slice A1' b.m.x.length b.m.x.length) := by simp [go_sem]
    have x4_3 : (w4.alloc (.cells #[.string b.m.name, .int .i64 b.m.stage, .slice A1' b.m.x.length b.m.x.length, .string b.bob, .string b.sing, .int .i64 b.step, .string b.call, .string b.tru, .slice A3' b.rx.length b.rx.length] 84)).cell? ⟨w4.heap.size, 3, none⟩ = some (.string b.bob) := by simp [go_sem]
    have x4_4 : (w4.alloc (.cells #[.string b.m.name, .int .i64 b.m.stage, .slice A1' b.m.x.length b.m.x.length, .string b.bob, .string b.sing, .int .i64 b.step, .string b.call, .string b.tru, .slice A3' b.rx.length b.rx.length] 84)).cell? ⟨w4.heap.size, 4, none⟩ = some (.string b.sing) := by simp [go_sem]
    have x4_5 : (w4.alloc (.cells #[.string b.m.name, .int .i64 b.m.stage, .slice A1' b.m.x.length b.m.x.length, .string b.bob, .string b.sing, .int .i64 b.step, .string b.call, .string b.tru, .slice A3' b.rx.length b.rx.length] 84)).cell? ⟨w4.heap.size, 5, none⟩ = some (.int .i64 b.step) := by simp [go_sem]
    have x4_6 : (w4.alloc (.cells #[.string b.m.name, .int .i64 b.m.stage, .slice A1' b.m.x.length b.m.x.length, .string b.bob, .string b.sing, .int .i64 b.step, .string b.call, .string b.tru, .slice A3' b.rx.length b.rx.length] 84)).cell? ⟨w4.heap.size, 6, none⟩ = some (.string b.call) := by simp [go_sem]
    have x4_7 : (w4.alloc (.cells #[.string b.m.name, .int .i64 b.m.stage, .slice A1' b.m.x.length b.m.x.length, .string b.bob, .string b.sing, .int .i64 b.step, .string b.call, .string b.tru, .slice A3' b.rx.length b.rx.length] 84)).cell? ⟨w4.heap.size, 7, none⟩ = some (.string b.tru) := by simp [go_sem]
    have x4_8 : (w4.alloc (.cells #[.string b.m.name, .int .i64 b.m.stage, .slice A1' b.m.x.length b.m.x.length, .string b.bob, .string b.sing, .int .i64 b.step, .string b.call, .string b.tru, .slice A3' b.rx.length b.rx.length] 84)).cell? ⟨w4.heap.size, 8, none⟩ = some (.slice A3' b.rx.length b.rx.length) := by simp [go_sem]
    have hbx : Below w4.heap.size w4 (w4.alloc (.cells #[.string b.m.name, .int .i64 b.m.stage, .slice A1' b.m.x.length b.m.x.length, .string b.bob, .string b.sing, .int .i64 b.step, .string b.call, .string b.tru, .slice A3' b.rx.length b.rx.length] 84)) := (Below.refl _ _).alloc (Nat.le_refl _) _
    have hx4 : w4.heap.size < (w4.alloc (.cells #[.string b.m.name, .int .i64 b.m.stage, .slice A1' b.m.x.length b.m.x.length, .string b.bob, .string b.sing, .int .i64 b.step, .string b.call, .string b.tru, .slice A3' b.rx.length b.rx.length] 84)).heap.size := by simp
    have HX := Lib.hid hbx
    clear hbx
    have ox := Lib.hid (OK4.out.later HX.out)
    have O1x := Lib.hid (O1.out.later HX.out)
    have O3x := Lib.hid (O3.out.later HX.out)
    have Bwx := Lib.hid (Bw4.out.trans (HX.out.mono Bw4.out.size))
    have sx_0 := (HX.out.cell (p := ⟨w.heap.size, 0, none⟩) (show w.heap.size < w4.heap.size by omega)).trans s4_0
    have sx_1 := (HX.out.cell (p := ⟨w.heap.size, 1, none⟩) (show w.heap.size < w4.heap.size by omega)).trans s4_1
    have sx_2 := (HX.out.cell (p := ⟨w.heap.size, 2, none⟩) (show w.heap.size < w4.heap.size by omega)).trans s4_2
    have sx_3 := (HX.out.cell (p := ⟨w.heap.size, 3, none⟩) (show w.heap.size < w4.heap.size by omega)).trans s4_3
    have sx_4 := (HX.out.cell (p := ⟨w.heap.size, 4, none⟩) (show w.heap.size < w4.heap.size by omega)).trans s4_4
    have sx_5 := (HX.out.cell (p := ⟨w.heap.size, 5, none⟩) (show w.heap.size < w4.heap.size by omega)).trans s4_5
    have sx_6 := (HX.out.cell (p := ⟨w.heap.size, 6, none⟩) (show w.heap.size < w4.heap.size by omega)).trans s4_6
    have sx_7 := (HX.out.cell (p := ⟨w.heap.size, 7, none⟩) (show w.heap.size < w4.heap.size by omega)).trans s4_7
    have sx_8 := (HX.out.cell (p := ⟨w.heap.size, 8, none⟩) (show w.heap.size < w4.heap.size by omega)).trans s4_8
    clear s4_0 s4_1 s4_2 s4_3 s4_4 s4_5 s4_6 s4_7 s4_8
    generalize (w4.alloc (.cells #[.string b.m.name, .int .i64 b.m.stage, .slice A1' b.m.x.length b.m.x.length, .string b.bob, .string b.sing, .int .i64 b.step, .string b.call, .string b.tru, .slice A3' b.rx.length b.rx.length] 84)) = wx at *
    generalize w4.heap.size = gx at *
    refine (iBand_any _ wx ox.out).mono ?_
    rintro e w5 ⟨he, hb⟩
    have he2 : e = .returned (.bool (B (bandP b))) := he
    rw [e1] at he2
    subst he2
    clear he
    have C5 := Lib.hid hb
    clear hb
    have t5 := C5.out.size
    have Bw5 := Lib.hid (Bwx.out.trans (C5.out.mono Bwx.out.size))
    have s5_0 := (C5.out.cell (p := ⟨w.heap.size, 0, none⟩) (show w.heap.size < wx.heap.size by omega)).trans sx_0
    have x5_0 := (C5.out.cell (p := ⟨gx, 0, none⟩) (show gx < wx.heap.size by omega)).trans x4_0
    have s5_1 := (C5.out.cell (p := ⟨w.heap.size, 1, none⟩) (show w.heap.size < wx.heap.size by omega)).trans sx_1
    have x5_1 := (C5.out.cell (p := ⟨gx, 1, none⟩) (show gx < wx.heap.size by omega)).trans x4_1
    have s5_2 := (C5.out.cell (p := ⟨w.heap.size, 2, none⟩) (show w.heap.size < wx.heap.size by omega)).trans sx_2
    have x5_2 := (C5.out.cell (p := ⟨gx, 2, none⟩) (show gx < wx.heap.size by omega)).trans x4_2
    have s5_3 := (C5.out.cell (p := ⟨w.heap.size, 3, none⟩) (show w.heap.size < wx.heap.size by omega)).trans sx_3
    have x5_3 := (C5.out.cell (p := ⟨gx, 3, none⟩) (show gx < wx.heap.size by omega)).trans x4_3
    have s5_4 := (C5.out.cell (p := ⟨w.heap.size, 4, none⟩) (show w.heap.size < wx.heap.size by omega)).trans sx_4
    have x5_4 := (C5.out.cell (p := ⟨gx, 4, none⟩) (show gx < wx.heap.size by omega)).trans x4_4
    have s5_5 := (C5.out.cell (p := ⟨w.heap.size, 5, none⟩) (show w.heap.size < wx.heap.size by omega)).trans sx_5
    have x5_5 := (C5.out.cell (p := ⟨gx, 5, none⟩) (show gx < wx.heap.size by omega)).trans x4_5
    have s5_6 := (C5.out.cell (p := ⟨w.heap.size, 6, none⟩) (show w.heap.size < wx.heap.size by omega)).trans sx_6
    have x5_6 := (C5.out.cell (p := ⟨gx, 6, none⟩) (show gx < wx.heap.size by omega)).trans x4_6
    have s5_7 := (C5.out.cell (p := ⟨w.heap.size, 7, none⟩) (show w.heap.size < wx.heap.size by omega)).trans sx_7
    have x5_7 := (C5.out.cell (p := ⟨gx, 7, none⟩) (show gx < wx.heap.size by omega)).trans x4_7
    have s5_8 := (C5.out.cell (p := ⟨w.heap.size, 8, none⟩) (show w.heap.size < wx.heap.size by omega)).trans sx_8
    have x5_8 := (C5.out.cell (p := ⟨gx, 8, none⟩) (show gx < wx.heap.size by omega)).trans x4_8
    clear sx_0 sx_1 sx_2 sx_3 sx_4 sx_5 sx_6 sx_7 sx_8 x4_0 x4_1 x4_2 x4_3 x4_4 x4_5 x4_6 x4_7 x4_8
    have P1 := Lib.hid (O1x.out.later C5.out)
    have P3 := Lib.hid (O3x.out.later C5.out)
    go_wp2_with fail
    go_region_with (first | (go_at_call 60; (refine (toBand_any b w5.drew ((H.out.below Bw5.out.drew (Nat.le_refl _)).more (show w.heap.size ≤ w5.heap.size by omega)) ((Hr.out.below Bw5.out.drew (Nat.le_refl _)).more (show w.heap.size ≤ w5.heap.size by omega)) (by omega) (by omega)).mono ?_; rintro e w6 ⟨A1'', A3'', rfl, hq1, hq3, hb6⟩; have y6_0 : w6.cell? ⟨gx, 0, none⟩ = some (.string b.m.name) := (hb6.cell (p := ⟨gx, 0, none⟩) (show gx < w5.heap.size by omega)).trans x5_0; have y6_1 : w6.cell? ⟨gx, 1, none⟩ = some (.int .i64 b.m.stage) := (hb6.cell (p := ⟨gx, 1, none⟩) (show gx < w5.heap.size by omega)).trans x5_1; have y6_2 : w6.cell? ⟨gx, 2, none⟩ = some (.slice A1' b.m.x.length b.m.x.length) := (hb6.cell (p := ⟨gx, 2, none⟩) (show gx < w5.heap.size by omega)).trans x5_2; have y6_3 : w6.cell? ⟨gx, 3, none⟩ = some (.string b.bob) := (hb6.cell (p := ⟨gx, 3, none⟩) (show gx < w5.heap.size by omega)).trans x5_3; have y6_4 : w6.cell? ⟨gx, 4, none⟩ = some (.string b.sing) := (hb6.cell (p := ⟨gx, 4, none⟩) (show gx < w5.heap.size by omega)).trans x5_4; have y6_5 : w6.cell? ⟨gx, 5, none⟩ = some (.int .i64 b.step) := (hb6.cell (p := ⟨gx, 5, none⟩) (show gx < w5.heap.size by omega)).trans x5_5; have y6_6 : w6.cell? ⟨gx, 6, none⟩ = some (.string b.call) := (hb6.cell (p := ⟨gx, 6, none⟩) (show gx < w5.heap.size by omega)).trans x5_6; have y6_7 : w6.cell? ⟨gx, 7, none⟩ = some (.string b.tru) := (hb6.cell (p := ⟨gx, 7, none⟩) (show gx < w5.heap.size by omega)).trans x5_7; have y6_8 : w6.cell? ⟨gx, 8, none⟩ = some (.slice A3' b.rx.length b.rx.length) := (hb6.cell (p := ⟨gx, 8, none⟩) (show gx < w5.heap.size by omega)).trans x5_8; have P6 := OwnL.later (w := w5.drew) P1.out hb6; have P7 := OwnL.later (w := w5.drew) P3.out hb6; have HQ1 := Lib.hid hq1; have HQ3 := Lib.hid hq3; have HP6 := Lib.hid P6; have HP7 := Lib.hid P7; clear hq1 hq3 P6 P7)) | (go_at_call 62; refine (eqBand_t ⟨⟨b.m.name, b.m.stage, b.m.x, A1', b.m.x.length⟩, b.bob, b.sing, b.step, b.call, b.tru, b.rx, A3', b.rx.length⟩ A1'' A3'' b.m.x.length b.rx.length w6 (HP6.out.rd encString_len) (HQ1.out.rd encString_len) (HP7.out.rd Rgr_enc_len) (HQ3.out.rd Rgr_enc_len) (by simp only; omega) (by simp only; omega)).mono ?_; rintro e w7 ⟨rfl, hb7⟩))
    all_goals (try go_wp2)
    all_goals go_ret
    all_goals exact ⟨rfl, (Bw5.out.drew.trans (hb6.mono Bw5.out.size)).trans (hb7.mono (show w.heap.size ≤ w6.heap.size from Nat.le_trans Bw5.out.size hb6.size))⟩
  · have e1 := B_f hp
    clear hp
    go_wp2_with fail
    refine (toBand_any b w1 ((H.out.below Bw1.out (Nat.le_refl _)).more Bw1.out.size) ((Hr.out.below Bw1.out (Nat.le_refl _)).more Bw1.out.size) (by omega) (by omega)).mono ?_
    rintro e w2 ⟨A1, A3, rfl, ho1, ho3, hb⟩
    have C2 := Lib.hid hb
    clear hb
    have t2 := C2.out.size
    have Bw2 := Lib.hid (Bw1.out.trans (C2.out.mono Bw1.out.size))
    have s2_0 := (C2.out.cell (p := ⟨w.heap.size, 0, none⟩) (show w.heap.size < w1.heap.size by omega)).trans s1_0
    have s2_1 := (C2.out.cell (p := ⟨w.heap.size, 1, none⟩) (show w.heap.size < w1.heap.size by omega)).trans s1_1
    have s2_2 := (C2.out.cell (p := ⟨w.heap.size, 2, none⟩) (show w.heap.size < w1.heap.size by omega)).trans s1_2
    have s2_3 := (C2.out.cell (p := ⟨w.heap.size, 3, none⟩) (show w.heap.size < w1.heap.size by omega)).trans s1_3
    have s2_4 := (C2.out.cell (p := ⟨w.heap.size, 4, none⟩) (show w.heap.size < w1.heap.size by omega)).trans s1_4
    have s2_5 := (C2.out.cell (p := ⟨w.heap.size, 5, none⟩) (show w.heap.size < w1.heap.size by omega)).trans s1_5
    have s2_6 := (C2.out.cell (p := ⟨w.heap.size, 6, none⟩) (show w.heap.size < w1.heap.size by omega)).trans s1_6
    have s2_7 := (C2.out.cell (p := ⟨w.heap.size, 7, none⟩) (show w.heap.size < w1.heap.size by omega)).trans s1_7
    have s2_8 := (C2.out.cell (p := ⟨w.heap.size, 8, none⟩) (show w.heap.size < w1.heap.size by omega)).trans s1_8
    clear s1_0 s1_1 s1_2 s1_3 s1_4 s1_5 s1_6 s1_7 s1_8
    have ok2 : Bnd.Ok ⟨⟨b.m.name, b.m.stage, b.m.x, A1, b.m.x.length⟩, b.bob, b.sing, b.step, b.call, b.tru, b.rx, A3, b.rx.length⟩ w2 := ⟨ho1.rd encString_len, ho3.rd Rgr_enc_len, by simp only; omega, by simp only; omega, M3.out, by simp only; omega, by simp only; omega, by simp only; omega, by simp only; omega, by simp only; omega⟩
    have OK2 := Lib.hid ok2
    clear ok2 ho1 ho3
    go_wp2_with fail
    refine (sBand_any _ w2 OK2.out).mono ?_
    rintro e w3 ⟨he, hb⟩
    have he2 : e = .returned (.bool (B (bandP b))) := he
    rw [e1] at he2
    subst he2
    clear he
    have C3 := Lib.hid hb
    clear hb
    have t3 := C3.out.size
    have Bw3 := Lib.hid (Bw2.out.trans (C3.out.mono Bw2.out.size))
    have s3_0 := (C3.out.cell (p := ⟨w.heap.size, 0, none⟩) (show w.heap.size < w2.heap.size by omega)).trans s2_0
    have s3_1 := (C3.out.cell (p := ⟨w.heap.size, 1, none⟩) (show w.heap.size < w2.heap.size by omega)).trans s2_1
    have s3_2 := (C3.out.cell (p := ⟨w.heap.size, 2, none⟩) (show w.heap.size < w2.heap.size by omega)).trans s2_2
    have s3_3 := (C3.out.cell (p := ⟨w.heap.size, 3, none⟩) (show w.heap.size < w2.heap.size by omega)).trans s2_3
    have s3_4 := (C3.out.cell (p := ⟨w.heap.size, 4, none⟩) (show w.heap.size < w2.heap.size by omega)).trans s2_4
    have s3_5 := (C3.out.cell (p := ⟨w.heap.size, 5, none⟩) (show w.heap.size < w2.heap.size by omega)).trans s2_5
    have s3_6 := (C3.out.cell (p := ⟨w.heap.size, 6, none⟩) (show w.heap.size < w2.heap.size by omega)).trans s2_6
    have s3_7 := (C3.out.cell (p := ⟨w.heap.size, 7, none⟩) (show w.heap.size < w2.heap.size by omega)).trans s2_7
    have s3_8 := (C3.out.cell (p := ⟨w.heap.size, 8, none⟩) (show w.heap.size < w2.heap.size by omega)).trans s2_8
    clear s2_0 s2_1 s2_2 s2_3 s2_4 s2_5 s2_6 s2_7 s2_8
    go_wp2_with fail
    refine (toBand_any b w3 ((H.out.below Bw3.out (Nat.le_refl _)).more Bw3.out.size) ((Hr.out.below Bw3.out (Nat.le_refl _)).more Bw3.out.size) (by omega) (by omega)).mono ?_
    rintro e w4 ⟨A1', A3', rfl, ho1, ho3, hb⟩
    have C4 := Lib.hid hb
    clear hb
    have t4 := C4.out.size
    have Bw4 := Lib.hid (Bw3.out.trans (C4.out.mono Bw3.out.size))
    have s4_0 := (C4.out.cell (p := ⟨w.heap.size, 0, none⟩) (show w.heap.size < w3.heap.size by omega)).trans s3_0
    have s4_1 := (C4.out.cell (p := ⟨w.heap.size, 1, none⟩) (show w.heap.size < w3.heap.size by omega)).trans s3_1
    have s4_2 := (C4.out.cell (p := ⟨w.heap.size, 2, none⟩) (show w.heap.size < w3.heap.size by omega)).trans s3_2
    have s4_3 := (C4.out.cell (p := ⟨w.heap.size, 3, none⟩) (show w.heap.size < w3.heap.size by omega)).trans s3_3
    have s4_4 := (C4.out.cell (p := ⟨w.heap.size, 4, none⟩) (show w.heap.size < w3.heap.size by omega)).trans s3_4
    have s4_5 := (C4.out.cell (p := ⟨w.heap.size, 5, none⟩) (show w.heap.size < w3.heap.size by omega)).trans s3_5
    have s4_6 := (C4.out.cell (p := ⟨w.heap.size, 6, none⟩) (show w.heap.size < w3.heap.size by omega)).trans s3_6
    have s4_7 := (C4.out.cell (p := ⟨w.heap.size, 7, none⟩) (show w.heap.size < w3.heap.size by omega)).trans s3_7
    have s4_8 := (C4.out.cell (p := ⟨w.heap.size, 8, none⟩) (show w.heap.size < w3.heap.size by omega)).trans s3_8
    clear s3_0 s3_1 s3_2 s3_3 s3_4 s3_5 s3_6 s3_7 s3_8
    have ok4 : Bnd.Ok ⟨⟨b.m.name, b.m.stage, b.m.x, A1', b.m.x.length⟩, b.bob, b.sing, b.step, b.call, b.tru, b.rx, A3', b.rx.length⟩ w4 := ⟨ho1.rd encString_len, ho3.rd Rgr_enc_len, by simp only; omega, by simp only; omega, M3.out, by simp only; omega, by simp only; omega, by simp only; omega, by simp only; omega, by simp only; omega⟩
    have OK4 := Lib.hid ok4
    have O1 := Lib.hid ho1
    have O3 := Lib.hid ho3
    clear ok4 ho1 ho3
    go_wp2_with fail
    have x4_0 : (w4.alloc (.cells #[.string b.m.name, .int .i64 b.m.stage, .slice A1' b.m.x.length b.m.x.length, .string b.bob, .string b.sing, .int .i64 b.step, .string b.call, .string b.tru, .slice A3' b.rx.length b.rx.length] 84)).cell? ⟨w4.heap.size, 0, none⟩ = some (.string b.m.name) := by simp [go_sem]
    have x4_1 : (w4.alloc (.cells #[.string b.m.name, .int .i64 b.m.stage, .slice A1' b.m.x.length b.m.x.length, .string b.bob, .string b.sing, .int .i64 b.step, .string b.call, .string b.tru, .slice A3' b.rx.length b.rx.length] 84)).cell? ⟨w4.heap.size, 1, none⟩ = some (.int .i64 b.m.stage) := by simp [go_sem]
    have x4_2 : (w4.alloc (.cells #[.string b.m.name, .int .i64 b.m.stage, .slice A1' b.m.x.length b.m.x.length, .string b.bob, .string b.sing, .int .i64 b.step, .string b.call, .string b.tru, .slice A3' b.rx.length b.rx.length] 84)).cell? ⟨w4.heap.size, 2, none⟩ = some (.slice A1' b.m.x.length b.m.x.length) := by simp [go_sem]
    have x4_3 : (w4.alloc (.cells #[.string b.m.name, .int .i64 b.m.stage, .slice A1' b.m.x.length b.m.x.length, .string b.bob, .string b.sing, .int .i64 b.step, .string b.call, .string b.tru, .slice A3' b.rx.length b.rx.length] 84)).cell? ⟨w4.heap.size, 3, none⟩ = some (.string b.bob) := by simp [go_sem]
    have x4_4 : (w4.alloc (.cells #[.string b.m.name, .int .i64 b.m.stage, .slice A1' b.m.x.length b.m.x.length, .string b.bob, .string b.sing, .int .i64 b.step, .string b.call, .string b.tru, .slice A3' b.rx.length b.rx.length] 84)).cell? ⟨w4.heap.size, 4, none⟩ = some (.string b.sing) := by simp [go_sem]
    have x4_5 : (w4.alloc (.cells #[.string b.m.name, .int .i64 b.m.stage, .slice A1' b.m.x.length b.m.x.length, .string b.bob, .string b.sing, .int .i64 b.step, .string b.call, .string b.tru, .slice A3' b.rx.length b.rx.length] 84)).cell? ⟨w4.heap.size, 5, none⟩ = some (.int .i64 b.step) := by simp [go_sem]
    have x4_6 : (w4.alloc (.cells #[.string b.m.name, .int .i64 b.m.stage, .slice A1' b.m.x.length b.m.x.length, .string b.bob, .string b.sing, .int .i64 b.step, .string b.call, .string b.tru, .slice A3' b.rx.length b.rx.length] 84)).cell? ⟨w4.heap.size, 6, none⟩ = some (.string b.call) := by simp [go_sem]
    have x4_7 : (w4.alloc (.cells #[.string b.m.name, .int .i64 b.m.stage, .slice A1' b.m.x.length b.m.x.length, .string b.bob, .string b.sing, .int .i64 b.step, .string b.call, .string b.tru, .slice A3' b.rx.length b.rx.length] 84)).cell? ⟨w4.heap.size, 7, none⟩ = some (.string b.tru) := by simp [go_sem]
    have x4_8 : (w4.alloc (.cells #[.string b.m.name, .int .i64 b.m.stage, .slice A1' b.m.x.length b.m.x.length, .string b.bob, .string b.sing, .int .i64 b.step, .string b.call, .string b.tru, .slice A3' b.rx.length b.rx.length] 84)).cell? ⟨w4.heap.size, 8, none⟩ = some (.slice A3' b.rx.length b.rx.length) := by simp [go_sem]
    have hbx : Below w4.heap.size w4 (w4.alloc (.cells #[.string b.m.name, .int .i64 b.m.stage, .slice A1' b.m.x.length b.m.x.length, .string b.bob, .string b.sing, .int .i64 b.step, .string b.call, .string b.tru, .slice A3' b.rx.length b.rx.length] 84)) := (Below.refl _ _).alloc (Nat.le_refl _) _
    have hx4 : w4.heap.size < (w4.alloc (.cells #[.string b.m.name, .int .i64 b.m.stage, .slice A1' b.m.x.length b.m.x.length, .string b.bob, .string b.sing, .int .i64 b.step, .string b.call, .string b.tru, .slice A3' b.rx.length b.rx.length] 84)).heap.size := by simp
    have HX := Lib.hid hbx
    clear hbx
    have ox := Lib.hid (OK4.out.later HX.out)
    have O1x := Lib.hid (O1.out.later HX.out)
    have O3x := Lib.hid (O3.out.later HX.out)
    have Bwx := Lib.hid (Bw4.out.trans (HX.out.mono Bw4.out.size))
    have sx_0 := (HX.out.cell (p := ⟨w.heap.size, 0, none⟩) (show w.heap.size < w4.heap.size by omega)).trans s4_0
    have sx_1 := (HX.out.cell (p := ⟨w.heap.size, 1, none⟩) (show w.heap.size < w4.heap.size by omega)).trans s4_1
    have sx_2 := (HX.out.cell (p := ⟨w.heap.size, 2, none⟩) (show w.heap.size < w4.heap.size by omega)).trans s4_2
    have sx_3 := (HX.out.cell (p := ⟨w.heap.size, 3, none⟩) (show w.heap.size < w4.heap.size by omega)).trans s4_3
    have sx_4 := (HX.out.cell (p := ⟨w.heap.size, 4, none⟩) (show w.heap.size < w4.heap.size by omega)).trans s4_4
    have sx_5 := (HX.out.cell (p := ⟨w.heap.size, 5, none⟩) (show w.heap.size < w4.heap.size by omega)).trans s4_5
    have sx_6 := (HX.out.cell (p := ⟨w.heap.size, 6, none⟩) (show w.heap.size < w4.heap.size by omega)).trans s4_6
    have sx_7 := (HX.out.cell (p := ⟨w.heap.size, 7, none⟩) (show w.heap.size < w4.heap.size by omega)).trans s4_7
    have sx_8 := (HX.out.cell (p := ⟨w.heap.size, 8, none⟩) (show w.heap.size < w4.heap.size by omega)).trans s4_8
    clear s4_0 s4_1 s4_2 s4_3 s4_4 s4_5 s4_6 s4_7 s4_8
    generalize (w4.alloc (.cells #[.string b.m.name, .int .i64 b.m.stage, .slice A1' b.m.x.length b.m.x.length, .string b.bob, .string b.sing, .int .i64 b.step, .string b.call, .string b.tru, .slice A3' b.rx.length b.rx.length] 84)) = wx at *
    generalize w4.heap.size = gx at *
    refine (iBand_any _ wx ox.out).mono ?_
    rintro e w5 ⟨he, hb⟩
    have he2 : e = .returned (.bool (B (bandP b))) := he
    rw [e1] at he2
    subst he2
    clear he
    have C5 := Lib.hid hb
    clear hb
    have t5 := C5.out.size
    have Bw5 := Lib.hid (Bwx.out.trans (C5.out.mono Bwx.out.size))
    have s5_0 := (C5.out.cell (p := ⟨w.heap.size, 0, none⟩) (show w.heap.size < wx.heap.size by omega)).trans sx_0
    have x5_0 := (C5.out.cell (p := ⟨gx, 0, none⟩) (show gx < wx.heap.size by omega)).trans x4_0
    have s5_1 := (C5.out.cell (p := ⟨w.heap.size, 1, none⟩) (show w.heap.size < wx.heap.size by omega)).trans sx_1
    have x5_1 := (C5.out.cell (p := ⟨gx, 1, none⟩) (show gx < wx.heap.size by omega)).trans x4_1
    have s5_2 := (C5.out.cell (p := ⟨w.heap.size, 2, none⟩) (show w.heap.size < wx.heap.size by omega)).trans sx_2
    have x5_2 := (C5.out.cell (p := ⟨gx, 2, none⟩) (show gx < wx.heap.size by omega)).trans x4_2
    have s5_3 := (C5.out.cell (p := ⟨w.heap.size, 3, none⟩) (show w.heap.size < wx.heap.size by omega)).trans sx_3
    have x5_3 := (C5.out.cell (p := ⟨gx, 3, none⟩) (show gx < wx.heap.size by omega)).trans x4_3
    have s5_4 := (C5.out.cell (p := ⟨w.heap.size, 4, none⟩) (show w.heap.size < wx.heap.size by omega)).trans sx_4
    have x5_4 := (C5.out.cell (p := ⟨gx, 4, none⟩) (show gx < wx.heap.size by omega)).trans x4_4
    have s5_5 := (C5.out.cell (p := ⟨w.heap.size, 5, none⟩) (show w.heap.size < wx.heap.size by omega)).trans sx_5
    have x5_5 := (C5.out.cell (p := ⟨gx, 5, none⟩) (show gx < wx.heap.size by omega)).trans x4_5
    have s5_6 := (C5.out.cell (p := ⟨w.heap.size, 6, none⟩) (show w.heap.size < wx.heap.size by omega)).trans sx_6
    have x5_6 := (C5.out.cell (p := ⟨gx, 6, none⟩) (show gx < wx.heap.size by omega)).trans x4_6
    have s5_7 := (C5.out.cell (p := ⟨w.heap.size, 7, none⟩) (show w.heap.size < wx.heap.size by omega)).trans sx_7
    have x5_7 := (C5.out.cell (p := ⟨gx, 7, none⟩) (show gx < wx.heap.size by omega)).trans x4_7
    have s5_8 := (C5.out.cell (p := ⟨w.heap.size, 8, none⟩) (show w.heap.size < wx.heap.size by omega)).trans sx_8
    have x5_8 := (C5.out.cell (p := ⟨gx, 8, none⟩) (show gx < wx.heap.size by omega)).trans x4_8
    clear sx_0 sx_1 sx_2 sx_3 sx_4 sx_5 sx_6 sx_7 sx_8 x4_0 x4_1 x4_2 x4_3 x4_4 x4_5 x4_6 x4_7 x4_8
    have P1 := Lib.hid (O1x.out.later C5.out)
    have P3 := Lib.hid (O3x.out.later C5.out)
    go_wp2_with fail
    go_region_with (first | (go_at_call 60; (refine (toBand_any b w5.drew ((H.out.below Bw5.out.drew (Nat.le_refl _)).more (show w.heap.size ≤ w5.heap.size by omega)) ((Hr.out.below Bw5.out.drew (Nat.le_refl _)).more (show w.heap.size ≤ w5.heap.size by omega)) (by omega) (by omega)).mono ?_; rintro e w6 ⟨A1'', A3'', rfl, hq1, hq3, hb6⟩; have y6_0 : w6.cell? ⟨gx, 0, none⟩ = some (.string b.m.name) := (hb6.cell (p := ⟨gx, 0, none⟩) (show gx < w5.heap.size by omega)).trans x5_0; have y6_1 : w6.cell? ⟨gx, 1, none⟩ = some (.int .i64 b.m.stage) := (hb6.cell (p := ⟨gx, 1, none⟩) (show gx < w5.heap.size by omega)).trans x5_1; have y6_2 : w6.cell? ⟨gx, 2, none⟩ = some (.slice A1' b.m.x.length b.m.x.length) := (hb6.cell (p := ⟨gx, 2, none⟩) (show gx < w5.heap.size by omega)).trans x5_2; have y6_3 : w6.cell? ⟨gx, 3, none⟩ = some (.string b.bob) := (hb6.cell (p := ⟨gx, 3, none⟩) (show gx < w5.heap.size by omega)).trans x5_3; have y6_4 : w6.cell? ⟨gx, 4, none⟩ = some (.string b.sing) := (hb6.cell (p := ⟨gx, 4, none⟩) (show gx < w5.heap.size by omega)).trans x5_4; have y6_5 : w6.cell? ⟨gx, 5, none⟩ = some (.int .i64 b.step) := (hb6.cell (p := ⟨gx, 5, none⟩) (show gx < w5.heap.size by omega)).trans x5_5; have y6_6 : w6.cell? ⟨gx, 6, none⟩ = some (.string b.call) := (hb6.cell (p := ⟨gx, 6, none⟩) (show gx < w5.heap.size by omega)).trans x5_6; have y6_7 : w6.cell? ⟨gx, 7, none⟩ = some (.string b.tru) := (hb6.cell (p := ⟨gx, 7, none⟩) (show gx < w5.heap.size by omega)).trans x5_7; have y6_8 : w6.cell? ⟨gx, 8, none⟩ = some (.slice A3' b.rx.length b.rx.length) := (hb6.cell (p := ⟨gx, 8, none⟩) (show gx < w5.heap.size by omega)).trans x5_8; have P6 := OwnL.later (w := w5.drew) P1.out hb6; have P7 := OwnL.later (w := w5.drew) P3.out hb6; have HQ1 := Lib.hid hq1; have HQ3 := Lib.hid hq3; have HP6 := Lib.hid P6; have HP7 := Lib.hid P7; clear hq1 hq3 P6 P7)) | (go_at_call 62; refine (eqBand_t ⟨⟨b.m.name, b.m.stage, b.m.x, A1', b.m.x.length⟩, b.bob, b.sing, b.step, b.call, b.tru, b.rx, A3', b.rx.length⟩ A1'' A3'' b.m.x.length b.rx.length w6 (HP6.out.rd encString_len) (HQ1.out.rd encString_len) (HP7.out.rd Rgr_enc_len) (HQ3.out.rd Rgr_enc_len) (by simp only; omega) (by simp only; omega)).mono ?_; rintro e w7 ⟨rfl, hb7⟩))
    all_goals (try go_wp2)
    all_goals go_ret
    all_goals exact ⟨rfl, (Bw5.out.drew.trans (hb6.mono Bw5.out.size)).trans (hb7.mono (show w.heap.size ≤ w6.heap.size from Nat.le_trans Bw5.out.size hb6.size))⟩
namespace fnExactGoodBand
open Go.ChangeShapes Go.WideShapes Go.ChangeAt Go.RowKit Go.Deep
open Go.ChangeMaps (open_string shut_string)
theorem own : ownKnob Try.prog.godebug = none := by kernel_rfl
theorem laid : laidOutB Try.prog = true := by kernel_rfl
theorem reads : Try.f13.params.toList.all (fun t => Try.prog.readableRec t && decide (t < Try.prog.types.size)) = true := by kernel_rfl
set_option maxRecDepth 100000 in
theorem lifted (os : Os) (started : os.Started) (H : Type) (enc : TypeId × Value → H) :
    ReturnsInHanded {} Try.checked os 13 .any (Rows.fnExactGoodBandSpec.pre6 enc Try.prog Try.f13 Rows.fnExactGoodBandRow.domain false) (Rows.fnExactGoodBandSpec.post enc Try.prog Try.f13 false true false false) := by
  refine returnsInHanded_of_change (C := Try.checked) own started (by kernel_rfl) Try.func13
    (ChangeSpec.witness6 (enc := enc) (C := Try.checked) false ⟨#[], #[.agg #[.string ByteArray.empty, .int .i64 0, .slice none 0 0, .string ByteArray.empty, .string ByteArray.empty, .int .i64 0, .string ByteArray.empty, .string ByteArray.empty, .slice none 0 0]], []⟩ 8 (by kernel_rfl) (by kernel_rfl) (by kernel_rfl) (by kernel_rfl)) ?_
  intro W base args ds gs before hval0 hW hcnd _
  have hval : ∀ (j : Nat) t v, Try.f13.params[j]? = some t → args[j]? = some v → Value.okWide Try.prog W .any base t v := hval0
  have hW' := hW
  obtain ⟨p, q, hA0, hV, rfl, hfz, hnd⟩ := hW
  have hA : DataW.TrodAll enc Try.prog W 0 (fun _ => true) true Try.f13.params.toList args.toList ds p := hA0
  rw [Try.params13] at hA hval
  obtain ⟨rfl, rfl⟩ := trodVars_none hV
  have hlt : ∀ x ∈ p, x.block < W.heap.size := fun x hx => by simpa using hW'.lt x (List.mem_append.2 (.inl hx))
  clear hA0 hval0
  obtain ⟨v0, vs0, d0, ds0, p0, q0, hargs, rfl, rfl, h0, r0⟩ := trodAll_cons hA
  obtain ⟨rfl, rfl, rfl⟩ := trodAll_nil r0
  obtain rfl : args = #[v0] := by cases args; simp_all
  clear hargs
  obtain ⟨b, rfl, hfit, hrd, hrd2, _⟩ := open_struct Try.underlying77 Bnd.enc _ Band_el (hval 0 77 v0 rfl rfl) h0
  refine (bandLaw W b hrd hrd2 hfit).mono fun e W' ⟨he, hg⟩ => ?_
  subst he
  exact ⟨_, rfl, law_post laid reads rfl Try.underlying4 rfl rfl hW' hg⟩
theorem over : Rows.fnExactGoodBandRow.holds Try.pinned (OpenSpec.ofChange Rows.fnExactGoodBandSpec) :=
  OpenClaim.holds_of_wide 13 Try.f13 rfl rfl rfl rfl rfl rfl rfl ⟨rfl, rfl, rfl, rfl, rfl⟩ rfl rfl rfl rfl rfl (by kernel_rfl) Try.func13 (by kernel_rfl)
    (of_decide_eq_true (by kernel_rfl)) (by unfold Func.isWrapper; first | (rw [if_pos (by decide +kernel)]; kernel_rfl) | (rw [if_neg (by decide +kernel)]; exact ⟨rfl, rfl⟩))
    (fun os started H enc _ => lifted os started H enc)
theorem proved : Rows.FnExactGoodBandSaid := over
end fnExactGoodBand
end Go.Proofs.Ytdegbckoejddeaa
