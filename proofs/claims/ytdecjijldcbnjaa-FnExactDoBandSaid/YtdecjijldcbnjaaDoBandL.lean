/-
  DoBand of the program returns what the reference's returns, for all arguments: no condition.
-/
import Derived.Test.YtdecjijldcbnjaaDoB
import Derived.Test.YtdecjijldcbnjaaOpenBand
import Derived.Test.YtdecjijldcbnjaaRow
import Derived.Test.YtdecjijldcbnjaaFaDoBand
namespace Go.Proofs.Ytdecjijldcbnjaa
open Go.RowKit Go.ChangeShapes Go.WideShapes Go.Deep
set_option linter.unusedVariables false
set_option linter.unusedSimpArgs false
set_option maxRecDepth 100000
theorem doB_of {f : FuncId} {args : Array Value} {w : World} {b b' : Bnd} {kd bl yy : Int} {cl : ByteArray} {dd : Bd} {ok : Bool} (hD : doBD b kd bl yy cl = (dd, ok)) (hm : doBD b' kd bl yy cl = doBD b kd bl yy cl) (h : Calls Try.prog f args w fun e w' => BdRet (doBD b' kd bl yy cl).1 (doBD b' kd bl yy cl).2 w e w') : Calls Try.prog f args w fun e w' => BdRet dd ok w e w' := by
  rw [hm, hD] at h; exact h
set_option maxHeartbeats 8000000 in
theorem doBandLaw (w : World) (b : Bnd) (hb : RdL w w.heap.size b.m.A 1 encString b.m.x) (hrb : RdL w w.heap.size b.RA 2 Rgr.enc b.rx) (fb : b.Fits) (a : Act_) (hsa : RingAct_small 9223372036854775807 a) :
    Calls Try.prog 9 #[.agg #[.string b.m.name, .int .i64 b.m.stage, .slice b.m.A b.m.x.length b.m.c, .string b.bob, .string b.sing, .int .i64 b.step, .string b.call, .string b.tru, .slice b.RA b.rx.length b.rc], .agg #[.int .i64 a.kind, .int .i64 a.bell, .int .i64 a.by_, .string a.call]] w fun e w' => e = .returned (.bool true) ∧ Below w.heap.size w w' := by
  have Hb := Lib.hid hb
  have Hrb := Lib.hid hrb
  have Fb := Lib.hid fb
  clear hb hrb fb
  have Hsa := Lib.hid hsa
  clear hsa
  have hbW0 : Below w.heap.size w ((w.alloc (.cells #[.string b.m.name, .int .i64 b.m.stage, .slice b.m.A b.m.x.length b.m.c, .string b.bob, .string b.sing, .int .i64 b.step, .string b.call, .string b.tru, .slice b.RA b.rx.length b.rc] 99)).alloc (.cells #[.int .i64 a.kind, .int .i64 a.bell, .int .i64 a.by_, .string a.call] 101)) := by repeat (first | exact Below.refl _ _ | (refine Below.alloc ?_ (by simp <;> omega) _))
  go_enter Try.func9, Try.ntmps9
  go_wp2_with fail
  have hW : ∃ W : World, Hid (((w.alloc (.cells #[.string b.m.name, .int .i64 b.m.stage, .slice b.m.A b.m.x.length b.m.c, .string b.bob, .string b.sing, .int .i64 b.step, .string b.call, .string b.tru, .slice b.RA b.rx.length b.rc] 99)).alloc (.cells #[.int .i64 a.kind, .int .i64 a.bell, .int .i64 a.by_, .string a.call] 101)) = W) ∧ Hid (Below w.heap.size w W) ∧ w.heap.size + 2 ≤ W.heap.size ∧ Hid (Cells W (w.heap.size) 9 (fun i => (#[Value.string b.m.name, .int .i64 b.m.stage, .slice b.m.A b.m.x.length b.m.c, .string b.bob, .string b.sing, .int .i64 b.step, .string b.call, .string b.tru, .slice b.RA b.rx.length b.rc] : Array Value).getD i undef)) ∧ Hid (Cells W (w.heap.size + 1) 4 (fun i => (#[Value.int .i64 a.kind, .int .i64 a.bell, .int .i64 a.by_, .string a.call] : Array Value).getD i undef)) := by
    have z1 : w.heap.size + 1 = ((w.alloc (.cells #[.string b.m.name, .int .i64 b.m.stage, .slice b.m.A b.m.x.length b.m.c, .string b.bob, .string b.sing, .int .i64 b.step, .string b.call, .string b.tru, .slice b.RA b.rx.length b.rc] 99))).heap.size := by simp
    refine ⟨_, Lib.hid rfl, Lib.hid hbW0, by simp, Lib.hid ?_, Lib.hid ?_⟩
    · exact ((Cells.newD _ #[.string b.m.name, .int .i64 b.m.stage, .slice b.m.A b.m.x.length b.m.c, .string b.bob, .string b.sing, .int .i64 b.step, .string b.call, .string b.tru, .slice b.RA b.rx.length b.rc] _).alloc _)
    · rw [z1]; exact (Cells.newD _ #[.int .i64 a.kind, .int .i64 a.bell, .int .i64 a.by_, .string a.call] _)
  obtain ⟨w0, hWe, Bw0, t0, HB_aB_0, HB_aA_0⟩ := hW
  rw [hWe.out]
  clear hWe hbW0
  have s_aB_0 : w0.cell? ⟨w.heap.size, 0, none⟩ = some (.string b.m.name) := HB_aB_0.out.cell (i := 0) (by omega)
  have s_aB_1 : w0.cell? ⟨w.heap.size, 1, none⟩ = some (.int .i64 b.m.stage) := HB_aB_0.out.cell (i := 1) (by omega)
  have s_aB_2 : w0.cell? ⟨w.heap.size, 2, none⟩ = some (.slice b.m.A b.m.x.length b.m.c) := HB_aB_0.out.cell (i := 2) (by omega)
  have s_aB_3 : w0.cell? ⟨w.heap.size, 3, none⟩ = some (.string b.bob) := HB_aB_0.out.cell (i := 3) (by omega)
  have s_aB_4 : w0.cell? ⟨w.heap.size, 4, none⟩ = some (.string b.sing) := HB_aB_0.out.cell (i := 4) (by omega)
  have s_aB_5 : w0.cell? ⟨w.heap.size, 5, none⟩ = some (.int .i64 b.step) := HB_aB_0.out.cell (i := 5) (by omega)
  have s_aB_6 : w0.cell? ⟨w.heap.size, 6, none⟩ = some (.string b.call) := HB_aB_0.out.cell (i := 6) (by omega)
  have s_aB_7 : w0.cell? ⟨w.heap.size, 7, none⟩ = some (.string b.tru) := HB_aB_0.out.cell (i := 7) (by omega)
  have s_aB_8 : w0.cell? ⟨w.heap.size, 8, none⟩ = some (.slice b.RA b.rx.length b.rc) := HB_aB_0.out.cell (i := 8) (by omega)
  go_wp2_with fail
  refine (szBand_any b (1048576 : Int) _ ((Hb.out.below Bw0.out (Nat.le_refl _)).more Bw0.out.size) Fb.out (by omega) (by omega)).mono ?_
  rintro e w1 ⟨r1, rfl, hz, hb⟩
  clear s_aB_0 s_aB_1 s_aB_2 s_aB_3 s_aB_4 s_aB_5 s_aB_6 s_aB_7 s_aB_8
  have C1 := Lib.hid hb
  clear hb
  have t1 := C1.out.size
  have Bw1 := Lib.hid (Bw0.out.trans (C1.out.mono Bw0.out.size))
  have HB_aB_1 := Lib.hid (HB_aB_0.out.later C1.out)
  clear HB_aB_0
  have HB_aA_1 := Lib.hid (HB_aA_0.out.later C1.out)
  clear HB_aA_0
  have Z1 := Lib.hid hz
  clear hz
  by_cases n1 : r1 < 0
  · go_wp2_with fail
    go_ret
    exact ⟨rfl, Bw1.out⟩
  have z1 := Z1.out.resolve_left (by omega)
  obtain ⟨ya1, yb1, m1, m2, m3, m4, m5, m6, m7, m8⟩ := z1
  have Hmb : Hid (∀ x ∈ b.m.x, String_small 1048576 x) := Lib.hid (fun x hx => by have := m3 x hx; simp only [String_small] at this ⊢; omega)
  clear m3
  have yl1 : r1 ≤ 1048576 := by omega
  have s_aA_0 : w1.cell? ⟨w.heap.size + 1, 0, none⟩ = some (.int .i64 a.kind) := HB_aA_1.out.cell (i := 0) (by omega)
  have s_aA_1 : w1.cell? ⟨w.heap.size + 1, 1, none⟩ = some (.int .i64 a.bell) := HB_aA_1.out.cell (i := 1) (by omega)
  have s_aA_2 : w1.cell? ⟨w.heap.size + 1, 2, none⟩ = some (.int .i64 a.by_) := HB_aA_1.out.cell (i := 2) (by omega)
  have s_aA_3 : w1.cell? ⟨w.heap.size + 1, 3, none⟩ = some (.string a.call) := HB_aA_1.out.cell (i := 3) (by omega)
  go_wp2_with fail
  refine (szRingAct_any a r1 _ (by omega) (by omega) Hsa.out).mono ?_
  rintro e w2 ⟨r2, rfl, hz, hb⟩
  clear s_aA_0 s_aA_1 s_aA_2 s_aA_3
  have C2 := Lib.hid hb
  clear hb
  have t2 := C2.out.size
  have Bw2 := Lib.hid (Bw1.out.trans (C2.out.mono Bw1.out.size))
  have HB_aB_2 := Lib.hid (HB_aB_1.out.later C2.out)
  clear HB_aB_1
  have HB_aA_2 := Lib.hid (HB_aA_1.out.later C2.out)
  clear HB_aA_1
  have Z2 := Lib.hid hz
  clear hz
  by_cases n2 : r2 < 0
  · go_wp2_with fail
    go_ret
    exact ⟨rfl, Bw2.out⟩
  have z2 := Z2.out.resolve_left (by omega)
  obtain ⟨ya2, yb2', hz'⟩ := z2
  have yb2 : r2 ≤ 1048576 := by omega
  have Hma : Hid (RingAct_small 1048576 a) := Lib.hid (by simp only [RingAct_small] at hz' ⊢; omega)
  clear hz'
  obtain ⟨hsm1, hsm2⟩ := doBD_small (b := b) (kd := a.kind) (bl := a.bell) (yy := a.by_) (cl := a.call) (by omega) (by omega)
  obtain ⟨D, hD⟩ : ∃ D, Hid (doBD b a.kind a.bell a.by_ a.call = D) := ⟨_, Lib.hid rfl⟩
  obtain ⟨dd, ok⟩ := D
  rw [hD.out] at hsm1 hsm2
  simp only at hsm1 hsm2
  skip
  have s_aB_0 : w2.cell? ⟨w.heap.size, 0, none⟩ = some (.string b.m.name) := HB_aB_2.out.cell (i := 0) (by omega)
  have s_aB_1 : w2.cell? ⟨w.heap.size, 1, none⟩ = some (.int .i64 b.m.stage) := HB_aB_2.out.cell (i := 1) (by omega)
  have s_aB_2 : w2.cell? ⟨w.heap.size, 2, none⟩ = some (.slice b.m.A b.m.x.length b.m.c) := HB_aB_2.out.cell (i := 2) (by omega)
  have s_aB_3 : w2.cell? ⟨w.heap.size, 3, none⟩ = some (.string b.bob) := HB_aB_2.out.cell (i := 3) (by omega)
  have s_aB_4 : w2.cell? ⟨w.heap.size, 4, none⟩ = some (.string b.sing) := HB_aB_2.out.cell (i := 4) (by omega)
  have s_aB_5 : w2.cell? ⟨w.heap.size, 5, none⟩ = some (.int .i64 b.step) := HB_aB_2.out.cell (i := 5) (by omega)
  have s_aB_6 : w2.cell? ⟨w.heap.size, 6, none⟩ = some (.string b.call) := HB_aB_2.out.cell (i := 6) (by omega)
  have s_aB_7 : w2.cell? ⟨w.heap.size, 7, none⟩ = some (.string b.tru) := HB_aB_2.out.cell (i := 7) (by omega)
  have s_aB_8 : w2.cell? ⟨w.heap.size, 8, none⟩ = some (.slice b.RA b.rx.length b.rc) := HB_aB_2.out.cell (i := 8) (by omega)
  have s_aA_0 : w2.cell? ⟨w.heap.size + 1, 0, none⟩ = some (.int .i64 a.kind) := HB_aA_2.out.cell (i := 0) (by omega)
  have s_aA_1 : w2.cell? ⟨w.heap.size + 1, 1, none⟩ = some (.int .i64 a.bell) := HB_aA_2.out.cell (i := 1) (by omega)
  have s_aA_2 : w2.cell? ⟨w.heap.size + 1, 2, none⟩ = some (.int .i64 a.by_) := HB_aA_2.out.cell (i := 2) (by omega)
  have s_aA_3 : w2.cell? ⟨w.heap.size + 1, 3, none⟩ = some (.string a.call) := HB_aA_2.out.cell (i := 3) (by omega)
  have l_aB_0 := Later.cell s_aB_0 (show w.heap.size < w2.heap.size by omega)
  have l_aB_1 := Later.cell s_aB_1 (show w.heap.size < w2.heap.size by omega)
  have l_aB_2 := Later.cell s_aB_2 (show w.heap.size < w2.heap.size by omega)
  have l_aB_3 := Later.cell s_aB_3 (show w.heap.size < w2.heap.size by omega)
  have l_aB_4 := Later.cell s_aB_4 (show w.heap.size < w2.heap.size by omega)
  have l_aB_5 := Later.cell s_aB_5 (show w.heap.size < w2.heap.size by omega)
  have l_aB_6 := Later.cell s_aB_6 (show w.heap.size < w2.heap.size by omega)
  have l_aB_7 := Later.cell s_aB_7 (show w.heap.size < w2.heap.size by omega)
  have l_aB_8 := Later.cell s_aB_8 (show w.heap.size < w2.heap.size by omega)
  have l_aA_0 := Later.cell s_aA_0 (show w.heap.size + 1 < w2.heap.size by omega)
  have l_aA_1 := Later.cell s_aA_1 (show w.heap.size + 1 < w2.heap.size by omega)
  have l_aA_2 := Later.cell s_aA_2 (show w.heap.size + 1 < w2.heap.size by omega)
  have l_aA_3 := Later.cell s_aA_3 (show w.heap.size + 1 < w2.heap.size by omega)
  clear s_aB_0 s_aB_1 s_aB_2 s_aB_3 s_aB_4 s_aB_5 s_aB_6 s_aB_7 s_aB_8 s_aA_0 s_aA_1 s_aA_2 s_aA_3
  go_wp2_with fail
  refine wp_region_G (by kernel_rfl) [.q, .s (fun _ u lo hi w' => ∃ A R, u = .agg #[.string b.m.name, .int .i64 b.m.stage, .slice A b.m.x.length b.m.x.length, .string b.bob, .string b.sing, .int .i64 b.step, .string b.call, .string b.tru, .slice R b.rx.length b.rx.length] ∧ OwnL w' lo hi A 1 encString b.m.x ∧ OwnL w' lo hi R 2 Rgr.enc b.rx), .q, .s (fun _ u lo hi w' => u = .agg #[.int .i64 a.kind, .int .i64 a.bell, .int .i64 a.by_, .string a.call]), .s (fun _ u lo hi w' => ∃ v, u = .tuple #[v, .bool ok] ∧ BdAt dd v lo hi w'), .q, .q, .q, .s (fun _ => gBox 9), .t, .q] [0, 1, 0, 1, 1, 0, 0, 0, 1, 2, 0] rfl 3 (by kernel_rfl) (inC w2) (w2).heap.size (inC.size w2) (inC.of (Below.refl _ _).drew) ?_
  (refine wpG_quiets 1 _ _ _ _ (by first | exact cls_none rfl | exact fun w h => h.1) (by intro j hj; rcases j with _ | _ | _ | _ | _ | _ | _ | _ | _ | _ | j <;> first | exact ⟨rfl, ⟨_, rfl, rfl⟩, rfl⟩ | (exfalso; omega)) ?_; simp only [List.take_succ_cons, List.take_zero, List.drop_succ_cons, List.drop_zero, Nat.zero_add, Nat.reduceAdd]; change wpQuiet _ _ (fun wq9 => ∃ x : Later w2, wq9 = x.W) _ _ _; (repeat (go_big_quiet_step (fail))); refine wpQuiet_nil ?_; try dsimp only)
  (refine wpG_call _ rfl rfl rfl rfl (fun u lo hi => loc_ex fun A => loc_ex fun R => loc_and (loc_pure _) (loc_and (loc_own (Nat.le_refl _) (Nat.le_refl _)) (loc_own (Nat.le_refl _) (Nat.le_refl _)))) 78 #[.agg #[.string b.m.name, .int .i64 b.m.stage, .slice b.m.A b.m.x.length b.m.c, .string b.bob, .string b.sing, .int .i64 b.step, .string b.call, .string b.tru, .slice b.RA b.rx.length b.rc]] (by intro w; go_simp) (by intro w1 hw1 hd; (refine (toBand_any b w1 ((Hb.out.below (Bw2.out.trans (hw1.below.mono Bw2.out.size)) (Nat.le_refl _)).more (Nat.le_trans Bw2.out.size hw1.below.size)) ((Hrb.out.below (Bw2.out.trans (hw1.below.mono Bw2.out.size)) (Nat.le_refl _)).more (Nat.le_trans Bw2.out.size hw1.below.size)) (by omega) (by omega)).mono ?_; rintro e w2 ⟨A, R, rfl, ho, ho3, hb⟩; exact ⟨_, rfl, hw1.step hb, eff_of_below hb, A, R, rfl, ho, ho3⟩)) ?_)
  (intro u_w00 lo_w00 hi_w00 hsat; obtain ⟨w1, hw1⟩ := hsat; have hr : ∃ A R, u_w00 = .agg #[.string b.m.name, .int .i64 b.m.stage, .slice A b.m.x.length b.m.x.length, .string b.bob, .string b.sing, .int .i64 b.step, .string b.call, .string b.tru, .slice R b.rx.length b.rx.length] ∧ OwnL w1 lo_w00 hi_w00 A 1 encString b.m.x ∧ OwnL w1 lo_w00 hi_w00 R 2 Rgr.enc b.rx := (hw1.rec rfl 1).2.2; obtain ⟨A_w00, R_w00, rfl, _⟩ := hr; clear hw1; simp only [Act.put, List.setIfInBounds_toArray, List.set_cons_zero, List.set_cons_succ, Nat.reduceAdd])
  (refine wpG_quiets 1 _ _ _ _ (by first | exact cls_none rfl | exact fun w h => h.1) (by intro j hj; rcases j with _ | _ | _ | _ | _ | _ | _ | _ | _ | _ | j <;> first | exact ⟨rfl, ⟨_, rfl, rfl⟩, rfl⟩ | (exfalso; omega)) ?_; simp only [List.take_succ_cons, List.take_zero, List.drop_succ_cons, List.drop_zero, Nat.zero_add, Nat.reduceAdd]; change wpQuiet _ _ (fun wq9 => ∃ x : Later w2, wq9 = x.W) _ _ _; (repeat (go_big_quiet_step (fail))); refine wpQuiet_nil ?_; try dsimp only)
  (refine wpG_call _ rfl rfl rfl rfl (fun u lo hi => loc_pure _) 79 #[.agg #[.int .i64 a.kind, .int .i64 a.bell, .int .i64 a.by_, .string a.call]] (by intro w; go_simp) (by intro w1 hw1 hd; (refine (toRingAct_any a w1).mono ?_; rintro e w2 ⟨rfl, hb⟩; exact ⟨_, rfl, hw1.step hb, eff_of_below hb, rfl⟩)) ?_)
  (intro u_w01 lo_w01 hi_w01 hsat; obtain ⟨w1, hw1⟩ := hsat; have hr : u_w01 = .agg #[.int .i64 a.kind, .int .i64 a.bell, .int .i64 a.by_, .string a.call] := (hw1.rec rfl 3).2.2; obtain rfl := hr; clear hw1; simp only [Act.put, List.setIfInBounds_toArray, List.set_cons_zero, List.set_cons_succ, Nat.reduceAdd])
  (refine wpG_call _ rfl rfl rfl rfl (fun u lo hi => loc_ex fun v => loc_and (loc_pure _) (loc_bd _ _ _ _)) 77 #[.agg #[.string b.m.name, .int .i64 b.m.stage, .slice A_w00 b.m.x.length b.m.x.length, .string b.bob, .string b.sing, .int .i64 b.step, .string b.call, .string b.tru, .slice R_w00 b.rx.length b.rx.length], .agg #[.int .i64 a.kind, .int .i64 a.bell, .int .i64 a.by_, .string a.call]] (by intro w; go_simp) (by intro w1 hw1 hd; (have hd0 : ∃ A R, (.agg #[.string b.m.name, .int .i64 b.m.stage, .slice A_w00 b.m.x.length b.m.x.length, .string b.bob, .string b.sing, .int .i64 b.step, .string b.call, .string b.tru, .slice R_w00 b.rx.length b.rx.length] : Value) = .agg #[.string b.m.name, .int .i64 b.m.stage, .slice A b.m.x.length b.m.x.length, .string b.bob, .string b.sing, .int .i64 b.step, .string b.call, .string b.tru, .slice R b.rx.length b.rx.length] ∧ OwnL w1 lo_w00 hi_w00 A 1 encString b.m.x ∧ OwnL w1 lo_w00 hi_w00 R 2 Rgr.enc b.rx := (hd 1 (gDep_mem (by kernel_rfl))).2; obtain ⟨Az, Rz, he0, ho0A, ho0R⟩ := hd0; obtain ⟨rfl, rfl⟩ : A_w00 = Az ∧ R_w00 = Rz := (by simpa using he0); refine (doB_of hD.out rfl (sDoBand_any ⟨⟨b.m.name, b.m.stage, b.m.x, A_w00, b.m.x.length⟩, b.bob, b.sing, b.step, b.call, b.tru, b.rx, R_w00, b.rx.length⟩ a.kind a.bell a.by_ a.call w1 ⟨(ho0A.rd encString_len), (ho0R.rd Rgr_enc_len), by simp only; omega, by simp only; omega, Hmb.out, by simp only; omega, by simp only; omega, by simp only; omega, by simp only; omega, by simp only; omega⟩)).mono ?_; rintro e w2 ⟨v, rfl, hbd, hb⟩; exact ⟨_, rfl, hw1.step hb, eff_of_below hb, v, rfl, hbd⟩)) ?_)
  (intro u_w0 lo_w0 hi_w0 hsat; obtain ⟨w1, hw1⟩ := hsat; have hr : ∃ v, u_w0 = .tuple #[v, .bool ok] ∧ BdAt dd v lo_w0 hi_w0 w1 := (hw1.rec rfl 4).2.2; obtain ⟨v, rfl, A1_w0, c1_w0, A3_w0, c3_w0, gsz, rfl, _⟩ := hr; clear hw1; simp only [Act.put, List.setIfInBounds_toArray, List.set_cons_zero, List.set_cons_succ, Nat.reduceAdd])
  (refine wpG_quiets 3 _ _ _ _ (by first | exact cls_none rfl | exact fun w h => h.1) (by intro j hj; rcases j with _ | _ | _ | _ | _ | _ | _ | _ | _ | _ | j <;> first | exact ⟨rfl, ⟨_, rfl, rfl⟩, rfl⟩ | (exfalso; omega)) ?_; simp only [List.take_succ_cons, List.take_zero, List.drop_succ_cons, List.drop_zero, Nat.zero_add, Nat.reduceAdd]; change wpQuiet _ _ (fun wq9 => ∃ x : Later w2, wq9 = x.W) _ _ _; (repeat (go_big_quiet_step (fail))); refine wpQuiet_nil ?_; try dsimp only)
  (refine wpG_box 9 #[.string ⟨#[]⟩, .int .i64 0, .slice none 0 0, .string ⟨#[]⟩, .string ⟨#[]⟩, .int .i64 0, .string ⟨#[]⟩, .string ⟨#[]⟩, .slice none 0 0] 106 rfl rfl rfl rfl rfl (by intro w; go_simp) ?_; intro ub_w0 bx_w0 hb_w0 hsat; obtain ⟨w1, hw1⟩ := hsat; have hr : gBox 9 ub_w0 bx_w0 hb_w0 w1 := (hw1.rec rfl 8).2.2; obtain ⟨rfl, rfl, _⟩ := hr; clear hw1; simp only [Act.put, List.setIfInBounds_toArray, List.set_cons_zero, List.set_cons_succ, Nat.reduceAdd])
  (refine wpG_t (fun w' => setN w' bx_w0 0 [.string dd.name, .int .i64 dd.stage, .slice A1_w0 dd.x.length c1_w0, .string dd.bob, .string dd.sing, .int .i64 dd.step, .string dd.call, .string dd.tru, .slice A3_w0 dd.rx.length c3_w0]) rfl rfl rfl rfl (by intro w1 hw1; have hr : gBox 9 (.pointer (some ⟨bx_w0, 0, none⟩)) bx_w0 (bx_w0 + 1) w1 := (hw1.rec rfl 8).2.2; have hlo : w2.heap.size ≤ bx_w0 := (hw1.rng rfl 8 rfl).1; obtain ⟨_, _, f, hcf⟩ := hr; have p0 := hcf.cell (i := 0) (by omega); have q0 := hcf.free (i := 0) (by omega); have p1 := hcf.cell (i := 1) (by omega); have q1 := hcf.free (i := 1) (by omega); have p2 := hcf.cell (i := 2) (by omega); have q2 := hcf.free (i := 2) (by omega); have p3 := hcf.cell (i := 3) (by omega); have q3 := hcf.free (i := 3) (by omega); have p4 := hcf.cell (i := 4) (by omega); have q4 := hcf.free (i := 4) (by omega); have p5 := hcf.cell (i := 5) (by omega); have q5 := hcf.free (i := 5) (by omega); have p6 := hcf.cell (i := 6) (by omega); have q6 := hcf.free (i := 6) (by omega); have p7 := hcf.cell (i := 7) (by omega); have q7 := hcf.free (i := 7) (by omega); have p8 := hcf.cell (i := 8) (by omega); have q8 := hcf.free (i := 8) (by omega); have hC1 := (hw1.cls rfl).below; clear hw1; refine ⟨?_, inC.of (Below.setN hlo _ hC1)⟩; simp only [setN]; go_simp; try rfl) ?_)
  simp only [Act.put, List.setIfInBounds_toArray, List.set_cons_zero, List.set_cons_succ, Nat.reduceAdd]
  (refine wpG_quiets 1 _ _ _ _ (by first | exact cls_none rfl | exact fun w h => h.1) (by intro j hj; rcases j with _ | _ | _ | _ | _ | _ | _ | _ | _ | _ | j <;> first | exact ⟨rfl, ⟨_, rfl, rfl⟩, rfl⟩ | (exfalso; omega)) ?_; simp only [List.take_succ_cons, List.take_zero, List.drop_succ_cons, List.drop_zero, Nat.zero_add, Nat.reduceAdd]; change wpQuiet _ _ (fun wq9 => ∃ x : Later w2, wq9 = x.W) _ _ _; (repeat (go_big_quiet_step (fail))); refine wpQuiet_nil ?_; try dsimp only)
  intro w' hh
  obtain ⟨_, wz, hz, rfl⟩ := hh
  have hF : ∃ v, Value.tuple #[.agg #[.string dd.name, .int .i64 dd.stage, .slice A1_w0 dd.x.length c1_w0, .string dd.bob, .string dd.sing, .int .i64 dd.step, .string dd.call, .string dd.tru, .slice A3_w0 dd.rx.length c3_w0], .bool ok] = .tuple #[v, .bool ok] ∧ BdAt dd v lo_w0 hi_w0 wz := (hz.rec rfl 4).2.2
  obtain ⟨v2, he2, hbd⟩ := hF
  obtain rfl : Value.agg #[.string dd.name, .int .i64 dd.stage, .slice A1_w0 dd.x.length c1_w0, .string dd.bob, .string dd.sing, .int .i64 dd.step, .string dd.call, .string dd.tru, .slice A3_w0 dd.rx.length c3_w0] = v2 := by simpa using he2
  obtain ⟨gs_w0, hg1_w0, hg2_w0, ho1, ho3⟩ := hbd.open
  obtain ⟨hl1_w0, hl2_w0, hl3_w0⟩ : w2.heap.size ≤ lo_w0 ∧ lo_w0 ≤ hi_w0 ∧ hi_w0 ≤ wz.heap.size := hz.rng rfl 4 rfl
  obtain ⟨hx1_w0, _, hx3_w0⟩ : w2.heap.size ≤ bx_w0 ∧ bx_w0 ≤ bx_w0 + 1 ∧ bx_w0 + 1 ≤ wz.heap.size := hz.rng rfl 8 rfl
  have hap_w0 : hi_w0 ≤ bx_w0 ∨ bx_w0 + 1 ≤ lo_w0 := hz.apart rfl 4 8 (by omega)
  have hbz := (hz.cls rfl).below
  obtain ⟨_, _, f, hcf⟩ : gBox 9 (.pointer (some ⟨bx_w0, 0, none⟩)) bx_w0 (bx_w0 + 1) wz := (hz.rec rfl 8).2.2
  have hcv := hcf.boxed [.string dd.name, .int .i64 dd.stage, .slice A1_w0 dd.x.length c1_w0, .string dd.bob, .string dd.sing, .int .i64 dd.step, .string dd.call, .string dd.tru, .slice A3_w0 dd.rx.length c3_w0] rfl
  have hck : Chg bx_w0 (bx_w0 + 1) wz (setN wz bx_w0 0 [.string dd.name, .int .i64 dd.stage, .slice A1_w0 dd.x.length c1_w0, .string dd.bob, .string dd.sing, .int .i64 dd.step, .string dd.call, .string dd.tru, .slice A3_w0 dd.rx.length c3_w0]) := Chg.setN (Nat.le_refl _) (Nat.lt_succ_self _) _ (Chg.refl _ _ _)
  have hsz9 := setN_size bx_w0 [.string dd.name, .int .i64 dd.stage, .slice A1_w0 dd.x.length c1_w0, .string dd.bob, .string dd.sing, .int .i64 dd.step, .string dd.call, .string dd.tru, .slice A3_w0 dd.rx.length c3_w0] wz 0
  have hb : Below w2.heap.size w2 (setN wz bx_w0 0 [.string dd.name, .int .i64 dd.stage, .slice A1_w0 dd.x.length c1_w0, .string dd.bob, .string dd.sing, .int .i64 dd.step, .string dd.call, .string dd.tru, .slice A3_w0 dd.rx.length c3_w0]) := Below.setN hx1_w0 _ hbz
  have hv1 := Lib.hid (ho1.chg hck (by omega))
  have hv3 := Lib.hid (ho3.chg hck (by omega))
  have hcv := Lib.hid hcv
  rw [← hsz9] at hl3_w0 hx3_w0
  clear hsz9 hck hcf ho1 ho3 hz hbz hbd he2 l_aB_0 l_aB_1 l_aB_2 l_aB_3 l_aB_4 l_aB_5 l_aB_6 l_aB_7 l_aB_8 l_aA_0 l_aA_1 l_aA_2 l_aA_3
  generalize setN wz bx_w0 0 [.string dd.name, .int .i64 dd.stage, .slice A1_w0 dd.x.length c1_w0, .string dd.bob, .string dd.sing, .int .i64 dd.step, .string dd.call, .string dd.tru, .slice A3_w0 dd.rx.length c3_w0] = w3 at *
  have C3 := Lib.hid hb
  clear hb
  have t3 := C3.out.size
  have Bw3 := Lib.hid (Bw2.out.trans (C3.out.mono Bw2.out.size))
  have HB_aB_3 := Lib.hid (HB_aB_2.out.later C3.out)
  clear HB_aB_2
  have HB_aA_3 := Lib.hid (HB_aA_2.out.later C3.out)
  clear HB_aA_2
  have HB_w0_3 := hcv
  have O_w0_a_3 := hv1
  have O_w0_r_3 := hv3
  clear hcv hv1 hv3
  have s_aB_0 : w3.cell? ⟨w.heap.size, 0, none⟩ = some (.string b.m.name) := HB_aB_3.out.cell (i := 0) (by omega)
  have s_aB_1 : w3.cell? ⟨w.heap.size, 1, none⟩ = some (.int .i64 b.m.stage) := HB_aB_3.out.cell (i := 1) (by omega)
  have s_aB_2 : w3.cell? ⟨w.heap.size, 2, none⟩ = some (.slice b.m.A b.m.x.length b.m.c) := HB_aB_3.out.cell (i := 2) (by omega)
  have s_aB_3 : w3.cell? ⟨w.heap.size, 3, none⟩ = some (.string b.bob) := HB_aB_3.out.cell (i := 3) (by omega)
  have s_aB_4 : w3.cell? ⟨w.heap.size, 4, none⟩ = some (.string b.sing) := HB_aB_3.out.cell (i := 4) (by omega)
  have s_aB_5 : w3.cell? ⟨w.heap.size, 5, none⟩ = some (.int .i64 b.step) := HB_aB_3.out.cell (i := 5) (by omega)
  have s_aB_6 : w3.cell? ⟨w.heap.size, 6, none⟩ = some (.string b.call) := HB_aB_3.out.cell (i := 6) (by omega)
  have s_aB_7 : w3.cell? ⟨w.heap.size, 7, none⟩ = some (.string b.tru) := HB_aB_3.out.cell (i := 7) (by omega)
  have s_aB_8 : w3.cell? ⟨w.heap.size, 8, none⟩ = some (.slice b.RA b.rx.length b.rc) := HB_aB_3.out.cell (i := 8) (by omega)
  go_wp2_with fail
  refine (toBandS_any b _ ((Hb.out.below Bw3.out (Nat.le_refl _)).more Bw3.out.size) ((Hrb.out.below Bw3.out (Nat.le_refl _)).more Bw3.out.size) (by omega) (by omega)).mono ?_
  rintro e w4 ⟨Ax0, Rx0, gsx0, rfl, hg1x0, hg2x0, ho, ho3, hb⟩
  clear s_aB_0 s_aB_1 s_aB_2 s_aB_3 s_aB_4 s_aB_5 s_aB_6 s_aB_7 s_aB_8
  have C4 := Lib.hid hb
  clear hb
  have t4 := C4.out.size
  have Bw4 := Lib.hid (Bw3.out.trans (C4.out.mono Bw3.out.size))
  have HB_aB_4 := Lib.hid (HB_aB_3.out.later C4.out)
  clear HB_aB_3
  have HB_aA_4 := Lib.hid (HB_aA_3.out.later C4.out)
  clear HB_aA_3
  have HB_w0_4 := Lib.hid (HB_w0_3.out.later C4.out)
  clear HB_w0_3
  have O_w0_a_4 := Lib.hid (O_w0_a_3.out.later C4.out)
  clear O_w0_a_3
  have O_w0_r_4 := Lib.hid (O_w0_r_3.out.later C4.out)
  clear O_w0_r_3
  have O_x0_a_4 := Lib.hid ho
  have O_x0_r_4 := Lib.hid ho3
  clear ho ho3
  go_upto_region 7 with fail
  have hWx : ∃ W : World, Hid ((w4.alloc (.cells #[.string b.m.name, .int .i64 b.m.stage, .slice Ax0 b.m.x.length b.m.x.length, .string b.bob, .string b.sing, .int .i64 b.step, .string b.call, .string b.tru, .slice Rx0 b.rx.length b.rx.length] 106)) = W) ∧ Hid (Below w4.heap.size w4 W) ∧ Hid (Cells W w4.heap.size 9 (fun i => (#[Value.string b.m.name, .int .i64 b.m.stage, .slice Ax0 b.m.x.length b.m.x.length, .string b.bob, .string b.sing, .int .i64 b.step, .string b.call, .string b.tru, .slice Rx0 b.rx.length b.rx.length] : Array Value).getD i undef)) := ⟨_, Lib.hid rfl, Lib.hid ((Below.refl _ _).alloc (Nat.le_refl _) _), Lib.hid (Cells.newD _ #[.string b.m.name, .int .i64 b.m.stage, .slice Ax0 b.m.x.length b.m.x.length, .string b.bob, .string b.sing, .int .i64 b.step, .string b.call, .string b.tru, .slice Rx0 b.rx.length b.rx.length] _)⟩
  obtain ⟨w5, hWe, hb', hbx⟩ := hWx
  rw [hWe.out]
  clear hWe
  have hb := hb'.out
  clear hb'
  have txx0 : w4.heap.size + 1 ≤ w5.heap.size := hbx.out.lt
  have C5 := Lib.hid hb
  clear hb
  have t5 := C5.out.size
  have Bw5 := Lib.hid (Bw4.out.trans (C5.out.mono Bw4.out.size))
  have HB_aB_5 := Lib.hid (HB_aB_4.out.later C5.out)
  clear HB_aB_4
  have HB_aA_5 := Lib.hid (HB_aA_4.out.later C5.out)
  clear HB_aA_4
  have HB_w0_5 := Lib.hid (HB_w0_4.out.later C5.out)
  clear HB_w0_4
  have O_w0_a_5 := Lib.hid (O_w0_a_4.out.later C5.out)
  clear O_w0_a_4
  have O_w0_r_5 := Lib.hid (O_w0_r_4.out.later C5.out)
  clear O_w0_r_4
  have O_x0_a_5 := Lib.hid (O_x0_a_4.out.later C5.out)
  clear O_x0_a_4
  have O_x0_r_5 := Lib.hid (O_x0_r_4.out.later C5.out)
  clear O_x0_r_4
  have HB_x0_5 := hbx
  clear hbx
  have s_x0_0 : w5.cell? ⟨w4.heap.size, 0, none⟩ = some (.string b.m.name) := HB_x0_5.out.cell (i := 0) (by omega)
  have s_x0_1 : w5.cell? ⟨w4.heap.size, 1, none⟩ = some (.int .i64 b.m.stage) := HB_x0_5.out.cell (i := 1) (by omega)
  have s_x0_2 : w5.cell? ⟨w4.heap.size, 2, none⟩ = some (.slice Ax0 b.m.x.length b.m.x.length) := HB_x0_5.out.cell (i := 2) (by omega)
  have s_x0_3 : w5.cell? ⟨w4.heap.size, 3, none⟩ = some (.string b.bob) := HB_x0_5.out.cell (i := 3) (by omega)
  have s_x0_4 : w5.cell? ⟨w4.heap.size, 4, none⟩ = some (.string b.sing) := HB_x0_5.out.cell (i := 4) (by omega)
  have s_x0_5 : w5.cell? ⟨w4.heap.size, 5, none⟩ = some (.int .i64 b.step) := HB_x0_5.out.cell (i := 5) (by omega)
  have s_x0_6 : w5.cell? ⟨w4.heap.size, 6, none⟩ = some (.string b.call) := HB_x0_5.out.cell (i := 6) (by omega)
  have s_x0_7 : w5.cell? ⟨w4.heap.size, 7, none⟩ = some (.string b.tru) := HB_x0_5.out.cell (i := 7) (by omega)
  have s_x0_8 : w5.cell? ⟨w4.heap.size, 8, none⟩ = some (.slice Rx0 b.rx.length b.rx.length) := HB_x0_5.out.cell (i := 8) (by omega)
  have s_aA_0 : w5.cell? ⟨w.heap.size + 1, 0, none⟩ = some (.int .i64 a.kind) := HB_aA_5.out.cell (i := 0) (by omega)
  have s_aA_1 : w5.cell? ⟨w.heap.size + 1, 1, none⟩ = some (.int .i64 a.bell) := HB_aA_5.out.cell (i := 1) (by omega)
  have s_aA_2 : w5.cell? ⟨w.heap.size + 1, 2, none⟩ = some (.int .i64 a.by_) := HB_aA_5.out.cell (i := 2) (by omega)
  have s_aA_3 : w5.cell? ⟨w.heap.size + 1, 3, none⟩ = some (.string a.call) := HB_aA_5.out.cell (i := 3) (by omega)
  have l_x0_0 := Later.cell s_x0_0 (show w4.heap.size < w5.heap.size by omega)
  have l_x0_1 := Later.cell s_x0_1 (show w4.heap.size < w5.heap.size by omega)
  have l_x0_2 := Later.cell s_x0_2 (show w4.heap.size < w5.heap.size by omega)
  have l_x0_3 := Later.cell s_x0_3 (show w4.heap.size < w5.heap.size by omega)
  have l_x0_4 := Later.cell s_x0_4 (show w4.heap.size < w5.heap.size by omega)
  have l_x0_5 := Later.cell s_x0_5 (show w4.heap.size < w5.heap.size by omega)
  have l_x0_6 := Later.cell s_x0_6 (show w4.heap.size < w5.heap.size by omega)
  have l_x0_7 := Later.cell s_x0_7 (show w4.heap.size < w5.heap.size by omega)
  have l_x0_8 := Later.cell s_x0_8 (show w4.heap.size < w5.heap.size by omega)
  have l_aA_0 := Later.cell s_aA_0 (show w.heap.size + 1 < w5.heap.size by omega)
  have l_aA_1 := Later.cell s_aA_1 (show w.heap.size + 1 < w5.heap.size by omega)
  have l_aA_2 := Later.cell s_aA_2 (show w.heap.size + 1 < w5.heap.size by omega)
  have l_aA_3 := Later.cell s_aA_3 (show w.heap.size + 1 < w5.heap.size by omega)
  clear s_x0_0 s_x0_1 s_x0_2 s_x0_3 s_x0_4 s_x0_5 s_x0_6 s_x0_7 s_x0_8 s_aA_0 s_aA_1 s_aA_2 s_aA_3
  go_wp2_with fail
  refine wp_region_G (by kernel_rfl) [.q, .q, .s (fun _ u lo hi w' => u = .agg #[.int .i64 a.kind, .int .i64 a.bell, .int .i64 a.by_, .string a.call]), .s (fun _ u lo hi w' => ∃ v, u = .tuple #[v, .bool ok] ∧ BdAt dd v lo hi w'), .q, .q, .q, .s (fun _ => gBox 9), .t, .q] [0, 0, 1, 1, 0, 0, 0, 1, 2, 0] rfl 3 (by kernel_rfl) (inC w5) (w5).heap.size (inC.size w5) (inC.of (Below.refl _ _).drew) ?_
  (refine wpG_quiets 2 _ _ _ _ (by first | exact cls_none rfl | exact fun w h => h.1) (by intro j hj; rcases j with _ | _ | _ | _ | _ | _ | _ | _ | _ | _ | j <;> first | exact ⟨rfl, ⟨_, rfl, rfl⟩, rfl⟩ | (exfalso; omega)) ?_; simp only [List.take_succ_cons, List.take_zero, List.drop_succ_cons, List.drop_zero, Nat.zero_add, Nat.reduceAdd]; change wpQuiet _ _ (fun wq9 => ∃ x : Later w5, wq9 = x.W) _ _ _; (repeat (go_big_quiet_step (fail))); refine wpQuiet_nil ?_; try dsimp only)
  (refine wpG_call _ rfl rfl rfl rfl (fun u lo hi => loc_pure _) 79 #[.agg #[.int .i64 a.kind, .int .i64 a.bell, .int .i64 a.by_, .string a.call]] (by intro w; go_simp) (by intro w1 hw1 hd; (refine (toRingAct_any a w1).mono ?_; rintro e w2 ⟨rfl, hb⟩; exact ⟨_, rfl, hw1.step hb, eff_of_below hb, rfl⟩)) ?_)
  (intro u_g01 lo_g01 hi_g01 hsat; obtain ⟨w1, hw1⟩ := hsat; have hr : u_g01 = .agg #[.int .i64 a.kind, .int .i64 a.bell, .int .i64 a.by_, .string a.call] := (hw1.rec rfl 2).2.2; obtain rfl := hr; clear hw1; simp only [Act.put, List.setIfInBounds_toArray, List.set_cons_zero, List.set_cons_succ, Nat.reduceAdd])
  (refine wpG_call _ rfl rfl rfl rfl (fun u lo hi => loc_ex fun v => loc_and (loc_pure _) (loc_bd _ _ _ _)) 80 #[.agg #[.string b.m.name, .int .i64 b.m.stage, .slice Ax0 b.m.x.length b.m.x.length, .string b.bob, .string b.sing, .int .i64 b.step, .string b.call, .string b.tru, .slice Rx0 b.rx.length b.rx.length], .agg #[.int .i64 a.kind, .int .i64 a.bell, .int .i64 a.by_, .string a.call]] (by intro w; go_simp) (by intro w1 hw1 hd; (refine (doB_of hD.out rfl (iDoBand_any ⟨⟨b.m.name, b.m.stage, b.m.x, Ax0, b.m.x.length⟩, b.bob, b.sing, b.step, b.call, b.tru, b.rx, Rx0, b.rx.length⟩ a.kind a.bell a.by_ a.call w1 ⟨((O_x0_a_5.out.later hw1.below).rd encString_len), ((O_x0_r_5.out.later hw1.below).rd Rgr_enc_len), by simp only; omega, by simp only; omega, Hmb.out, by simp only; omega, by simp only; omega, by simp only; omega, by simp only; omega, by simp only; omega⟩)).mono ?_; rintro e w2 ⟨v, rfl, hbd, hb⟩; exact ⟨_, rfl, hw1.step hb, eff_of_below hb, v, rfl, hbd⟩)) ?_)
  (intro u_g0 lo_g0 hi_g0 hsat; obtain ⟨w1, hw1⟩ := hsat; have hr : ∃ v, u_g0 = .tuple #[v, .bool ok] ∧ BdAt dd v lo_g0 hi_g0 w1 := (hw1.rec rfl 3).2.2; obtain ⟨v, rfl, A1_g0, c1_g0, A3_g0, c3_g0, gsz, rfl, _⟩ := hr; clear hw1; simp only [Act.put, List.setIfInBounds_toArray, List.set_cons_zero, List.set_cons_succ, Nat.reduceAdd])
  (refine wpG_quiets 3 _ _ _ _ (by first | exact cls_none rfl | exact fun w h => h.1) (by intro j hj; rcases j with _ | _ | _ | _ | _ | _ | _ | _ | _ | _ | j <;> first | exact ⟨rfl, ⟨_, rfl, rfl⟩, rfl⟩ | (exfalso; omega)) ?_; simp only [List.take_succ_cons, List.take_zero, List.drop_succ_cons, List.drop_zero, Nat.zero_add, Nat.reduceAdd]; change wpQuiet _ _ (fun wq9 => ∃ x : Later w5, wq9 = x.W) _ _ _; (repeat (go_big_quiet_step (fail))); refine wpQuiet_nil ?_; try dsimp only)
  (refine wpG_box 9 #[.string ⟨#[]⟩, .int .i64 0, .slice none 0 0, .string ⟨#[]⟩, .string ⟨#[]⟩, .int .i64 0, .string ⟨#[]⟩, .string ⟨#[]⟩, .slice none 0 0] 106 rfl rfl rfl rfl rfl (by intro w; go_simp) ?_; intro ub_g0 bx_g0 hb_g0 hsat; obtain ⟨w1, hw1⟩ := hsat; have hr : gBox 9 ub_g0 bx_g0 hb_g0 w1 := (hw1.rec rfl 7).2.2; obtain ⟨rfl, rfl, _⟩ := hr; clear hw1; simp only [Act.put, List.setIfInBounds_toArray, List.set_cons_zero, List.set_cons_succ, Nat.reduceAdd])
  (refine wpG_t (fun w' => setN w' bx_g0 0 [.string dd.name, .int .i64 dd.stage, .slice A1_g0 dd.x.length c1_g0, .string dd.bob, .string dd.sing, .int .i64 dd.step, .string dd.call, .string dd.tru, .slice A3_g0 dd.rx.length c3_g0]) rfl rfl rfl rfl (by intro w1 hw1; have hr : gBox 9 (.pointer (some ⟨bx_g0, 0, none⟩)) bx_g0 (bx_g0 + 1) w1 := (hw1.rec rfl 7).2.2; have hlo : w5.heap.size ≤ bx_g0 := (hw1.rng rfl 7 rfl).1; obtain ⟨_, _, f, hcf⟩ := hr; have p0 := hcf.cell (i := 0) (by omega); have q0 := hcf.free (i := 0) (by omega); have p1 := hcf.cell (i := 1) (by omega); have q1 := hcf.free (i := 1) (by omega); have p2 := hcf.cell (i := 2) (by omega); have q2 := hcf.free (i := 2) (by omega); have p3 := hcf.cell (i := 3) (by omega); have q3 := hcf.free (i := 3) (by omega); have p4 := hcf.cell (i := 4) (by omega); have q4 := hcf.free (i := 4) (by omega); have p5 := hcf.cell (i := 5) (by omega); have q5 := hcf.free (i := 5) (by omega); have p6 := hcf.cell (i := 6) (by omega); have q6 := hcf.free (i := 6) (by omega); have p7 := hcf.cell (i := 7) (by omega); have q7 := hcf.free (i := 7) (by omega); have p8 := hcf.cell (i := 8) (by omega); have q8 := hcf.free (i := 8) (by omega); have hC1 := (hw1.cls rfl).below; clear hw1; refine ⟨?_, inC.of (Below.setN hlo _ hC1)⟩; simp only [setN]; go_simp; try rfl) ?_)
  simp only [Act.put, List.setIfInBounds_toArray, List.set_cons_zero, List.set_cons_succ, Nat.reduceAdd]
  (refine wpG_quiets 1 _ _ _ _ (by first | exact cls_none rfl | exact fun w h => h.1) (by intro j hj; rcases j with _ | _ | _ | _ | _ | _ | _ | _ | _ | _ | j <;> first | exact ⟨rfl, ⟨_, rfl, rfl⟩, rfl⟩ | (exfalso; omega)) ?_; simp only [List.take_succ_cons, List.take_zero, List.drop_succ_cons, List.drop_zero, Nat.zero_add, Nat.reduceAdd]; change wpQuiet _ _ (fun wq9 => ∃ x : Later w5, wq9 = x.W) _ _ _; (repeat (go_big_quiet_step (fail))); refine wpQuiet_nil ?_; try dsimp only)
  intro w' hh
  obtain ⟨_, wz, hz, rfl⟩ := hh
  have hF : ∃ v, Value.tuple #[.agg #[.string dd.name, .int .i64 dd.stage, .slice A1_g0 dd.x.length c1_g0, .string dd.bob, .string dd.sing, .int .i64 dd.step, .string dd.call, .string dd.tru, .slice A3_g0 dd.rx.length c3_g0], .bool ok] = .tuple #[v, .bool ok] ∧ BdAt dd v lo_g0 hi_g0 wz := (hz.rec rfl 3).2.2
  obtain ⟨v2, he2, hbd⟩ := hF
  obtain rfl : Value.agg #[.string dd.name, .int .i64 dd.stage, .slice A1_g0 dd.x.length c1_g0, .string dd.bob, .string dd.sing, .int .i64 dd.step, .string dd.call, .string dd.tru, .slice A3_g0 dd.rx.length c3_g0] = v2 := by simpa using he2
  obtain ⟨gs_g0, hg1_g0, hg2_g0, ho1, ho3⟩ := hbd.open
  obtain ⟨hl1_g0, hl2_g0, hl3_g0⟩ : w5.heap.size ≤ lo_g0 ∧ lo_g0 ≤ hi_g0 ∧ hi_g0 ≤ wz.heap.size := hz.rng rfl 3 rfl
  obtain ⟨hx1_g0, _, hx3_g0⟩ : w5.heap.size ≤ bx_g0 ∧ bx_g0 ≤ bx_g0 + 1 ∧ bx_g0 + 1 ≤ wz.heap.size := hz.rng rfl 7 rfl
  have hap_g0 : hi_g0 ≤ bx_g0 ∨ bx_g0 + 1 ≤ lo_g0 := hz.apart rfl 3 7 (by omega)
  have hbz := (hz.cls rfl).below
  obtain ⟨_, _, f, hcf⟩ : gBox 9 (.pointer (some ⟨bx_g0, 0, none⟩)) bx_g0 (bx_g0 + 1) wz := (hz.rec rfl 7).2.2
  have hcv := hcf.boxed [.string dd.name, .int .i64 dd.stage, .slice A1_g0 dd.x.length c1_g0, .string dd.bob, .string dd.sing, .int .i64 dd.step, .string dd.call, .string dd.tru, .slice A3_g0 dd.rx.length c3_g0] rfl
  have hck : Chg bx_g0 (bx_g0 + 1) wz (setN wz bx_g0 0 [.string dd.name, .int .i64 dd.stage, .slice A1_g0 dd.x.length c1_g0, .string dd.bob, .string dd.sing, .int .i64 dd.step, .string dd.call, .string dd.tru, .slice A3_g0 dd.rx.length c3_g0]) := Chg.setN (Nat.le_refl _) (Nat.lt_succ_self _) _ (Chg.refl _ _ _)
  have hsz9 := setN_size bx_g0 [.string dd.name, .int .i64 dd.stage, .slice A1_g0 dd.x.length c1_g0, .string dd.bob, .string dd.sing, .int .i64 dd.step, .string dd.call, .string dd.tru, .slice A3_g0 dd.rx.length c3_g0] wz 0
  have hb : Below w5.heap.size w5 (setN wz bx_g0 0 [.string dd.name, .int .i64 dd.stage, .slice A1_g0 dd.x.length c1_g0, .string dd.bob, .string dd.sing, .int .i64 dd.step, .string dd.call, .string dd.tru, .slice A3_g0 dd.rx.length c3_g0]) := Below.setN hx1_g0 _ hbz
  have hv1 := Lib.hid (ho1.chg hck (by omega))
  have hv3 := Lib.hid (ho3.chg hck (by omega))
  have hcv := Lib.hid hcv
  rw [← hsz9] at hl3_g0 hx3_g0
  clear hsz9 hck hcf ho1 ho3 hz hbz hbd he2 l_x0_0 l_x0_1 l_x0_2 l_x0_3 l_x0_4 l_x0_5 l_x0_6 l_x0_7 l_x0_8 l_aA_0 l_aA_1 l_aA_2 l_aA_3
  generalize setN wz bx_g0 0 [.string dd.name, .int .i64 dd.stage, .slice A1_g0 dd.x.length c1_g0, .string dd.bob, .string dd.sing, .int .i64 dd.step, .string dd.call, .string dd.tru, .slice A3_g0 dd.rx.length c3_g0] = w6 at *
  have C6 := Lib.hid hb
  clear hb
  have t6 := C6.out.size
  have Bw6 := Lib.hid (Bw5.out.trans (C6.out.mono Bw5.out.size))
  have HB_aB_6 := Lib.hid (HB_aB_5.out.later C6.out)
  clear HB_aB_5
  have HB_aA_6 := Lib.hid (HB_aA_5.out.later C6.out)
  clear HB_aA_5
  have HB_w0_6 := Lib.hid (HB_w0_5.out.later C6.out)
  clear HB_w0_5
  have HB_x0_6 := Lib.hid (HB_x0_5.out.later C6.out)
  clear HB_x0_5
  have O_w0_a_6 := Lib.hid (O_w0_a_5.out.later C6.out)
  clear O_w0_a_5
  have O_w0_r_6 := Lib.hid (O_w0_r_5.out.later C6.out)
  clear O_w0_r_5
  have O_x0_a_6 := Lib.hid (O_x0_a_5.out.later C6.out)
  clear O_x0_a_5
  have O_x0_r_6 := Lib.hid (O_x0_r_5.out.later C6.out)
  clear O_x0_r_5
  have HB_g0_6 := hcv
  have O_g0_a_6 := hv1
  have O_g0_r_6 := hv3
  clear hcv hv1 hv3
  have s_g0_0 : w6.cell? ⟨bx_g0, 0, none⟩ = some (.string dd.name) := HB_g0_6.out.cell (i := 0) (by omega)
  have s_g0_1 : w6.cell? ⟨bx_g0, 1, none⟩ = some (.int .i64 dd.stage) := HB_g0_6.out.cell (i := 1) (by omega)
  have s_g0_2 : w6.cell? ⟨bx_g0, 2, none⟩ = some (.slice A1_g0 dd.x.length c1_g0) := HB_g0_6.out.cell (i := 2) (by omega)
  have s_g0_3 : w6.cell? ⟨bx_g0, 3, none⟩ = some (.string dd.bob) := HB_g0_6.out.cell (i := 3) (by omega)
  have s_g0_4 : w6.cell? ⟨bx_g0, 4, none⟩ = some (.string dd.sing) := HB_g0_6.out.cell (i := 4) (by omega)
  have s_g0_5 : w6.cell? ⟨bx_g0, 5, none⟩ = some (.int .i64 dd.step) := HB_g0_6.out.cell (i := 5) (by omega)
  have s_g0_6 : w6.cell? ⟨bx_g0, 6, none⟩ = some (.string dd.call) := HB_g0_6.out.cell (i := 6) (by omega)
  have s_g0_7 : w6.cell? ⟨bx_g0, 7, none⟩ = some (.string dd.tru) := HB_g0_6.out.cell (i := 7) (by omega)
  have s_g0_8 : w6.cell? ⟨bx_g0, 8, none⟩ = some (.slice A3_g0 dd.rx.length c3_g0) := HB_g0_6.out.cell (i := 8) (by omega)
  have s_w0_0 : w6.cell? ⟨bx_w0, 0, none⟩ = some (.string dd.name) := HB_w0_6.out.cell (i := 0) (by omega)
  have s_w0_1 : w6.cell? ⟨bx_w0, 1, none⟩ = some (.int .i64 dd.stage) := HB_w0_6.out.cell (i := 1) (by omega)
  have s_w0_2 : w6.cell? ⟨bx_w0, 2, none⟩ = some (.slice A1_w0 dd.x.length c1_w0) := HB_w0_6.out.cell (i := 2) (by omega)
  have s_w0_3 : w6.cell? ⟨bx_w0, 3, none⟩ = some (.string dd.bob) := HB_w0_6.out.cell (i := 3) (by omega)
  have s_w0_4 : w6.cell? ⟨bx_w0, 4, none⟩ = some (.string dd.sing) := HB_w0_6.out.cell (i := 4) (by omega)
  have s_w0_5 : w6.cell? ⟨bx_w0, 5, none⟩ = some (.int .i64 dd.step) := HB_w0_6.out.cell (i := 5) (by omega)
  have s_w0_6 : w6.cell? ⟨bx_w0, 6, none⟩ = some (.string dd.call) := HB_w0_6.out.cell (i := 6) (by omega)
  have s_w0_7 : w6.cell? ⟨bx_w0, 7, none⟩ = some (.string dd.tru) := HB_w0_6.out.cell (i := 7) (by omega)
  have s_w0_8 : w6.cell? ⟨bx_w0, 8, none⟩ = some (.slice A3_w0 dd.rx.length c3_w0) := HB_w0_6.out.cell (i := 8) (by omega)
  go_wp2_with fail
  refine (eqBand_t ⟨⟨dd.name, dd.stage, dd.x, A1_g0, c1_g0⟩, dd.bob, dd.sing, dd.step, dd.call, dd.tru, dd.rx, A3_g0, c3_g0⟩ A1_w0 A3_w0 c1_w0 c3_w0 _ (O_g0_a_6.out.rd encString_len) (O_w0_a_6.out.rd encString_len) (O_g0_r_6.out.rd Rgr_enc_len) (O_w0_r_6.out.rd Rgr_enc_len) (by simp only; omega) (by simp only; omega)).mono ?_
  rintro e w7 ⟨rfl, hb⟩
  clear s_g0_0 s_g0_1 s_g0_2 s_g0_3 s_g0_4 s_g0_5 s_g0_6 s_g0_7 s_g0_8 s_w0_0 s_w0_1 s_w0_2 s_w0_3 s_w0_4 s_w0_5 s_w0_6 s_w0_7 s_w0_8
  have C7 := Lib.hid hb
  clear hb
  have t7 := C7.out.size
  have Bw7 := Lib.hid (Bw6.out.trans (C7.out.mono Bw6.out.size))
  have HB_aB_7 := Lib.hid (HB_aB_6.out.later C7.out)
  clear HB_aB_6
  have HB_aA_7 := Lib.hid (HB_aA_6.out.later C7.out)
  clear HB_aA_6
  have HB_w0_7 := Lib.hid (HB_w0_6.out.later C7.out)
  clear HB_w0_6
  have HB_x0_7 := Lib.hid (HB_x0_6.out.later C7.out)
  clear HB_x0_6
  have HB_g0_7 := Lib.hid (HB_g0_6.out.later C7.out)
  clear HB_g0_6
  have O_w0_a_7 := Lib.hid (O_w0_a_6.out.later C7.out)
  clear O_w0_a_6
  have O_w0_r_7 := Lib.hid (O_w0_r_6.out.later C7.out)
  clear O_w0_r_6
  have O_x0_a_7 := Lib.hid (O_x0_a_6.out.later C7.out)
  clear O_x0_a_6
  have O_x0_r_7 := Lib.hid (O_x0_r_6.out.later C7.out)
  clear O_x0_r_6
  have O_g0_a_7 := Lib.hid (O_g0_a_6.out.later C7.out)
  clear O_g0_a_6
  have O_g0_r_7 := Lib.hid (O_g0_r_6.out.later C7.out)
  clear O_g0_r_6
  have s_x0_0 : w7.cell? ⟨w4.heap.size, 0, none⟩ = some (.string b.m.name) := HB_x0_7.out.cell (i := 0) (by omega)
  have s_x0_1 : w7.cell? ⟨w4.heap.size, 1, none⟩ = some (.int .i64 b.m.stage) := HB_x0_7.out.cell (i := 1) (by omega)
  have s_x0_2 : w7.cell? ⟨w4.heap.size, 2, none⟩ = some (.slice Ax0 b.m.x.length b.m.x.length) := HB_x0_7.out.cell (i := 2) (by omega)
  have s_x0_3 : w7.cell? ⟨w4.heap.size, 3, none⟩ = some (.string b.bob) := HB_x0_7.out.cell (i := 3) (by omega)
  have s_x0_4 : w7.cell? ⟨w4.heap.size, 4, none⟩ = some (.string b.sing) := HB_x0_7.out.cell (i := 4) (by omega)
  have s_x0_5 : w7.cell? ⟨w4.heap.size, 5, none⟩ = some (.int .i64 b.step) := HB_x0_7.out.cell (i := 5) (by omega)
  have s_x0_6 : w7.cell? ⟨w4.heap.size, 6, none⟩ = some (.string b.call) := HB_x0_7.out.cell (i := 6) (by omega)
  have s_x0_7 : w7.cell? ⟨w4.heap.size, 7, none⟩ = some (.string b.tru) := HB_x0_7.out.cell (i := 7) (by omega)
  have s_x0_8 : w7.cell? ⟨w4.heap.size, 8, none⟩ = some (.slice Rx0 b.rx.length b.rx.length) := HB_x0_7.out.cell (i := 8) (by omega)
  have s_aB_0 : w7.cell? ⟨w.heap.size, 0, none⟩ = some (.string b.m.name) := HB_aB_7.out.cell (i := 0) (by omega)
  have s_aB_1 : w7.cell? ⟨w.heap.size, 1, none⟩ = some (.int .i64 b.m.stage) := HB_aB_7.out.cell (i := 1) (by omega)
  have s_aB_2 : w7.cell? ⟨w.heap.size, 2, none⟩ = some (.slice b.m.A b.m.x.length b.m.c) := HB_aB_7.out.cell (i := 2) (by omega)
  have s_aB_3 : w7.cell? ⟨w.heap.size, 3, none⟩ = some (.string b.bob) := HB_aB_7.out.cell (i := 3) (by omega)
  have s_aB_4 : w7.cell? ⟨w.heap.size, 4, none⟩ = some (.string b.sing) := HB_aB_7.out.cell (i := 4) (by omega)
  have s_aB_5 : w7.cell? ⟨w.heap.size, 5, none⟩ = some (.int .i64 b.step) := HB_aB_7.out.cell (i := 5) (by omega)
  have s_aB_6 : w7.cell? ⟨w.heap.size, 6, none⟩ = some (.string b.call) := HB_aB_7.out.cell (i := 6) (by omega)
  have s_aB_7 : w7.cell? ⟨w.heap.size, 7, none⟩ = some (.string b.tru) := HB_aB_7.out.cell (i := 7) (by omega)
  have s_aB_8 : w7.cell? ⟨w.heap.size, 8, none⟩ = some (.slice b.RA b.rx.length b.rc) := HB_aB_7.out.cell (i := 8) (by omega)
  have l_x0_0 := Later.cell s_x0_0 (show w4.heap.size < w7.heap.size by omega)
  have l_x0_1 := Later.cell s_x0_1 (show w4.heap.size < w7.heap.size by omega)
  have l_x0_2 := Later.cell s_x0_2 (show w4.heap.size < w7.heap.size by omega)
  have l_x0_3 := Later.cell s_x0_3 (show w4.heap.size < w7.heap.size by omega)
  have l_x0_4 := Later.cell s_x0_4 (show w4.heap.size < w7.heap.size by omega)
  have l_x0_5 := Later.cell s_x0_5 (show w4.heap.size < w7.heap.size by omega)
  have l_x0_6 := Later.cell s_x0_6 (show w4.heap.size < w7.heap.size by omega)
  have l_x0_7 := Later.cell s_x0_7 (show w4.heap.size < w7.heap.size by omega)
  have l_x0_8 := Later.cell s_x0_8 (show w4.heap.size < w7.heap.size by omega)
  have l_aB_0 := Later.cell s_aB_0 (show w.heap.size < w7.heap.size by omega)
  have l_aB_1 := Later.cell s_aB_1 (show w.heap.size < w7.heap.size by omega)
  have l_aB_2 := Later.cell s_aB_2 (show w.heap.size < w7.heap.size by omega)
  have l_aB_3 := Later.cell s_aB_3 (show w.heap.size < w7.heap.size by omega)
  have l_aB_4 := Later.cell s_aB_4 (show w.heap.size < w7.heap.size by omega)
  have l_aB_5 := Later.cell s_aB_5 (show w.heap.size < w7.heap.size by omega)
  have l_aB_6 := Later.cell s_aB_6 (show w.heap.size < w7.heap.size by omega)
  have l_aB_7 := Later.cell s_aB_7 (show w.heap.size < w7.heap.size by omega)
  have l_aB_8 := Later.cell s_aB_8 (show w.heap.size < w7.heap.size by omega)
  clear s_x0_0 s_x0_1 s_x0_2 s_x0_3 s_x0_4 s_x0_5 s_x0_6 s_x0_7 s_x0_8 s_aB_0 s_aB_1 s_aB_2 s_aB_3 s_aB_4 s_aB_5 s_aB_6 s_aB_7 s_aB_8
  go_wp2_with fail
  refine wp_region_G (by kernel_rfl) [.q, .q, .s (fun _ u lo hi w' => ∃ A R, u = .agg #[.string b.m.name, .int .i64 b.m.stage, .slice A b.m.x.length b.m.x.length, .string b.bob, .string b.sing, .int .i64 b.step, .string b.call, .string b.tru, .slice R b.rx.length b.rx.length] ∧ OwnL w' lo hi A 1 encString b.m.x ∧ OwnL w' lo hi R 2 Rgr.enc b.rx), .s (fun _ u lo hi w' => u = .bool true), .q] [0, 0, 1, 1, 0] rfl 3 (by kernel_rfl) (inC w7) (w7).heap.size (inC.size w7) (inC.of (Below.refl _ _).drew) ?_
  (refine wpG_quiets 2 _ _ _ _ (by first | exact cls_none rfl | exact fun w h => h.1) (by intro j hj; rcases j with _ | _ | _ | _ | _ | _ | _ | _ | _ | _ | j <;> first | exact ⟨rfl, ⟨_, rfl, rfl⟩, rfl⟩ | (exfalso; omega)) ?_; simp only [List.take_succ_cons, List.take_zero, List.drop_succ_cons, List.drop_zero, Nat.zero_add, Nat.reduceAdd]; change wpQuiet _ _ (fun wq9 => ∃ x : Later w7, wq9 = x.W) _ _ _; (repeat (go_big_quiet_step (fail))); refine wpQuiet_nil ?_; try dsimp only)
  (refine wpG_call _ rfl rfl rfl rfl (fun u lo hi => loc_ex fun A => loc_ex fun R => loc_and (loc_pure _) (loc_and (loc_own (Nat.le_refl _) (Nat.le_refl _)) (loc_own (Nat.le_refl _) (Nat.le_refl _)))) 78 #[.agg #[.string b.m.name, .int .i64 b.m.stage, .slice b.m.A b.m.x.length b.m.c, .string b.bob, .string b.sing, .int .i64 b.step, .string b.call, .string b.tru, .slice b.RA b.rx.length b.rc]] (by intro w; go_simp) (by intro w1 hw1 hd; (refine (toBand_any b w1 ((Hb.out.below (Bw7.out.trans (hw1.below.mono Bw7.out.size)) (Nat.le_refl _)).more (Nat.le_trans Bw7.out.size hw1.below.size)) ((Hrb.out.below (Bw7.out.trans (hw1.below.mono Bw7.out.size)) (Nat.le_refl _)).more (Nat.le_trans Bw7.out.size hw1.below.size)) (by omega) (by omega)).mono ?_; rintro e w2 ⟨A, R, rfl, ho, ho3, hb⟩; exact ⟨_, rfl, hw1.step hb, eff_of_below hb, A, R, rfl, ho, ho3⟩)) ?_)
  (intro u_e6 lo_e6 hi_e6 hsat; obtain ⟨w1, hw1⟩ := hsat; have hr : ∃ A R, u_e6 = .agg #[.string b.m.name, .int .i64 b.m.stage, .slice A b.m.x.length b.m.x.length, .string b.bob, .string b.sing, .int .i64 b.step, .string b.call, .string b.tru, .slice R b.rx.length b.rx.length] ∧ OwnL w1 lo_e6 hi_e6 A 1 encString b.m.x ∧ OwnL w1 lo_e6 hi_e6 R 2 Rgr.enc b.rx := (hw1.rec rfl 2).2.2; obtain ⟨A_e6, R_e6, rfl, _⟩ := hr; clear hw1; simp only [Act.put, List.setIfInBounds_toArray, List.set_cons_zero, List.set_cons_succ, Nat.reduceAdd])
  (refine wpG_call _ rfl rfl rfl rfl (fun u lo hi => loc_pure _) 81 #[.agg #[.string b.m.name, .int .i64 b.m.stage, .slice Ax0 b.m.x.length b.m.x.length, .string b.bob, .string b.sing, .int .i64 b.step, .string b.call, .string b.tru, .slice Rx0 b.rx.length b.rx.length], .agg #[.string b.m.name, .int .i64 b.m.stage, .slice A_e6 b.m.x.length b.m.x.length, .string b.bob, .string b.sing, .int .i64 b.step, .string b.call, .string b.tru, .slice R_e6 b.rx.length b.rx.length]] (by intro w; go_simp) (by intro w1 hw1 hd; (have hdz : ∃ A R, (.agg #[.string b.m.name, .int .i64 b.m.stage, .slice A_e6 b.m.x.length b.m.x.length, .string b.bob, .string b.sing, .int .i64 b.step, .string b.call, .string b.tru, .slice R_e6 b.rx.length b.rx.length] : Value) = .agg #[.string b.m.name, .int .i64 b.m.stage, .slice A b.m.x.length b.m.x.length, .string b.bob, .string b.sing, .int .i64 b.step, .string b.call, .string b.tru, .slice R b.rx.length b.rx.length] ∧ OwnL w1 lo_e6 hi_e6 A 1 encString b.m.x ∧ OwnL w1 lo_e6 hi_e6 R 2 Rgr.enc b.rx := (hd 2 (gDep_mem (by kernel_rfl))).2; obtain ⟨Az, Rz, hez, hozA, hozR⟩ := hdz; obtain ⟨rfl, rfl⟩ : A_e6 = Az ∧ R_e6 = Rz := (by simpa using hez); refine (eqBand_t ⟨⟨b.m.name, b.m.stage, b.m.x, Ax0, b.m.x.length⟩, b.bob, b.sing, b.step, b.call, b.tru, b.rx, Rx0, b.rx.length⟩ A_e6 R_e6 b.m.x.length b.rx.length w1 ((O_x0_a_7.out.later hw1.below).rd encString_len) (hozA.rd encString_len) ((O_x0_r_7.out.later hw1.below).rd Rgr_enc_len) (hozR.rd Rgr_enc_len) (by simp only; omega) (by simp only; omega)).mono ?_; rintro e w2 ⟨rfl, hb⟩; exact ⟨_, rfl, hw1.step hb, eff_of_below hb, rfl⟩)) ?_)
  (intro ueq loeq hieq hsat; obtain ⟨w1, hw1⟩ := hsat; have hr : ueq = .bool true := (hw1.rec rfl 3).2.2; obtain rfl := hr; clear hw1; simp only [Act.put, List.setIfInBounds_toArray, List.set_cons_zero, List.set_cons_succ, Nat.reduceAdd])
  (refine wpG_quiets 1 _ _ _ _ (by first | exact cls_none rfl | exact fun w h => h.1) (by intro j hj; rcases j with _ | _ | _ | _ | _ | _ | _ | _ | _ | _ | j <;> first | exact ⟨rfl, ⟨_, rfl, rfl⟩, rfl⟩ | (exfalso; omega)) ?_; simp only [List.take_succ_cons, List.take_zero, List.drop_succ_cons, List.drop_zero, Nat.zero_add, Nat.reduceAdd]; change wpQuiet _ _ (fun wq9 => ∃ x : Later w7, wq9 = x.W) _ _ _; (repeat (go_big_quiet_step (fail))); refine wpQuiet_nil ?_; try dsimp only)
  intro w8 hh
  have hb := (hh.cls rfl).below
  clear hh l_x0_0 l_x0_1 l_x0_2 l_x0_3 l_x0_4 l_x0_5 l_x0_6 l_x0_7 l_x0_8 l_aB_0 l_aB_1 l_aB_2 l_aB_3 l_aB_4 l_aB_5 l_aB_6 l_aB_7 l_aB_8
  have C8 := Lib.hid hb
  clear hb
  have t8 := C8.out.size
  have Bw8 := Lib.hid (Bw7.out.trans (C8.out.mono Bw7.out.size))
  have HB_aB_8 := Lib.hid (HB_aB_7.out.later C8.out)
  clear HB_aB_7
  have HB_aA_8 := Lib.hid (HB_aA_7.out.later C8.out)
  clear HB_aA_7
  have HB_w0_8 := Lib.hid (HB_w0_7.out.later C8.out)
  clear HB_w0_7
  have HB_x0_8 := Lib.hid (HB_x0_7.out.later C8.out)
  clear HB_x0_7
  have HB_g0_8 := Lib.hid (HB_g0_7.out.later C8.out)
  clear HB_g0_7
  have O_w0_a_8 := Lib.hid (O_w0_a_7.out.later C8.out)
  clear O_w0_a_7
  have O_w0_r_8 := Lib.hid (O_w0_r_7.out.later C8.out)
  clear O_w0_r_7
  have O_x0_a_8 := Lib.hid (O_x0_a_7.out.later C8.out)
  clear O_x0_a_7
  have O_x0_r_8 := Lib.hid (O_x0_r_7.out.later C8.out)
  clear O_x0_r_7
  have O_g0_a_8 := Lib.hid (O_g0_a_7.out.later C8.out)
  clear O_g0_a_7
  have O_g0_r_8 := Lib.hid (O_g0_r_7.out.later C8.out)
  clear O_g0_r_7
  have s_x0_0 : w8.cell? ⟨w4.heap.size, 0, none⟩ = some (.string b.m.name) := HB_x0_8.out.cell (i := 0) (by omega)
  have s_x0_1 : w8.cell? ⟨w4.heap.size, 1, none⟩ = some (.int .i64 b.m.stage) := HB_x0_8.out.cell (i := 1) (by omega)
  have s_x0_2 : w8.cell? ⟨w4.heap.size, 2, none⟩ = some (.slice Ax0 b.m.x.length b.m.x.length) := HB_x0_8.out.cell (i := 2) (by omega)
  have s_x0_3 : w8.cell? ⟨w4.heap.size, 3, none⟩ = some (.string b.bob) := HB_x0_8.out.cell (i := 3) (by omega)
  have s_x0_4 : w8.cell? ⟨w4.heap.size, 4, none⟩ = some (.string b.sing) := HB_x0_8.out.cell (i := 4) (by omega)
  have s_x0_5 : w8.cell? ⟨w4.heap.size, 5, none⟩ = some (.int .i64 b.step) := HB_x0_8.out.cell (i := 5) (by omega)
  have s_x0_6 : w8.cell? ⟨w4.heap.size, 6, none⟩ = some (.string b.call) := HB_x0_8.out.cell (i := 6) (by omega)
  have s_x0_7 : w8.cell? ⟨w4.heap.size, 7, none⟩ = some (.string b.tru) := HB_x0_8.out.cell (i := 7) (by omega)
  have s_x0_8 : w8.cell? ⟨w4.heap.size, 8, none⟩ = some (.slice Rx0 b.rx.length b.rx.length) := HB_x0_8.out.cell (i := 8) (by omega)
  go_wp2_with fail
  refine (markBand_any ⟨⟨b.m.name, b.m.stage, b.m.x, Ax0, b.m.x.length⟩, b.bob, b.sing, b.step, b.call, b.tru, b.rx, Rx0, b.rx.length⟩ w3.heap.size gsx0 w4.heap.size 1 _ O_x0_a_8.out O_x0_r_8.out (by omega) (by omega) (by omega) (by simp only; omega) (by simp only; omega) (by omega) (by omega)).mono ?_
  rintro e w9 ⟨he, hc⟩
  clear s_x0_0 s_x0_1 s_x0_2 s_x0_3 s_x0_4 s_x0_5 s_x0_6 s_x0_7 s_x0_8
  obtain ⟨q9, hq⟩ : ∃ q : Nat, q = 1 + b.m.x.length + b.rx.length * 2 := ⟨_, rfl⟩
  have he2 : e = .returned (.int .i64 (q9 : Int)) := by rw [hq]; exact he
  subst he2
  clear he
  have Hq9 := Lib.hid hq
  obtain ⟨qa9, qb9⟩ : 0 < q9 ∧ q9 ≤ 10000001 := by omega
  clear hq
  have C9 := Lib.hid hc
  clear hc
  have t9 := C9.out.size
  have Bw9 := Lib.hid (Below.chg Bw8.out C9.out (by omega) Bw8.out.size)
  have HB_aB_9 := Lib.hid (HB_aB_8.out.chg C9.out (by omega))
  clear HB_aB_8
  have HB_aA_9 := Lib.hid (HB_aA_8.out.chg C9.out (by omega))
  clear HB_aA_8
  have HB_w0_9 := Lib.hid (HB_w0_8.out.chg C9.out (by omega))
  clear HB_w0_8
  have HB_g0_9 := Lib.hid (HB_g0_8.out.chg C9.out (by omega))
  clear HB_g0_8
  have O_w0_a_9 := Lib.hid (O_w0_a_8.out.chg C9.out (by omega))
  clear O_w0_a_8
  have O_w0_r_9 := Lib.hid (O_w0_r_8.out.chg C9.out (by omega))
  clear O_w0_r_8
  have O_g0_a_9 := Lib.hid (O_g0_a_8.out.chg C9.out (by omega))
  clear O_g0_a_8
  have O_g0_r_9 := Lib.hid (O_g0_r_8.out.chg C9.out (by omega))
  clear O_g0_r_8
  clear O_x0_a_8
  clear O_x0_r_8
  clear HB_x0_8
  have s_g0_0 : w9.cell? ⟨bx_g0, 0, none⟩ = some (.string dd.name) := HB_g0_9.out.cell (i := 0) (by omega)
  have s_g0_1 : w9.cell? ⟨bx_g0, 1, none⟩ = some (.int .i64 dd.stage) := HB_g0_9.out.cell (i := 1) (by omega)
  have s_g0_2 : w9.cell? ⟨bx_g0, 2, none⟩ = some (.slice A1_g0 dd.x.length c1_g0) := HB_g0_9.out.cell (i := 2) (by omega)
  have s_g0_3 : w9.cell? ⟨bx_g0, 3, none⟩ = some (.string dd.bob) := HB_g0_9.out.cell (i := 3) (by omega)
  have s_g0_4 : w9.cell? ⟨bx_g0, 4, none⟩ = some (.string dd.sing) := HB_g0_9.out.cell (i := 4) (by omega)
  have s_g0_5 : w9.cell? ⟨bx_g0, 5, none⟩ = some (.int .i64 dd.step) := HB_g0_9.out.cell (i := 5) (by omega)
  have s_g0_6 : w9.cell? ⟨bx_g0, 6, none⟩ = some (.string dd.call) := HB_g0_9.out.cell (i := 6) (by omega)
  have s_g0_7 : w9.cell? ⟨bx_g0, 7, none⟩ = some (.string dd.tru) := HB_g0_9.out.cell (i := 7) (by omega)
  have s_g0_8 : w9.cell? ⟨bx_g0, 8, none⟩ = some (.slice A3_g0 dd.rx.length c3_g0) := HB_g0_9.out.cell (i := 8) (by omega)
  have s_w0_0 : w9.cell? ⟨bx_w0, 0, none⟩ = some (.string dd.name) := HB_w0_9.out.cell (i := 0) (by omega)
  have s_w0_1 : w9.cell? ⟨bx_w0, 1, none⟩ = some (.int .i64 dd.stage) := HB_w0_9.out.cell (i := 1) (by omega)
  have s_w0_2 : w9.cell? ⟨bx_w0, 2, none⟩ = some (.slice A1_w0 dd.x.length c1_w0) := HB_w0_9.out.cell (i := 2) (by omega)
  have s_w0_3 : w9.cell? ⟨bx_w0, 3, none⟩ = some (.string dd.bob) := HB_w0_9.out.cell (i := 3) (by omega)
  have s_w0_4 : w9.cell? ⟨bx_w0, 4, none⟩ = some (.string dd.sing) := HB_w0_9.out.cell (i := 4) (by omega)
  have s_w0_5 : w9.cell? ⟨bx_w0, 5, none⟩ = some (.int .i64 dd.step) := HB_w0_9.out.cell (i := 5) (by omega)
  have s_w0_6 : w9.cell? ⟨bx_w0, 6, none⟩ = some (.string dd.call) := HB_w0_9.out.cell (i := 6) (by omega)
  have s_w0_7 : w9.cell? ⟨bx_w0, 7, none⟩ = some (.string dd.tru) := HB_w0_9.out.cell (i := 7) (by omega)
  have s_w0_8 : w9.cell? ⟨bx_w0, 8, none⟩ = some (.slice A3_w0 dd.rx.length c3_w0) := HB_w0_9.out.cell (i := 8) (by omega)
  go_wp2_with fail
  refine (eqBand_t ⟨⟨dd.name, dd.stage, dd.x, A1_g0, c1_g0⟩, dd.bob, dd.sing, dd.step, dd.call, dd.tru, dd.rx, A3_g0, c3_g0⟩ A1_w0 A3_w0 c1_w0 c3_w0 _ (O_g0_a_9.out.rd encString_len) (O_w0_a_9.out.rd encString_len) (O_g0_r_9.out.rd Rgr_enc_len) (O_w0_r_9.out.rd Rgr_enc_len) (by simp only; omega) (by simp only; omega)).mono ?_
  rintro e w10 ⟨rfl, hb⟩
  clear s_g0_0 s_g0_1 s_g0_2 s_g0_3 s_g0_4 s_g0_5 s_g0_6 s_g0_7 s_g0_8 s_w0_0 s_w0_1 s_w0_2 s_w0_3 s_w0_4 s_w0_5 s_w0_6 s_w0_7 s_w0_8
  have C10 := Lib.hid hb
  clear hb
  have t10 := C10.out.size
  have Bw10 := Lib.hid (Bw9.out.trans (C10.out.mono Bw9.out.size))
  have HB_aB_10 := Lib.hid (HB_aB_9.out.later C10.out)
  clear HB_aB_9
  have HB_aA_10 := Lib.hid (HB_aA_9.out.later C10.out)
  clear HB_aA_9
  have HB_w0_10 := Lib.hid (HB_w0_9.out.later C10.out)
  clear HB_w0_9
  have HB_g0_10 := Lib.hid (HB_g0_9.out.later C10.out)
  clear HB_g0_9
  have O_w0_a_10 := Lib.hid (O_w0_a_9.out.later C10.out)
  clear O_w0_a_9
  have O_w0_r_10 := Lib.hid (O_w0_r_9.out.later C10.out)
  clear O_w0_r_9
  have O_g0_a_10 := Lib.hid (O_g0_a_9.out.later C10.out)
  clear O_g0_a_9
  have O_g0_r_10 := Lib.hid (O_g0_r_9.out.later C10.out)
  clear O_g0_r_9
  have s_g0_0 : w10.cell? ⟨bx_g0, 0, none⟩ = some (.string dd.name) := HB_g0_10.out.cell (i := 0) (by omega)
  have s_g0_1 : w10.cell? ⟨bx_g0, 1, none⟩ = some (.int .i64 dd.stage) := HB_g0_10.out.cell (i := 1) (by omega)
  have s_g0_2 : w10.cell? ⟨bx_g0, 2, none⟩ = some (.slice A1_g0 dd.x.length c1_g0) := HB_g0_10.out.cell (i := 2) (by omega)
  have s_g0_3 : w10.cell? ⟨bx_g0, 3, none⟩ = some (.string dd.bob) := HB_g0_10.out.cell (i := 3) (by omega)
  have s_g0_4 : w10.cell? ⟨bx_g0, 4, none⟩ = some (.string dd.sing) := HB_g0_10.out.cell (i := 4) (by omega)
  have s_g0_5 : w10.cell? ⟨bx_g0, 5, none⟩ = some (.int .i64 dd.step) := HB_g0_10.out.cell (i := 5) (by omega)
  have s_g0_6 : w10.cell? ⟨bx_g0, 6, none⟩ = some (.string dd.call) := HB_g0_10.out.cell (i := 6) (by omega)
  have s_g0_7 : w10.cell? ⟨bx_g0, 7, none⟩ = some (.string dd.tru) := HB_g0_10.out.cell (i := 7) (by omega)
  have s_g0_8 : w10.cell? ⟨bx_g0, 8, none⟩ = some (.slice A3_g0 dd.rx.length c3_g0) := HB_g0_10.out.cell (i := 8) (by omega)
  go_wp2_with fail
  refine (markBandC_any ⟨⟨dd.name, dd.stage, dd.x, A1_g0, c1_g0⟩, dd.bob, dd.sing, dd.step, dd.call, dd.tru, dd.rx, A3_g0, c3_g0⟩ lo_g0 gs_g0 hi_g0 1 _ O_g0_a_10.out O_g0_r_10.out (by omega) (by omega) (by omega) (by simp only; omega) (by simp only; omega) (by omega) (by omega)).mono ?_
  rintro e w11 ⟨he, ho, ho3, hc⟩
  clear s_g0_0 s_g0_1 s_g0_2 s_g0_3 s_g0_4 s_g0_5 s_g0_6 s_g0_7 s_g0_8
  obtain ⟨q11, hq⟩ : ∃ q : Nat, q = 1 + dd.x.length + dd.rx.length * 2 := ⟨_, rfl⟩
  have he2 : e = .returned (.int .i64 (q11 : Int)) := by rw [hq]; exact he
  subst he2
  clear he
  have Hq11 := Lib.hid hq
  obtain ⟨qa11, qb11⟩ : 0 < q11 ∧ q11 ≤ 10000001 := by omega
  clear hq
  have C11 := Lib.hid hc
  clear hc
  have t11 := C11.out.size
  have Bw11 := Lib.hid (Below.chg Bw10.out C11.out (by omega) Bw10.out.size)
  have HB_aB_11 := Lib.hid (HB_aB_10.out.chg C11.out (by omega))
  clear HB_aB_10
  have HB_aA_11 := Lib.hid (HB_aA_10.out.chg C11.out (by omega))
  clear HB_aA_10
  have HB_w0_11 := Lib.hid (HB_w0_10.out.chg C11.out (by omega))
  clear HB_w0_10
  have O_w0_a_11 := Lib.hid (O_w0_a_10.out.chg C11.out (by omega))
  clear O_w0_a_10
  have O_w0_r_11 := Lib.hid (O_w0_r_10.out.chg C11.out (by omega))
  clear O_w0_r_10
  have O_g0_a_11 := Lib.hid ho
  have O_g0_r_11 := Lib.hid ho3
  clear ho ho3 O_g0_a_10 O_g0_r_10
  have HB_g0_11 := Lib.hid (HB_g0_10.out.chg C11.out (by omega))
  clear HB_g0_10
  have s_g0_0 : w11.cell? ⟨bx_g0, 0, none⟩ = some (.string dd.name) := HB_g0_11.out.cell (i := 0) (by omega)
  have s_g0_1 : w11.cell? ⟨bx_g0, 1, none⟩ = some (.int .i64 dd.stage) := HB_g0_11.out.cell (i := 1) (by omega)
  have s_g0_2 : w11.cell? ⟨bx_g0, 2, none⟩ = some (.slice A1_g0 dd.x.length c1_g0) := HB_g0_11.out.cell (i := 2) (by omega)
  have s_g0_3 : w11.cell? ⟨bx_g0, 3, none⟩ = some (.string dd.bob) := HB_g0_11.out.cell (i := 3) (by omega)
  have s_g0_4 : w11.cell? ⟨bx_g0, 4, none⟩ = some (.string dd.sing) := HB_g0_11.out.cell (i := 4) (by omega)
  have s_g0_5 : w11.cell? ⟨bx_g0, 5, none⟩ = some (.int .i64 dd.step) := HB_g0_11.out.cell (i := 5) (by omega)
  have s_g0_6 : w11.cell? ⟨bx_g0, 6, none⟩ = some (.string dd.call) := HB_g0_11.out.cell (i := 6) (by omega)
  have s_g0_7 : w11.cell? ⟨bx_g0, 7, none⟩ = some (.string dd.tru) := HB_g0_11.out.cell (i := 7) (by omega)
  have s_g0_8 : w11.cell? ⟨bx_g0, 8, none⟩ = some (.slice A3_g0 dd.rx.length c3_g0) := HB_g0_11.out.cell (i := 8) (by omega)
  go_wp2_with fail
  refine (heldBand_any dd.name dd.stage A1_g0 dd.x.length c1_g0 dd.bob dd.sing dd.step dd.call dd.tru A3_g0 dd.rx.length c3_g0 1 _ (O_g0_a_11.out.rd encString_len) (O_g0_r_11.out.rd Rgr_enc_len) (by omega) (by omega) (by omega) (by omega)).mono ?_
  rintro e w12 ⟨he, hb⟩
  clear s_g0_0 s_g0_1 s_g0_2 s_g0_3 s_g0_4 s_g0_5 s_g0_6 s_g0_7 s_g0_8
  have he2 : e = .returned (.int .i64 (q11 : Int)) := by rw [Hq11.out]; exact he
  subst he2
  clear he
  have C12 := Lib.hid hb
  clear hb
  have t12 := C12.out.size
  have Bw12 := Lib.hid (Bw11.out.trans (C12.out.mono Bw11.out.size))
  have HB_aB_12 := Lib.hid (HB_aB_11.out.later C12.out)
  clear HB_aB_11
  have HB_aA_12 := Lib.hid (HB_aA_11.out.later C12.out)
  clear HB_aA_11
  have HB_w0_12 := Lib.hid (HB_w0_11.out.later C12.out)
  clear HB_w0_11
  have HB_g0_12 := Lib.hid (HB_g0_11.out.later C12.out)
  clear HB_g0_11
  have O_w0_a_12 := Lib.hid (O_w0_a_11.out.later C12.out)
  clear O_w0_a_11
  have O_w0_r_12 := Lib.hid (O_w0_r_11.out.later C12.out)
  clear O_w0_r_11
  have O_g0_a_12 := Lib.hid (O_g0_a_11.out.later C12.out)
  clear O_g0_a_11
  have O_g0_r_12 := Lib.hid (O_g0_r_11.out.later C12.out)
  clear O_g0_r_11
  have s_aB_0 : w12.cell? ⟨w.heap.size, 0, none⟩ = some (.string b.m.name) := HB_aB_12.out.cell (i := 0) (by omega)
  have s_aB_1 : w12.cell? ⟨w.heap.size, 1, none⟩ = some (.int .i64 b.m.stage) := HB_aB_12.out.cell (i := 1) (by omega)
  have s_aB_2 : w12.cell? ⟨w.heap.size, 2, none⟩ = some (.slice b.m.A b.m.x.length b.m.c) := HB_aB_12.out.cell (i := 2) (by omega)
  have s_aB_3 : w12.cell? ⟨w.heap.size, 3, none⟩ = some (.string b.bob) := HB_aB_12.out.cell (i := 3) (by omega)
  have s_aB_4 : w12.cell? ⟨w.heap.size, 4, none⟩ = some (.string b.sing) := HB_aB_12.out.cell (i := 4) (by omega)
  have s_aB_5 : w12.cell? ⟨w.heap.size, 5, none⟩ = some (.int .i64 b.step) := HB_aB_12.out.cell (i := 5) (by omega)
  have s_aB_6 : w12.cell? ⟨w.heap.size, 6, none⟩ = some (.string b.call) := HB_aB_12.out.cell (i := 6) (by omega)
  have s_aB_7 : w12.cell? ⟨w.heap.size, 7, none⟩ = some (.string b.tru) := HB_aB_12.out.cell (i := 7) (by omega)
  have s_aB_8 : w12.cell? ⟨w.heap.size, 8, none⟩ = some (.slice b.RA b.rx.length b.rc) := HB_aB_12.out.cell (i := 8) (by omega)
  have s_aA_0 : w12.cell? ⟨w.heap.size + 1, 0, none⟩ = some (.int .i64 a.kind) := HB_aA_12.out.cell (i := 0) (by omega)
  have s_aA_1 : w12.cell? ⟨w.heap.size + 1, 1, none⟩ = some (.int .i64 a.bell) := HB_aA_12.out.cell (i := 1) (by omega)
  have s_aA_2 : w12.cell? ⟨w.heap.size + 1, 2, none⟩ = some (.int .i64 a.by_) := HB_aA_12.out.cell (i := 2) (by omega)
  have s_aA_3 : w12.cell? ⟨w.heap.size + 1, 3, none⟩ = some (.string a.call) := HB_aA_12.out.cell (i := 3) (by omega)
  have l_aB_0 := Later.cell s_aB_0 (show w.heap.size < w12.heap.size by omega)
  have l_aB_1 := Later.cell s_aB_1 (show w.heap.size < w12.heap.size by omega)
  have l_aB_2 := Later.cell s_aB_2 (show w.heap.size < w12.heap.size by omega)
  have l_aB_3 := Later.cell s_aB_3 (show w.heap.size < w12.heap.size by omega)
  have l_aB_4 := Later.cell s_aB_4 (show w.heap.size < w12.heap.size by omega)
  have l_aB_5 := Later.cell s_aB_5 (show w.heap.size < w12.heap.size by omega)
  have l_aB_6 := Later.cell s_aB_6 (show w.heap.size < w12.heap.size by omega)
  have l_aB_7 := Later.cell s_aB_7 (show w.heap.size < w12.heap.size by omega)
  have l_aB_8 := Later.cell s_aB_8 (show w.heap.size < w12.heap.size by omega)
  have l_aA_0 := Later.cell s_aA_0 (show w.heap.size + 1 < w12.heap.size by omega)
  have l_aA_1 := Later.cell s_aA_1 (show w.heap.size + 1 < w12.heap.size by omega)
  have l_aA_2 := Later.cell s_aA_2 (show w.heap.size + 1 < w12.heap.size by omega)
  have l_aA_3 := Later.cell s_aA_3 (show w.heap.size + 1 < w12.heap.size by omega)
  clear s_aB_0 s_aB_1 s_aB_2 s_aB_3 s_aB_4 s_aB_5 s_aB_6 s_aB_7 s_aB_8 s_aA_0 s_aA_1 s_aA_2 s_aA_3
  go_wp2_with fail
  refine wp_region_G (by kernel_rfl) [.q, .s (fun _ u lo hi w' => ∃ A R, u = .agg #[.string b.m.name, .int .i64 b.m.stage, .slice A b.m.x.length b.m.x.length, .string b.bob, .string b.sing, .int .i64 b.step, .string b.call, .string b.tru, .slice R b.rx.length b.rx.length] ∧ OwnL w' lo hi A 1 encString b.m.x ∧ OwnL w' lo hi R 2 Rgr.enc b.rx), .q, .s (fun _ u lo hi w' => u = .agg #[.int .i64 a.kind, .int .i64 a.bell, .int .i64 a.by_, .string a.call]), .s (fun _ u lo hi w' => ∃ v, u = .tuple #[v, .bool ok] ∧ BdAt dd v lo hi w'), .q, .q, .q, .s (fun _ => gBox 9), .t, .q] [0, 1, 0, 1, 1, 0, 0, 0, 1, 2, 0] rfl 3 (by kernel_rfl) (inC w12) (w12).heap.size (inC.size w12) (inC.of (Below.refl _ _).drew) ?_
  (refine wpG_quiets 1 _ _ _ _ (by first | exact cls_none rfl | exact fun w h => h.1) (by intro j hj; rcases j with _ | _ | _ | _ | _ | _ | _ | _ | _ | _ | j <;> first | exact ⟨rfl, ⟨_, rfl, rfl⟩, rfl⟩ | (exfalso; omega)) ?_; simp only [List.take_succ_cons, List.take_zero, List.drop_succ_cons, List.drop_zero, Nat.zero_add, Nat.reduceAdd]; change wpQuiet _ _ (fun wq9 => ∃ x : Later w12, wq9 = x.W) _ _ _; (repeat (go_big_quiet_step (fail))); refine wpQuiet_nil ?_; try dsimp only)
  (refine wpG_call _ rfl rfl rfl rfl (fun u lo hi => loc_ex fun A => loc_ex fun R => loc_and (loc_pure _) (loc_and (loc_own (Nat.le_refl _) (Nat.le_refl _)) (loc_own (Nat.le_refl _) (Nat.le_refl _)))) 78 #[.agg #[.string b.m.name, .int .i64 b.m.stage, .slice b.m.A b.m.x.length b.m.c, .string b.bob, .string b.sing, .int .i64 b.step, .string b.call, .string b.tru, .slice b.RA b.rx.length b.rc]] (by intro w; go_simp) (by intro w1 hw1 hd; (refine (toBand_any b w1 ((Hb.out.below (Bw12.out.trans (hw1.below.mono Bw12.out.size)) (Nat.le_refl _)).more (Nat.le_trans Bw12.out.size hw1.below.size)) ((Hrb.out.below (Bw12.out.trans (hw1.below.mono Bw12.out.size)) (Nat.le_refl _)).more (Nat.le_trans Bw12.out.size hw1.below.size)) (by omega) (by omega)).mono ?_; rintro e w2 ⟨A, R, rfl, ho, ho3, hb⟩; exact ⟨_, rfl, hw1.step hb, eff_of_below hb, A, R, rfl, ho, ho3⟩)) ?_)
  (intro u_h00 lo_h00 hi_h00 hsat; obtain ⟨w1, hw1⟩ := hsat; have hr : ∃ A R, u_h00 = .agg #[.string b.m.name, .int .i64 b.m.stage, .slice A b.m.x.length b.m.x.length, .string b.bob, .string b.sing, .int .i64 b.step, .string b.call, .string b.tru, .slice R b.rx.length b.rx.length] ∧ OwnL w1 lo_h00 hi_h00 A 1 encString b.m.x ∧ OwnL w1 lo_h00 hi_h00 R 2 Rgr.enc b.rx := (hw1.rec rfl 1).2.2; obtain ⟨A_h00, R_h00, rfl, _⟩ := hr; clear hw1; simp only [Act.put, List.setIfInBounds_toArray, List.set_cons_zero, List.set_cons_succ, Nat.reduceAdd])
  (refine wpG_quiets 1 _ _ _ _ (by first | exact cls_none rfl | exact fun w h => h.1) (by intro j hj; rcases j with _ | _ | _ | _ | _ | _ | _ | _ | _ | _ | j <;> first | exact ⟨rfl, ⟨_, rfl, rfl⟩, rfl⟩ | (exfalso; omega)) ?_; simp only [List.take_succ_cons, List.take_zero, List.drop_succ_cons, List.drop_zero, Nat.zero_add, Nat.reduceAdd]; change wpQuiet _ _ (fun wq9 => ∃ x : Later w12, wq9 = x.W) _ _ _; (repeat (go_big_quiet_step (fail))); refine wpQuiet_nil ?_; try dsimp only)
  (refine wpG_call _ rfl rfl rfl rfl (fun u lo hi => loc_pure _) 79 #[.agg #[.int .i64 a.kind, .int .i64 a.bell, .int .i64 a.by_, .string a.call]] (by intro w; go_simp) (by intro w1 hw1 hd; (refine (toRingAct_any a w1).mono ?_; rintro e w2 ⟨rfl, hb⟩; exact ⟨_, rfl, hw1.step hb, eff_of_below hb, rfl⟩)) ?_)
  (intro u_h01 lo_h01 hi_h01 hsat; obtain ⟨w1, hw1⟩ := hsat; have hr : u_h01 = .agg #[.int .i64 a.kind, .int .i64 a.bell, .int .i64 a.by_, .string a.call] := (hw1.rec rfl 3).2.2; obtain rfl := hr; clear hw1; simp only [Act.put, List.setIfInBounds_toArray, List.set_cons_zero, List.set_cons_succ, Nat.reduceAdd])
  (refine wpG_call _ rfl rfl rfl rfl (fun u lo hi => loc_ex fun v => loc_and (loc_pure _) (loc_bd _ _ _ _)) 80 #[.agg #[.string b.m.name, .int .i64 b.m.stage, .slice A_h00 b.m.x.length b.m.x.length, .string b.bob, .string b.sing, .int .i64 b.step, .string b.call, .string b.tru, .slice R_h00 b.rx.length b.rx.length], .agg #[.int .i64 a.kind, .int .i64 a.bell, .int .i64 a.by_, .string a.call]] (by intro w; go_simp) (by intro w1 hw1 hd; (have hd0 : ∃ A R, (.agg #[.string b.m.name, .int .i64 b.m.stage, .slice A_h00 b.m.x.length b.m.x.length, .string b.bob, .string b.sing, .int .i64 b.step, .string b.call, .string b.tru, .slice R_h00 b.rx.length b.rx.length] : Value) = .agg #[.string b.m.name, .int .i64 b.m.stage, .slice A b.m.x.length b.m.x.length, .string b.bob, .string b.sing, .int .i64 b.step, .string b.call, .string b.tru, .slice R b.rx.length b.rx.length] ∧ OwnL w1 lo_h00 hi_h00 A 1 encString b.m.x ∧ OwnL w1 lo_h00 hi_h00 R 2 Rgr.enc b.rx := (hd 1 (gDep_mem (by kernel_rfl))).2; obtain ⟨Az, Rz, he0, ho0A, ho0R⟩ := hd0; obtain ⟨rfl, rfl⟩ : A_h00 = Az ∧ R_h00 = Rz := (by simpa using he0); refine (doB_of hD.out rfl (iDoBand_any ⟨⟨b.m.name, b.m.stage, b.m.x, A_h00, b.m.x.length⟩, b.bob, b.sing, b.step, b.call, b.tru, b.rx, R_h00, b.rx.length⟩ a.kind a.bell a.by_ a.call w1 ⟨(ho0A.rd encString_len), (ho0R.rd Rgr_enc_len), by simp only; omega, by simp only; omega, Hmb.out, by simp only; omega, by simp only; omega, by simp only; omega, by simp only; omega, by simp only; omega⟩)).mono ?_; rintro e w2 ⟨v, rfl, hbd, hb⟩; exact ⟨_, rfl, hw1.step hb, eff_of_below hb, v, rfl, hbd⟩)) ?_)
  (intro u_h0 lo_h0 hi_h0 hsat; obtain ⟨w1, hw1⟩ := hsat; have hr : ∃ v, u_h0 = .tuple #[v, .bool ok] ∧ BdAt dd v lo_h0 hi_h0 w1 := (hw1.rec rfl 4).2.2; obtain ⟨v, rfl, A1_h0, c1_h0, A3_h0, c3_h0, gsz, rfl, _⟩ := hr; clear hw1; simp only [Act.put, List.setIfInBounds_toArray, List.set_cons_zero, List.set_cons_succ, Nat.reduceAdd])
  (refine wpG_quiets 3 _ _ _ _ (by first | exact cls_none rfl | exact fun w h => h.1) (by intro j hj; rcases j with _ | _ | _ | _ | _ | _ | _ | _ | _ | _ | j <;> first | exact ⟨rfl, ⟨_, rfl, rfl⟩, rfl⟩ | (exfalso; omega)) ?_; simp only [List.take_succ_cons, List.take_zero, List.drop_succ_cons, List.drop_zero, Nat.zero_add, Nat.reduceAdd]; change wpQuiet _ _ (fun wq9 => ∃ x : Later w12, wq9 = x.W) _ _ _; (repeat (go_big_quiet_step (fail))); refine wpQuiet_nil ?_; try dsimp only)
  (refine wpG_box 9 #[.string ⟨#[]⟩, .int .i64 0, .slice none 0 0, .string ⟨#[]⟩, .string ⟨#[]⟩, .int .i64 0, .string ⟨#[]⟩, .string ⟨#[]⟩, .slice none 0 0] 106 rfl rfl rfl rfl rfl (by intro w; go_simp) ?_; intro ub_h0 bx_h0 hb_h0 hsat; obtain ⟨w1, hw1⟩ := hsat; have hr : gBox 9 ub_h0 bx_h0 hb_h0 w1 := (hw1.rec rfl 8).2.2; obtain ⟨rfl, rfl, _⟩ := hr; clear hw1; simp only [Act.put, List.setIfInBounds_toArray, List.set_cons_zero, List.set_cons_succ, Nat.reduceAdd])
  (refine wpG_t (fun w' => setN w' bx_h0 0 [.string dd.name, .int .i64 dd.stage, .slice A1_h0 dd.x.length c1_h0, .string dd.bob, .string dd.sing, .int .i64 dd.step, .string dd.call, .string dd.tru, .slice A3_h0 dd.rx.length c3_h0]) rfl rfl rfl rfl (by intro w1 hw1; have hr : gBox 9 (.pointer (some ⟨bx_h0, 0, none⟩)) bx_h0 (bx_h0 + 1) w1 := (hw1.rec rfl 8).2.2; have hlo : w12.heap.size ≤ bx_h0 := (hw1.rng rfl 8 rfl).1; obtain ⟨_, _, f, hcf⟩ := hr; have p0 := hcf.cell (i := 0) (by omega); have q0 := hcf.free (i := 0) (by omega); have p1 := hcf.cell (i := 1) (by omega); have q1 := hcf.free (i := 1) (by omega); have p2 := hcf.cell (i := 2) (by omega); have q2 := hcf.free (i := 2) (by omega); have p3 := hcf.cell (i := 3) (by omega); have q3 := hcf.free (i := 3) (by omega); have p4 := hcf.cell (i := 4) (by omega); have q4 := hcf.free (i := 4) (by omega); have p5 := hcf.cell (i := 5) (by omega); have q5 := hcf.free (i := 5) (by omega); have p6 := hcf.cell (i := 6) (by omega); have q6 := hcf.free (i := 6) (by omega); have p7 := hcf.cell (i := 7) (by omega); have q7 := hcf.free (i := 7) (by omega); have p8 := hcf.cell (i := 8) (by omega); have q8 := hcf.free (i := 8) (by omega); have hC1 := (hw1.cls rfl).below; clear hw1; refine ⟨?_, inC.of (Below.setN hlo _ hC1)⟩; simp only [setN]; go_simp; try rfl) ?_)
  simp only [Act.put, List.setIfInBounds_toArray, List.set_cons_zero, List.set_cons_succ, Nat.reduceAdd]
  (refine wpG_quiets 1 _ _ _ _ (by first | exact cls_none rfl | exact fun w h => h.1) (by intro j hj; rcases j with _ | _ | _ | _ | _ | _ | _ | _ | _ | _ | j <;> first | exact ⟨rfl, ⟨_, rfl, rfl⟩, rfl⟩ | (exfalso; omega)) ?_; simp only [List.take_succ_cons, List.take_zero, List.drop_succ_cons, List.drop_zero, Nat.zero_add, Nat.reduceAdd]; change wpQuiet _ _ (fun wq9 => ∃ x : Later w12, wq9 = x.W) _ _ _; (repeat (go_big_quiet_step (fail))); refine wpQuiet_nil ?_; try dsimp only)
  intro w' hh
  obtain ⟨_, wz, hz, rfl⟩ := hh
  have hF : ∃ v, Value.tuple #[.agg #[.string dd.name, .int .i64 dd.stage, .slice A1_h0 dd.x.length c1_h0, .string dd.bob, .string dd.sing, .int .i64 dd.step, .string dd.call, .string dd.tru, .slice A3_h0 dd.rx.length c3_h0], .bool ok] = .tuple #[v, .bool ok] ∧ BdAt dd v lo_h0 hi_h0 wz := (hz.rec rfl 4).2.2
  obtain ⟨v2, he2, hbd⟩ := hF
  obtain rfl : Value.agg #[.string dd.name, .int .i64 dd.stage, .slice A1_h0 dd.x.length c1_h0, .string dd.bob, .string dd.sing, .int .i64 dd.step, .string dd.call, .string dd.tru, .slice A3_h0 dd.rx.length c3_h0] = v2 := by simpa using he2
  obtain ⟨gs_h0, hg1_h0, hg2_h0, ho1, ho3⟩ := hbd.open
  obtain ⟨hl1_h0, hl2_h0, hl3_h0⟩ : w12.heap.size ≤ lo_h0 ∧ lo_h0 ≤ hi_h0 ∧ hi_h0 ≤ wz.heap.size := hz.rng rfl 4 rfl
  obtain ⟨hx1_h0, _, hx3_h0⟩ : w12.heap.size ≤ bx_h0 ∧ bx_h0 ≤ bx_h0 + 1 ∧ bx_h0 + 1 ≤ wz.heap.size := hz.rng rfl 8 rfl
  have hap_h0 : hi_h0 ≤ bx_h0 ∨ bx_h0 + 1 ≤ lo_h0 := hz.apart rfl 4 8 (by omega)
  have hbz := (hz.cls rfl).below
  obtain ⟨_, _, f, hcf⟩ : gBox 9 (.pointer (some ⟨bx_h0, 0, none⟩)) bx_h0 (bx_h0 + 1) wz := (hz.rec rfl 8).2.2
  have hcv := hcf.boxed [.string dd.name, .int .i64 dd.stage, .slice A1_h0 dd.x.length c1_h0, .string dd.bob, .string dd.sing, .int .i64 dd.step, .string dd.call, .string dd.tru, .slice A3_h0 dd.rx.length c3_h0] rfl
  have hck : Chg bx_h0 (bx_h0 + 1) wz (setN wz bx_h0 0 [.string dd.name, .int .i64 dd.stage, .slice A1_h0 dd.x.length c1_h0, .string dd.bob, .string dd.sing, .int .i64 dd.step, .string dd.call, .string dd.tru, .slice A3_h0 dd.rx.length c3_h0]) := Chg.setN (Nat.le_refl _) (Nat.lt_succ_self _) _ (Chg.refl _ _ _)
  have hsz9 := setN_size bx_h0 [.string dd.name, .int .i64 dd.stage, .slice A1_h0 dd.x.length c1_h0, .string dd.bob, .string dd.sing, .int .i64 dd.step, .string dd.call, .string dd.tru, .slice A3_h0 dd.rx.length c3_h0] wz 0
  have hb : Below w12.heap.size w12 (setN wz bx_h0 0 [.string dd.name, .int .i64 dd.stage, .slice A1_h0 dd.x.length c1_h0, .string dd.bob, .string dd.sing, .int .i64 dd.step, .string dd.call, .string dd.tru, .slice A3_h0 dd.rx.length c3_h0]) := Below.setN hx1_h0 _ hbz
  have hv1 := Lib.hid (ho1.chg hck (by omega))
  have hv3 := Lib.hid (ho3.chg hck (by omega))
  have hcv := Lib.hid hcv
  rw [← hsz9] at hl3_h0 hx3_h0
  clear hsz9 hck hcf ho1 ho3 hz hbz hbd he2 l_aB_0 l_aB_1 l_aB_2 l_aB_3 l_aB_4 l_aB_5 l_aB_6 l_aB_7 l_aB_8 l_aA_0 l_aA_1 l_aA_2 l_aA_3
  generalize setN wz bx_h0 0 [.string dd.name, .int .i64 dd.stage, .slice A1_h0 dd.x.length c1_h0, .string dd.bob, .string dd.sing, .int .i64 dd.step, .string dd.call, .string dd.tru, .slice A3_h0 dd.rx.length c3_h0] = w13 at *
  have C13 := Lib.hid hb
  clear hb
  have t13 := C13.out.size
  have Bw13 := Lib.hid (Bw12.out.trans (C13.out.mono Bw12.out.size))
  clear HB_aB_12
  clear HB_aA_12
  have HB_w0_13 := Lib.hid (HB_w0_12.out.later C13.out)
  clear HB_w0_12
  have HB_g0_13 := Lib.hid (HB_g0_12.out.later C13.out)
  clear HB_g0_12
  have O_w0_a_13 := Lib.hid (O_w0_a_12.out.later C13.out)
  clear O_w0_a_12
  have O_w0_r_13 := Lib.hid (O_w0_r_12.out.later C13.out)
  clear O_w0_r_12
  have O_g0_a_13 := Lib.hid (O_g0_a_12.out.later C13.out)
  clear O_g0_a_12
  have O_g0_r_13 := Lib.hid (O_g0_r_12.out.later C13.out)
  clear O_g0_r_12
  have HB_h0_13 := hcv
  have O_h0_a_13 := hv1
  have O_h0_r_13 := hv3
  clear hcv hv1 hv3
  have s_h0_0 : w13.cell? ⟨bx_h0, 0, none⟩ = some (.string dd.name) := HB_h0_13.out.cell (i := 0) (by omega)
  have s_h0_1 : w13.cell? ⟨bx_h0, 1, none⟩ = some (.int .i64 dd.stage) := HB_h0_13.out.cell (i := 1) (by omega)
  have s_h0_2 : w13.cell? ⟨bx_h0, 2, none⟩ = some (.slice A1_h0 dd.x.length c1_h0) := HB_h0_13.out.cell (i := 2) (by omega)
  have s_h0_3 : w13.cell? ⟨bx_h0, 3, none⟩ = some (.string dd.bob) := HB_h0_13.out.cell (i := 3) (by omega)
  have s_h0_4 : w13.cell? ⟨bx_h0, 4, none⟩ = some (.string dd.sing) := HB_h0_13.out.cell (i := 4) (by omega)
  have s_h0_5 : w13.cell? ⟨bx_h0, 5, none⟩ = some (.int .i64 dd.step) := HB_h0_13.out.cell (i := 5) (by omega)
  have s_h0_6 : w13.cell? ⟨bx_h0, 6, none⟩ = some (.string dd.call) := HB_h0_13.out.cell (i := 6) (by omega)
  have s_h0_7 : w13.cell? ⟨bx_h0, 7, none⟩ = some (.string dd.tru) := HB_h0_13.out.cell (i := 7) (by omega)
  have s_h0_8 : w13.cell? ⟨bx_h0, 8, none⟩ = some (.slice A3_h0 dd.rx.length c3_h0) := HB_h0_13.out.cell (i := 8) (by omega)
  have s_w0_0 : w13.cell? ⟨bx_w0, 0, none⟩ = some (.string dd.name) := HB_w0_13.out.cell (i := 0) (by omega)
  have s_w0_1 : w13.cell? ⟨bx_w0, 1, none⟩ = some (.int .i64 dd.stage) := HB_w0_13.out.cell (i := 1) (by omega)
  have s_w0_2 : w13.cell? ⟨bx_w0, 2, none⟩ = some (.slice A1_w0 dd.x.length c1_w0) := HB_w0_13.out.cell (i := 2) (by omega)
  have s_w0_3 : w13.cell? ⟨bx_w0, 3, none⟩ = some (.string dd.bob) := HB_w0_13.out.cell (i := 3) (by omega)
  have s_w0_4 : w13.cell? ⟨bx_w0, 4, none⟩ = some (.string dd.sing) := HB_w0_13.out.cell (i := 4) (by omega)
  have s_w0_5 : w13.cell? ⟨bx_w0, 5, none⟩ = some (.int .i64 dd.step) := HB_w0_13.out.cell (i := 5) (by omega)
  have s_w0_6 : w13.cell? ⟨bx_w0, 6, none⟩ = some (.string dd.call) := HB_w0_13.out.cell (i := 6) (by omega)
  have s_w0_7 : w13.cell? ⟨bx_w0, 7, none⟩ = some (.string dd.tru) := HB_w0_13.out.cell (i := 7) (by omega)
  have s_w0_8 : w13.cell? ⟨bx_w0, 8, none⟩ = some (.slice A3_w0 dd.rx.length c3_w0) := HB_w0_13.out.cell (i := 8) (by omega)
  go_wp2_with fail
  refine (eqBand_t ⟨⟨dd.name, dd.stage, dd.x, A1_h0, c1_h0⟩, dd.bob, dd.sing, dd.step, dd.call, dd.tru, dd.rx, A3_h0, c3_h0⟩ A1_w0 A3_w0 c1_w0 c3_w0 _ (O_h0_a_13.out.rd encString_len) (O_w0_a_13.out.rd encString_len) (O_h0_r_13.out.rd Rgr_enc_len) (O_w0_r_13.out.rd Rgr_enc_len) (by simp only; omega) (by simp only; omega)).mono ?_
  rintro e w14 ⟨rfl, hb⟩
  clear s_h0_0 s_h0_1 s_h0_2 s_h0_3 s_h0_4 s_h0_5 s_h0_6 s_h0_7 s_h0_8 s_w0_0 s_w0_1 s_w0_2 s_w0_3 s_w0_4 s_w0_5 s_w0_6 s_w0_7 s_w0_8
  have C14 := Lib.hid hb
  clear hb
  have t14 := C14.out.size
  have Bw14 := Lib.hid (Bw13.out.trans (C14.out.mono Bw13.out.size))
  clear HB_w0_13
  have HB_g0_14 := Lib.hid (HB_g0_13.out.later C14.out)
  clear HB_g0_13
  clear HB_h0_13
  clear O_w0_a_13
  clear O_w0_r_13
  have O_g0_a_14 := Lib.hid (O_g0_a_13.out.later C14.out)
  clear O_g0_a_13
  have O_g0_r_14 := Lib.hid (O_g0_r_13.out.later C14.out)
  clear O_g0_r_13
  clear O_h0_a_13
  clear O_h0_r_13
  have s_g0_0 : w14.cell? ⟨bx_g0, 0, none⟩ = some (.string dd.name) := HB_g0_14.out.cell (i := 0) (by omega)
  have s_g0_1 : w14.cell? ⟨bx_g0, 1, none⟩ = some (.int .i64 dd.stage) := HB_g0_14.out.cell (i := 1) (by omega)
  have s_g0_2 : w14.cell? ⟨bx_g0, 2, none⟩ = some (.slice A1_g0 dd.x.length c1_g0) := HB_g0_14.out.cell (i := 2) (by omega)
  have s_g0_3 : w14.cell? ⟨bx_g0, 3, none⟩ = some (.string dd.bob) := HB_g0_14.out.cell (i := 3) (by omega)
  have s_g0_4 : w14.cell? ⟨bx_g0, 4, none⟩ = some (.string dd.sing) := HB_g0_14.out.cell (i := 4) (by omega)
  have s_g0_5 : w14.cell? ⟨bx_g0, 5, none⟩ = some (.int .i64 dd.step) := HB_g0_14.out.cell (i := 5) (by omega)
  have s_g0_6 : w14.cell? ⟨bx_g0, 6, none⟩ = some (.string dd.call) := HB_g0_14.out.cell (i := 6) (by omega)
  have s_g0_7 : w14.cell? ⟨bx_g0, 7, none⟩ = some (.string dd.tru) := HB_g0_14.out.cell (i := 7) (by omega)
  have s_g0_8 : w14.cell? ⟨bx_g0, 8, none⟩ = some (.slice A3_g0 dd.rx.length c3_g0) := HB_g0_14.out.cell (i := 8) (by omega)
  go_wp2_with fail
  refine (heldBand_any dd.name dd.stage A1_g0 dd.x.length c1_g0 dd.bob dd.sing dd.step dd.call dd.tru A3_g0 dd.rx.length c3_g0 1 _ (O_g0_a_14.out.rd encString_len) (O_g0_r_14.out.rd Rgr_enc_len) (by omega) (by omega) (by omega) (by omega)).mono ?_
  rintro e w15 ⟨he, hb⟩
  clear s_g0_0 s_g0_1 s_g0_2 s_g0_3 s_g0_4 s_g0_5 s_g0_6 s_g0_7 s_g0_8
  have he2 : e = .returned (.int .i64 (q11 : Int)) := by rw [Hq11.out]; exact he
  subst he2
  clear he
  have C15 := Lib.hid hb
  clear hb
  have t15 := C15.out.size
  have Bw15 := Lib.hid (Bw14.out.trans (C15.out.mono Bw14.out.size))
  clear HB_g0_14
  clear O_g0_a_14
  clear O_g0_r_14
  go_wp2_with fail
  go_ret
  exact ⟨rfl, Bw15.out⟩

namespace fnExactDoBand
open Go.ChangeShapes Go.WideShapes Go.ChangeAt Go.RowKit Go.Deep
open Go.ChangeMaps (open_string shut_string)
theorem own : ownKnob Try.prog.godebug = none := by kernel_rfl
theorem laid : laidOutB Try.prog = true := by kernel_rfl
theorem reads : Try.f9.params.toList.all (fun t => Try.prog.readableRec t && decide (t < Try.prog.types.size)) = true := by kernel_rfl
set_option maxRecDepth 100000 in
theorem lifted (os : Os) (started : os.Started) (H : Type) (enc : TypeId × Value → H) :
    ReturnsInHanded {} Try.checked os 9 .any (Rows.fnExactDoBandSpec.pre6 enc Try.prog Try.f9 Rows.fnExactDoBandRow.domain false) (Rows.fnExactDoBandSpec.post enc Try.prog Try.f9 false true false false) := by
  refine returnsInHanded_of_change (C := Try.checked) own started (by kernel_rfl) Try.func9
    (ChangeSpec.witness6 (enc := enc) (C := Try.checked) false ⟨#[], #[.agg #[.string ByteArray.empty, .int .i64 0, .slice none 0 0, .string ByteArray.empty, .string ByteArray.empty, .int .i64 0, .string ByteArray.empty, .string ByteArray.empty, .slice none 0 0], .agg #[.int .i64 0, .int .i64 0, .int .i64 0, .string ⟨#[]⟩]], []⟩ 8 (by kernel_rfl) (by kernel_rfl) (by kernel_rfl) (by kernel_rfl)) ?_
  intro W base args ds gs before hval0 hW hcnd _
  have hval : ∀ (j : Nat) t v, Try.f9.params[j]? = some t → args[j]? = some v → Value.okWide Try.prog W .any base t v := hval0
  have hW' := hW
  obtain ⟨p, q, hA0, hV, rfl, hfz, hnd⟩ := hW
  have hA : DataW.TrodAll enc Try.prog W 0 (fun _ => true) true Try.f9.params.toList args.toList ds p := hA0
  rw [Try.params9] at hA hval
  obtain ⟨rfl, rfl⟩ := trodVars_none hV
  have hlt : ∀ x ∈ p, x.block < W.heap.size := fun x hx => by simpa using hW'.lt x (List.mem_append.2 (.inl hx))
  clear hA0 hval0
  obtain ⟨v0, vs0, d0, ds0, p0, q0, hargs, rfl, rfl, h0, r0⟩ := trodAll_cons hA
  obtain ⟨v1, vs1, d1, ds1, p1, q1, rfl, rfl, rfl, h1, r1⟩ := trodAll_cons r0
  obtain ⟨rfl, rfl, rfl⟩ := trodAll_nil r1
  obtain rfl : args = #[v0, v1] := by cases args; simp_all
  clear hargs
  obtain ⟨b0, rfl, hfit0, hrd0, hrr0, _⟩ := open_struct Try.underlying99 Bnd.enc _ Band_el (hval 0 99 v0 rfl rfl) h0
  obtain ⟨a1, rfl, z1⟩ := open_struct Try.underlying101 Act_.enc _ RingAct_el (hval 1 101 v1 rfl rfl) h1
  refine (doBandLaw W b0 hrd0 hrr0 hfit0 a1 z1).mono fun e W' ⟨he, hg⟩ => ?_
  subst he
  exact ⟨_, rfl, law_post laid reads rfl Try.underlying4 rfl rfl hW' hg⟩
theorem over : Rows.fnExactDoBandRow.holds Try.pinned (OpenSpec.ofChange Rows.fnExactDoBandSpec) :=
  OpenClaim.holds_of_wide 9 Try.f9 rfl rfl rfl rfl rfl rfl rfl ⟨rfl, rfl, rfl, rfl, rfl⟩ rfl rfl rfl rfl rfl (by kernel_rfl) Try.func9 facts
    (of_decide_eq_true (by kernel_rfl)) (by unfold Func.isWrapper; first | (rw [if_pos (by decide +kernel)]; kernel_rfl) | (rw [if_neg (by decide +kernel)]; exact ⟨rfl, rfl⟩))
    (fun os started H enc _ => lifted os started H enc)
theorem proved : Rows.FnExactDoBandSaid := over
end fnExactDoBand
end Go.Proofs.Ytdecjijldcbnjaa
