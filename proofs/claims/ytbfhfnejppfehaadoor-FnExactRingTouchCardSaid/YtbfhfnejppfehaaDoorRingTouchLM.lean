import Derived.Test.YtbfhfnejppfehaaDoorMRingTouchL29
import Derived.Test.YtbfhfnejppfehaaDoorMRingTouchL10
import Derived.Test.YtbfhfnejppfehaaDoorMRingTouchL24
import Derived.Test.YtbfhfnejppfehaaDoorMRingTouchL01
import Derived.Test.YtbfhfnejppfehaaDoorMRingTouchL30
/-
  RingTouch of the program returns what the reference's returns, for all arguments; the tied card.
-/
namespace Go.Proofs.YtbfhfnejppfehaaDoor
open Go.RowKit Go.ChangeShapes Go.WideShapes Go.Deep
set_option linter.unusedVariables false
set_option linter.unusedSimpArgs false
set_option maxRecDepth 100000

set_option maxHeartbeats 8000000 in
theorem ringTouchLaw (w : World) (m : Mth) (hm : RdL w w.heap.size m.A 1 encString m.x) (fm : m.Fits) (b s : ByteArray) (hb : (b.size : Int) ≤ 9223372036854775807) (hs : (s.size : Int) ≤ 9223372036854775807) (t : ByteArray) (hszt : t.size ≤ 9223372036854775807) (htab : Tab w) :
    Calls Tryd.prog 3 #[.agg #[.string m.name, .int .i64 m.stage, .slice m.A m.x.length m.c], .agg #[.string b, .string s], .string t] w fun e w' => e = .returned (.bool true) ∧ Below w.heap.size w w' := by
  have HT := Lib.hid htab
  clear htab
  have Hm := Lib.hid hm
  have Fm := Lib.hid fm
  clear hm fm
  have hbW0 : Below w.heap.size w ((w.alloc (.cells #[.string m.name, .int .i64 m.stage, .slice m.A m.x.length m.c] 24)).alloc (.cells #[.string b, .string s] 26)) := by repeat (first | exact Below.refl _ _ | (refine Below.alloc ?_ (by simp <;> omega) _))
  by_cases gt : 1048576 < t.size
  · go_enter Tryd.func3, Tryd.ntmps3
    go_wp2
    go_ret
    exact ⟨rfl, hbW0⟩
  have hlt' : t.size ≤ 1048576 := by omega
  go_enter Tryd.func3, Tryd.ntmps3
  go_wp2_with fail
  have hW : ∃ W : World, Hid (((w.alloc (.cells #[.string m.name, .int .i64 m.stage, .slice m.A m.x.length m.c] 24)).alloc (.cells #[.string b, .string s] 26)) = W) ∧ Hid (Below w.heap.size w W) ∧ w.heap.size + 2 ≤ W.heap.size ∧ Hid (Cells W (w.heap.size) 3 (fun i => (#[Value.string m.name, .int .i64 m.stage, .slice m.A m.x.length m.c] : Array Value).getD i undef)) ∧ Hid (Cells W (w.heap.size + 1) 2 (fun i => (#[Value.string b, .string s] : Array Value).getD i undef)) := by
    have z1 : w.heap.size + 1 = ((w.alloc (.cells #[.string m.name, .int .i64 m.stage, .slice m.A m.x.length m.c] 24))).heap.size := by simp
    refine ⟨_, Lib.hid rfl, Lib.hid hbW0, by simp, Lib.hid ?_, Lib.hid ?_⟩
    · exact ((Cells.newD _ #[.string m.name, .int .i64 m.stage, .slice m.A m.x.length m.c] _).alloc _)
    · rw [z1]; exact (Cells.newD _ #[.string b, .string s] _)
  obtain ⟨w0, hWe, Bw0, t0, HB_aM_0, HB_aK_0⟩ := hW
  rw [hWe.out]
  clear hWe hbW0
  have s_aM_0 : w0.cell? ⟨w.heap.size, 0, none⟩ = some (.string m.name) := HB_aM_0.out.cell (i := 0) (by omega)
  have s_aM_1 : w0.cell? ⟨w.heap.size, 1, none⟩ = some (.int .i64 m.stage) := HB_aM_0.out.cell (i := 1) (by omega)
  have s_aM_2 : w0.cell? ⟨w.heap.size, 2, none⟩ = some (.slice m.A m.x.length m.c) := HB_aM_0.out.cell (i := 2) (by omega)
  go_wp2_with fail
  refine (szMethod_any m (1048576 : Int) _ ((Hm.out.below Bw0.out (Nat.le_refl _)).more Bw0.out.size) Fm.out (by omega) (by omega)).mono ?_
  rintro e w1 ⟨r1, rfl, hz, hb⟩
  clear s_aM_0 s_aM_1 s_aM_2
  have C1 := Lib.hid hb
  clear hb
  have t1 := C1.out.size
  have Bw1 := Lib.hid (Bw0.out.trans (C1.out.mono Bw0.out.size))
  have HB_aM_1 := Lib.hid (HB_aM_0.out.later C1.out)
  clear HB_aM_0
  have HB_aK_1 := Lib.hid (HB_aK_0.out.later C1.out)
  clear HB_aK_0
  have Z1 := Lib.hid hz
  clear hz
  by_cases n1 : r1 < 0
  · go_wp2_with fail
    go_ret
    exact ⟨rfl, Bw1.out⟩
  have z1 := Z1.out.resolve_left (by omega)
  obtain ⟨ya1, yb1, snm, slm, ssm⟩ := z1
  have snm' : m.name.size ≤ 1048576 := by omega
  have Hmm : Hid (∀ x ∈ m.x, String_small 1048576 x) := Lib.hid (fun x hx => by have := ssm x hx; simp only [String_small] at this ⊢; omega)
  clear ssm
  have slm' : m.x.length ≤ 1048576 := by omega
  have yl1 : r1 ≤ 1048576 := by omega
  have s_aK_0 : w1.cell? ⟨w.heap.size + 1, 0, none⟩ = some (.string b) := HB_aK_1.out.cell (i := 0) (by omega)
  have s_aK_1 : w1.cell? ⟨w.heap.size + 1, 1, none⟩ = some (.string s) := HB_aK_1.out.cell (i := 1) (by omega)
  go_wp2_with fail
  refine (szCalls_any b s r1 _ hb hs (by omega) (by omega)).mono ?_
  rintro e w2 ⟨r2, rfl, hz, hb⟩
  clear s_aK_0 s_aK_1
  have C2 := Lib.hid hb
  clear hb
  have t2 := C2.out.size
  have Bw2 := Lib.hid (Bw1.out.trans (C2.out.mono Bw1.out.size))
  have HB_aM_2 := Lib.hid (HB_aM_1.out.later C2.out)
  clear HB_aM_1
  have HB_aK_2 := Lib.hid (HB_aK_1.out.later C2.out)
  clear HB_aK_1
  have Z2 := Lib.hid hz
  clear hz
  by_cases n2 : r2 < 0
  · go_wp2_with fail
    go_ret
    exact ⟨rfl, Bw2.out⟩
  have z2 := Z2.out.resolve_left (by omega)
  obtain ⟨ya2, yb2, sbb, sbs⟩ := z2
  have sbb' : b.size ≤ 1048576 := by omega
  have sbs' : s.size ≤ 1048576 := by omega
  have yl2 : r2 ≤ 1048576 := by omega
  have hsm := ringR_small m b s t
  obtain ⟨D, hD⟩ : ∃ D, Hid (ringR m b s t = D) := ⟨_, Lib.hid rfl⟩
  obtain ⟨dd, ok⟩ := D
  rw [hD.out] at hsm
  simp only at hsm
  skip
  have s_aM_0 : w2.cell? ⟨w.heap.size, 0, none⟩ = some (.string m.name) := HB_aM_2.out.cell (i := 0) (by omega)
  have s_aM_1 : w2.cell? ⟨w.heap.size, 1, none⟩ = some (.int .i64 m.stage) := HB_aM_2.out.cell (i := 1) (by omega)
  have s_aM_2 : w2.cell? ⟨w.heap.size, 2, none⟩ = some (.slice m.A m.x.length m.c) := HB_aM_2.out.cell (i := 2) (by omega)
  have s_aK_0 : w2.cell? ⟨w.heap.size + 1, 0, none⟩ = some (.string b) := HB_aK_2.out.cell (i := 0) (by omega)
  have s_aK_1 : w2.cell? ⟨w.heap.size + 1, 1, none⟩ = some (.string s) := HB_aK_2.out.cell (i := 1) (by omega)
  have l_aM_0 := Later.cell s_aM_0 (show w.heap.size < w2.heap.size by omega)
  have l_aM_1 := Later.cell s_aM_1 (show w.heap.size < w2.heap.size by omega)
  have l_aM_2 := Later.cell s_aM_2 (show w.heap.size < w2.heap.size by omega)
  have l_aK_0 := Later.cell s_aK_0 (show w.heap.size + 1 < w2.heap.size by omega)
  have l_aK_1 := Later.cell s_aK_1 (show w.heap.size + 1 < w2.heap.size by omega)
  clear s_aM_0 s_aM_1 s_aM_2 s_aK_0 s_aK_1
  go_wp2_with fail
  refine wp_region_G (by kernel_rfl) [.q, .s (fun _ u lo hi w' => ∃ A, u = .agg #[.string m.name, .int .i64 m.stage, .slice A m.x.length m.x.length] ∧ OwnL w' lo hi A 1 encString m.x), .q, .s (fun _ u lo hi w' => u = .agg #[.string b, .string s]), .q, .s (fun _ u lo hi w' => ∃ A c, u = .tuple #[.slice A (dd).length c, .bool ok] ∧ OwnL w' lo hi A 1 encString dd), .q, .q, .q, .q, .q] [0, 1, 0, 1, 0, 1, 0, 0, 0, 0, 0] rfl 3 (by kernel_rfl) (inC w2) (w2).heap.size (inC.size w2) (inC.of (Below.refl _ _).drew) ?_
  (refine wpG_quiets 1 _ _ _ _ (by first | exact cls_none rfl | exact fun w h => h.1) (by intro j hj; rcases j with _ | _ | _ | _ | _ | _ | _ | _ | _ | _ | j <;> first | exact ⟨rfl, ⟨_, rfl, rfl⟩, rfl⟩ | (exfalso; omega)) ?_; simp only [List.take_succ_cons, List.take_zero, List.drop_succ_cons, List.drop_zero, Nat.zero_add, Nat.reduceAdd]; change wpQuiet _ _ (fun wq9 => ∃ x : Later w2, wq9 = x.W) _ _ _; (repeat (go_big_quiet_step (fail))); refine wpQuiet_nil ?_; try dsimp only)
  (refine wpG_call _ rfl rfl rfl rfl (fun u lo hi => loc_ex fun A => loc_and (loc_pure _) (loc_own (Nat.le_refl _) (Nat.le_refl _))) 8 #[.agg #[.string m.name, .int .i64 m.stage, .slice m.A m.x.length m.c]] (by intro w; go_simp) (by intro w1 hw1 hd; (refine (toMethod_any m w1 ((Hm.out.below (Bw2.out.trans (hw1.below.mono Bw2.out.size)) (Nat.le_refl _)).more (Nat.le_trans Bw2.out.size hw1.below.size)) (by omega)).mono ?_; rintro e w2 ⟨A, g, rfl, hg1, hg2, ho, hb⟩; exact ⟨_, rfl, hw1.step hb, eff_of_below hb, A, rfl, ho.mono hg1 hg2⟩)) ?_)
  (intro u_w00 lo_w00 hi_w00 hsat; obtain ⟨w1, hw1⟩ := hsat; have hr : ∃ A, u_w00 = .agg #[.string m.name, .int .i64 m.stage, .slice A m.x.length m.x.length] ∧ OwnL w1 lo_w00 hi_w00 A 1 encString m.x := (hw1.rec rfl 1).2.2; obtain ⟨A_w00, rfl, _⟩ := hr; clear hw1; simp only [Act.put, List.setIfInBounds_toArray, List.set_cons_zero, List.set_cons_succ, Nat.reduceAdd])
  (refine wpG_quiets 1 _ _ _ _ (by first | exact cls_none rfl | exact fun w h => h.1) (by intro j hj; rcases j with _ | _ | _ | _ | _ | _ | _ | _ | _ | _ | j <;> first | exact ⟨rfl, ⟨_, rfl, rfl⟩, rfl⟩ | (exfalso; omega)) ?_; simp only [List.take_succ_cons, List.take_zero, List.drop_succ_cons, List.drop_zero, Nat.zero_add, Nat.reduceAdd]; change wpQuiet _ _ (fun wq9 => ∃ x : Later w2, wq9 = x.W) _ _ _; (repeat (go_big_quiet_step (fail))); refine wpQuiet_nil ?_; try dsimp only)
  (refine wpG_call _ rfl rfl rfl rfl (fun u lo hi => loc_pure _) 9 #[.agg #[.string b, .string s]] (by intro w; go_simp) (by intro w1 hw1 hd; (refine (toCalls_any b s w1).mono ?_; rintro e w2 ⟨rfl, hb⟩; exact ⟨_, rfl, hw1.step hb, eff_of_below hb, rfl⟩)) ?_)
  (intro u_w01 lo_w01 hi_w01 hsat; obtain ⟨w1, hw1⟩ := hsat; have hr : u_w01 = .agg #[.string b, .string s] := (hw1.rec rfl 3).2.2; obtain rfl := hr; clear hw1; simp only [Act.put, List.setIfInBounds_toArray, List.set_cons_zero, List.set_cons_succ, Nat.reduceAdd])
  (refine wpG_quiets 1 _ _ _ _ (by first | exact cls_none rfl | exact fun w h => h.1) (by intro j hj; rcases j with _ | _ | _ | _ | _ | _ | _ | _ | _ | _ | j <;> first | exact ⟨rfl, ⟨_, rfl, rfl⟩, rfl⟩ | (exfalso; omega)) ?_; simp only [List.take_succ_cons, List.take_zero, List.drop_succ_cons, List.drop_zero, Nat.zero_add, Nat.reduceAdd]; change wpQuiet _ _ (fun wq9 => ∃ x : Later w2, wq9 = x.W) _ _ _; (repeat (go_big_quiet_step (fail))); refine wpQuiet_nil ?_; try dsimp only)
  (refine wpG_call _ rfl rfl rfl rfl (fun u lo hi => loc_ex fun A => loc_ex fun c => loc_and (loc_pure _) (loc_own (Nat.le_refl _) (Nat.le_refl _))) 7 #[.agg #[.string m.name, .int .i64 m.stage, .slice A_w00 m.x.length m.x.length], .agg #[.string b, .string s], .string t] (by intro w; go_simp) (by intro w1 hw1 hd; (have hd0 : ∃ A, (.agg #[.string m.name, .int .i64 m.stage, .slice A_w00 m.x.length m.x.length] : Value) = .agg #[.string m.name, .int .i64 m.stage, .slice A m.x.length m.x.length] ∧ OwnL w1 lo_w00 hi_w00 A 1 encString m.x := (hd 1 (gDep_mem (by kernel_rfl))).2; obtain ⟨Az, he0, ho0A⟩ := hd0; obtain rfl : A_w00 = Az := (by simpa using he0); refine (ring_of hD.out rfl (sRingTouch_any ⟨m.name, m.stage, m.x, A_w00, m.x.length⟩ b s t w1 ⟨(ho0A.rd encString_len), by simp only; omega, by simp only; omega, Hmm.out, by omega, by omega, Nat.le_refl _⟩ (by omega) (HT.out.later (Bw2.out.trans (hw1.below.mono Bw2.out.size))))).mono ?_; rintro e w2 ⟨A, c, rfl, ho, hb⟩; exact ⟨_, rfl, hw1.step hb, eff_of_below hb, A, c, rfl, ho⟩)) ?_)
  (intro u_w0 lo_w0 hi_w0 hsat; obtain ⟨w1, hw1⟩ := hsat; have hr : ∃ A c, u_w0 = .tuple #[.slice A (dd).length c, .bool ok] ∧ OwnL w1 lo_w0 hi_w0 A 1 encString dd := (hw1.rec rfl 5).2.2; obtain ⟨A1_w0, c1_w0, rfl, _⟩ := hr; clear hw1; simp only [Act.put, List.setIfInBounds_toArray, List.set_cons_zero, List.set_cons_succ, Nat.reduceAdd])
  (refine wpG_quiets 5 _ _ _ _ (by first | exact cls_none rfl | exact fun w h => h.1) (by intro j hj; rcases j with _ | _ | _ | _ | _ | _ | _ | _ | _ | _ | j <;> first | exact ⟨rfl, ⟨_, rfl, rfl⟩, rfl⟩ | (exfalso; omega)) ?_; simp only [List.take_succ_cons, List.take_zero, List.drop_succ_cons, List.drop_zero, Nat.zero_add, Nat.reduceAdd]; change wpQuiet _ _ (fun wq9 => ∃ x : Later w2, wq9 = x.W) _ _ _; (repeat (go_big_quiet_step (fail))); refine wpQuiet_nil ?_; try dsimp only)
  intro w3 hh
  have hb := (hh.cls rfl).below
  obtain ⟨Az, cz, hez, hoz⟩ : ∃ A c, Value.tuple #[.slice A1_w0 (dd).length c1_w0, .bool ok] = .tuple #[.slice A (dd).length c, .bool ok] ∧ OwnL w3 lo_w0 hi_w0 A 1 encString dd := (hh.rec rfl 5).2.2
  obtain ⟨rfl, rfl⟩ : A1_w0 = Az ∧ c1_w0 = cz := by simpa using hez
  obtain ⟨hl1_w0, hl2_w0, hl3_w0⟩ : w2.heap.size ≤ lo_w0 ∧ lo_w0 ≤ hi_w0 ∧ hi_w0 ≤ w3.heap.size := hh.rng rfl 5 rfl
  have hv1 := Lib.hid hoz
  clear hoz hez hh l_aM_0 l_aM_1 l_aM_2 l_aK_0 l_aK_1
  have C3 := Lib.hid hb
  clear hb
  have t3 := C3.out.size
  have Bw3 := Lib.hid (Bw2.out.trans (C3.out.mono Bw2.out.size))
  have HB_aM_3 := Lib.hid (HB_aM_2.out.later C3.out)
  clear HB_aM_2
  have HB_aK_3 := Lib.hid (HB_aK_2.out.later C3.out)
  clear HB_aK_2
  have O_w0_3 := hv1
  clear hv1
  have s_aM_0 : w3.cell? ⟨w.heap.size, 0, none⟩ = some (.string m.name) := HB_aM_3.out.cell (i := 0) (by omega)
  have s_aM_1 : w3.cell? ⟨w.heap.size, 1, none⟩ = some (.int .i64 m.stage) := HB_aM_3.out.cell (i := 1) (by omega)
  have s_aM_2 : w3.cell? ⟨w.heap.size, 2, none⟩ = some (.slice m.A m.x.length m.c) := HB_aM_3.out.cell (i := 2) (by omega)
  go_wp2_with fail
  refine (toMethod_any m _ ((Hm.out.below Bw3.out (Nat.le_refl _)).more Bw3.out.size) (by omega)).mono ?_
  rintro e w4 ⟨Ax0, gx0, rfl, hg1x0, hg2x0, ho, hb⟩
  clear s_aM_0 s_aM_1 s_aM_2
  have C4 := Lib.hid hb
  clear hb
  have t4 := C4.out.size
  have Bw4 := Lib.hid (Bw3.out.trans (C4.out.mono Bw3.out.size))
  have HB_aM_4 := Lib.hid (HB_aM_3.out.later C4.out)
  clear HB_aM_3
  have HB_aK_4 := Lib.hid (HB_aK_3.out.later C4.out)
  clear HB_aK_3
  have O_w0_4 := Lib.hid (O_w0_3.out.later C4.out)
  clear O_w0_3
  have O_x0_a_4 := Lib.hid ho
  clear ho
  go_wp2_with fail
  have hWx : ∃ W : World, Hid ((w4.alloc (.cells #[.string m.name, .int .i64 m.stage, .slice Ax0 m.x.length m.x.length] 31)) = W) ∧ Hid (Below w4.heap.size w4 W) ∧ Hid (Cells W w4.heap.size 3 (fun i => (#[Value.string m.name, .int .i64 m.stage, .slice Ax0 m.x.length m.x.length] : Array Value).getD i undef)) := ⟨_, Lib.hid rfl, Lib.hid ((Below.refl _ _).alloc (Nat.le_refl _) _), Lib.hid (Cells.newD _ #[.string m.name, .int .i64 m.stage, .slice Ax0 m.x.length m.x.length] _)⟩
  obtain ⟨w5, hWe, hb', hbx⟩ := hWx
  rw [hWe.out]
  clear hWe
  have hb := hb'.out
  clear hb'
  have txx0 : w4.heap.size + 1 ≤ w5.heap.size := hbx.out.lt
  have C5 := Lib.hid hb
  clear hb
  have t5 := C5.out.size
  have Bw5 := Lib.hid (Bw4.out.trans (C5.out.mono Bw4.out.size))
  have HB_aM_5 := Lib.hid (HB_aM_4.out.later C5.out)
  clear HB_aM_4
  have HB_aK_5 := Lib.hid (HB_aK_4.out.later C5.out)
  clear HB_aK_4
  have O_w0_5 := Lib.hid (O_w0_4.out.later C5.out)
  clear O_w0_4
  have O_x0_a_5 := Lib.hid (O_x0_a_4.out.later C5.out)
  clear O_x0_a_4
  have HB_x0_5 := hbx
  clear hbx
  have s_x0_0 : w5.cell? ⟨w4.heap.size, 0, none⟩ = some (.string m.name) := HB_x0_5.out.cell (i := 0) (by omega)
  have s_x0_1 : w5.cell? ⟨w4.heap.size, 1, none⟩ = some (.int .i64 m.stage) := HB_x0_5.out.cell (i := 1) (by omega)
  have s_x0_2 : w5.cell? ⟨w4.heap.size, 2, none⟩ = some (.slice Ax0 m.x.length m.x.length) := HB_x0_5.out.cell (i := 2) (by omega)
  have s_aK_0 : w5.cell? ⟨w.heap.size + 1, 0, none⟩ = some (.string b) := HB_aK_5.out.cell (i := 0) (by omega)
  have s_aK_1 : w5.cell? ⟨w.heap.size + 1, 1, none⟩ = some (.string s) := HB_aK_5.out.cell (i := 1) (by omega)
  have l_x0_0 := Later.cell s_x0_0 (show w4.heap.size < w5.heap.size by omega)
  have l_x0_1 := Later.cell s_x0_1 (show w4.heap.size < w5.heap.size by omega)
  have l_x0_2 := Later.cell s_x0_2 (show w4.heap.size < w5.heap.size by omega)
  have l_aK_0 := Later.cell s_aK_0 (show w.heap.size + 1 < w5.heap.size by omega)
  have l_aK_1 := Later.cell s_aK_1 (show w.heap.size + 1 < w5.heap.size by omega)
  clear s_x0_0 s_x0_1 s_x0_2 s_aK_0 s_aK_1
  go_wp2_with fail
  refine wp_region_G (by kernel_rfl) [.q, .q, .s (fun _ u lo hi w' => u = .agg #[.string b, .string s]), .q, .s (fun _ u lo hi w' => ∃ A c, u = .tuple #[.slice A (dd).length c, .bool ok] ∧ OwnL w' lo hi A 1 encString dd), .q, .q, .q, .q, .q] [0, 0, 1, 0, 1, 0, 0, 0, 0, 0] rfl 3 (by kernel_rfl) (inC w5) (w5).heap.size (inC.size w5) (inC.of (Below.refl _ _).drew) ?_
  (refine wpG_quiets 2 _ _ _ _ (by first | exact cls_none rfl | exact fun w h => h.1) (by intro j hj; rcases j with _ | _ | _ | _ | _ | _ | _ | _ | _ | _ | j <;> first | exact ⟨rfl, ⟨_, rfl, rfl⟩, rfl⟩ | (exfalso; omega)) ?_; simp only [List.take_succ_cons, List.take_zero, List.drop_succ_cons, List.drop_zero, Nat.zero_add, Nat.reduceAdd]; change wpQuiet _ _ (fun wq9 => ∃ x : Later w5, wq9 = x.W) _ _ _; (repeat (go_big_quiet_step (fail))); refine wpQuiet_nil ?_; try dsimp only)
  (refine wpG_call _ rfl rfl rfl rfl (fun u lo hi => loc_pure _) 9 #[.agg #[.string b, .string s]] (by intro w; go_simp) (by intro w1 hw1 hd; (refine (toCalls_any b s w1).mono ?_; rintro e w2 ⟨rfl, hb⟩; exact ⟨_, rfl, hw1.step hb, eff_of_below hb, rfl⟩)) ?_)
  (intro u_g01 lo_g01 hi_g01 hsat; obtain ⟨w1, hw1⟩ := hsat; have hr : u_g01 = .agg #[.string b, .string s] := (hw1.rec rfl 2).2.2; obtain rfl := hr; clear hw1; simp only [Act.put, List.setIfInBounds_toArray, List.set_cons_zero, List.set_cons_succ, Nat.reduceAdd])
  (refine wpG_quiets 1 _ _ _ _ (by first | exact cls_none rfl | exact fun w h => h.1) (by intro j hj; rcases j with _ | _ | _ | _ | _ | _ | _ | _ | _ | _ | j <;> first | exact ⟨rfl, ⟨_, rfl, rfl⟩, rfl⟩ | (exfalso; omega)) ?_; simp only [List.take_succ_cons, List.take_zero, List.drop_succ_cons, List.drop_zero, Nat.zero_add, Nat.reduceAdd]; change wpQuiet _ _ (fun wq9 => ∃ x : Later w5, wq9 = x.W) _ _ _; (repeat (go_big_quiet_step (fail))); refine wpQuiet_nil ?_; try dsimp only)
  (refine wpG_call _ rfl rfl rfl rfl (fun u lo hi => loc_ex fun A => loc_ex fun c => loc_and (loc_pure _) (loc_own (Nat.le_refl _) (Nat.le_refl _))) 10 #[.agg #[.string m.name, .int .i64 m.stage, .slice Ax0 m.x.length m.x.length], .agg #[.string b, .string s], .string t] (by intro w; go_simp) (by intro w1 hw1 hd; (refine (ring_of hD.out rfl (iRingTouch_any ⟨m.name, m.stage, m.x, Ax0, m.x.length⟩ b s t w1 ⟨((O_x0_a_5.out.later hw1.below).rd encString_len), by simp only; omega, by simp only; omega, Hmm.out, by omega, by omega, Nat.le_refl _⟩ (by omega) (HT.out.later (Bw5.out.trans (hw1.below.mono Bw5.out.size))))).mono ?_; rintro e w2 ⟨A, c, rfl, ho, hb⟩; exact ⟨_, rfl, hw1.step hb, eff_of_below hb, A, c, rfl, ho⟩)) ?_)
  (intro u_g0 lo_g0 hi_g0 hsat; obtain ⟨w1, hw1⟩ := hsat; have hr : ∃ A c, u_g0 = .tuple #[.slice A (dd).length c, .bool ok] ∧ OwnL w1 lo_g0 hi_g0 A 1 encString dd := (hw1.rec rfl 4).2.2; obtain ⟨A1_g0, c1_g0, rfl, _⟩ := hr; clear hw1; simp only [Act.put, List.setIfInBounds_toArray, List.set_cons_zero, List.set_cons_succ, Nat.reduceAdd])
  (refine wpG_quiets 5 _ _ _ _ (by first | exact cls_none rfl | exact fun w h => h.1) (by intro j hj; rcases j with _ | _ | _ | _ | _ | _ | _ | _ | _ | _ | j <;> first | exact ⟨rfl, ⟨_, rfl, rfl⟩, rfl⟩ | (exfalso; omega)) ?_; simp only [List.take_succ_cons, List.take_zero, List.drop_succ_cons, List.drop_zero, Nat.zero_add, Nat.reduceAdd]; change wpQuiet _ _ (fun wq9 => ∃ x : Later w5, wq9 = x.W) _ _ _; (repeat (go_big_quiet_step (fail))); refine wpQuiet_nil ?_; try dsimp only)
  intro w6 hh
  have hb := (hh.cls rfl).below
  obtain ⟨Az, cz, hez, hoz⟩ : ∃ A c, Value.tuple #[.slice A1_g0 (dd).length c1_g0, .bool ok] = .tuple #[.slice A (dd).length c, .bool ok] ∧ OwnL w6 lo_g0 hi_g0 A 1 encString dd := (hh.rec rfl 4).2.2
  obtain ⟨rfl, rfl⟩ : A1_g0 = Az ∧ c1_g0 = cz := by simpa using hez
  obtain ⟨hl1_g0, hl2_g0, hl3_g0⟩ : w5.heap.size ≤ lo_g0 ∧ lo_g0 ≤ hi_g0 ∧ hi_g0 ≤ w6.heap.size := hh.rng rfl 4 rfl
  have hv1 := Lib.hid hoz
  clear hoz hez hh l_x0_0 l_x0_1 l_x0_2 l_aK_0 l_aK_1
  have C6 := Lib.hid hb
  clear hb
  have t6 := C6.out.size
  have Bw6 := Lib.hid (Bw5.out.trans (C6.out.mono Bw5.out.size))
  have HB_aM_6 := Lib.hid (HB_aM_5.out.later C6.out)
  clear HB_aM_5
  have HB_aK_6 := Lib.hid (HB_aK_5.out.later C6.out)
  clear HB_aK_5
  have HB_x0_6 := Lib.hid (HB_x0_5.out.later C6.out)
  clear HB_x0_5
  have O_w0_6 := Lib.hid (O_w0_5.out.later C6.out)
  clear O_w0_5
  have O_x0_a_6 := Lib.hid (O_x0_a_5.out.later C6.out)
  clear O_x0_a_5
  have O_g0_6 := hv1
  clear hv1
  go_wp2_with fail
  refine (eqStringS_t dd A1_g0 A1_w0 c1_g0 c1_w0 _ (O_g0_6.out.rd encString_len) (O_w0_6.out.rd encString_len) (by omega)).mono ?_
  rintro e w7 ⟨rfl, hb⟩
  have C7 := Lib.hid hb
  clear hb
  have t7 := C7.out.size
  have Bw7 := Lib.hid (Bw6.out.trans (C7.out.mono Bw6.out.size))
  have HB_aM_7 := Lib.hid (HB_aM_6.out.later C7.out)
  clear HB_aM_6
  have HB_aK_7 := Lib.hid (HB_aK_6.out.later C7.out)
  clear HB_aK_6
  have HB_x0_7 := Lib.hid (HB_x0_6.out.later C7.out)
  clear HB_x0_6
  have O_w0_7 := Lib.hid (O_w0_6.out.later C7.out)
  clear O_w0_6
  have O_x0_a_7 := Lib.hid (O_x0_a_6.out.later C7.out)
  clear O_x0_a_6
  have O_g0_7 := Lib.hid (O_g0_6.out.later C7.out)
  clear O_g0_6
  have s_x0_0 : w7.cell? ⟨w4.heap.size, 0, none⟩ = some (.string m.name) := HB_x0_7.out.cell (i := 0) (by omega)
  have s_x0_1 : w7.cell? ⟨w4.heap.size, 1, none⟩ = some (.int .i64 m.stage) := HB_x0_7.out.cell (i := 1) (by omega)
  have s_x0_2 : w7.cell? ⟨w4.heap.size, 2, none⟩ = some (.slice Ax0 m.x.length m.x.length) := HB_x0_7.out.cell (i := 2) (by omega)
  have s_aM_0 : w7.cell? ⟨w.heap.size, 0, none⟩ = some (.string m.name) := HB_aM_7.out.cell (i := 0) (by omega)
  have s_aM_1 : w7.cell? ⟨w.heap.size, 1, none⟩ = some (.int .i64 m.stage) := HB_aM_7.out.cell (i := 1) (by omega)
  have s_aM_2 : w7.cell? ⟨w.heap.size, 2, none⟩ = some (.slice m.A m.x.length m.c) := HB_aM_7.out.cell (i := 2) (by omega)
  have l_x0_0 := Later.cell s_x0_0 (show w4.heap.size < w7.heap.size by omega)
  have l_x0_1 := Later.cell s_x0_1 (show w4.heap.size < w7.heap.size by omega)
  have l_x0_2 := Later.cell s_x0_2 (show w4.heap.size < w7.heap.size by omega)
  have l_aM_0 := Later.cell s_aM_0 (show w.heap.size < w7.heap.size by omega)
  have l_aM_1 := Later.cell s_aM_1 (show w.heap.size < w7.heap.size by omega)
  have l_aM_2 := Later.cell s_aM_2 (show w.heap.size < w7.heap.size by omega)
  clear s_x0_0 s_x0_1 s_x0_2 s_aM_0 s_aM_1 s_aM_2
  go_wp2_with fail
  refine wp_region_G (by kernel_rfl) [.q, .q, .s (fun _ u lo hi w' => ∃ A, u = .agg #[.string m.name, .int .i64 m.stage, .slice A m.x.length m.x.length] ∧ OwnL w' lo hi A 1 encString m.x), .s (fun _ u lo hi w' => u = .bool true), .q] [0, 0, 1, 1, 0] rfl 3 (by kernel_rfl) (inC w7) (w7).heap.size (inC.size w7) (inC.of (Below.refl _ _).drew) ?_
  (refine wpG_quiets 2 _ _ _ _ (by first | exact cls_none rfl | exact fun w h => h.1) (by intro j hj; rcases j with _ | _ | _ | _ | _ | _ | _ | _ | _ | _ | j <;> first | exact ⟨rfl, ⟨_, rfl, rfl⟩, rfl⟩ | (exfalso; omega)) ?_; simp only [List.take_succ_cons, List.take_zero, List.drop_succ_cons, List.drop_zero, Nat.zero_add, Nat.reduceAdd]; change wpQuiet _ _ (fun wq9 => ∃ x : Later w7, wq9 = x.W) _ _ _; (repeat (go_big_quiet_step (fail))); refine wpQuiet_nil ?_; try dsimp only)
  (refine wpG_call _ rfl rfl rfl rfl (fun u lo hi => loc_ex fun A => loc_and (loc_pure _) (loc_own (Nat.le_refl _) (Nat.le_refl _))) 8 #[.agg #[.string m.name, .int .i64 m.stage, .slice m.A m.x.length m.c]] (by intro w; go_simp) (by intro w1 hw1 hd; (refine (toMethod_any m w1 ((Hm.out.below (Bw7.out.trans (hw1.below.mono Bw7.out.size)) (Nat.le_refl _)).more (Nat.le_trans Bw7.out.size hw1.below.size)) (by omega)).mono ?_; rintro e w2 ⟨A, g, rfl, hg1, hg2, ho, hb⟩; exact ⟨_, rfl, hw1.step hb, eff_of_below hb, A, rfl, ho.mono hg1 hg2⟩)) ?_)
  (intro u_e7 lo_e7 hi_e7 hsat; obtain ⟨w1, hw1⟩ := hsat; have hr : ∃ A, u_e7 = .agg #[.string m.name, .int .i64 m.stage, .slice A m.x.length m.x.length] ∧ OwnL w1 lo_e7 hi_e7 A 1 encString m.x := (hw1.rec rfl 2).2.2; obtain ⟨A_e7, rfl, _⟩ := hr; clear hw1; simp only [Act.put, List.setIfInBounds_toArray, List.set_cons_zero, List.set_cons_succ, Nat.reduceAdd])
  (refine wpG_call _ rfl rfl rfl rfl (fun u lo hi => loc_pure _) 12 #[.agg #[.string m.name, .int .i64 m.stage, .slice Ax0 m.x.length m.x.length], .agg #[.string m.name, .int .i64 m.stage, .slice A_e7 m.x.length m.x.length]] (by intro w; go_simp) (by intro w1 hw1 hd; (have hdz : ∃ A, (.agg #[.string m.name, .int .i64 m.stage, .slice A_e7 m.x.length m.x.length] : Value) = .agg #[.string m.name, .int .i64 m.stage, .slice A m.x.length m.x.length] ∧ OwnL w1 lo_e7 hi_e7 A 1 encString m.x := (hd 2 (gDep_mem (by kernel_rfl))).2; obtain ⟨Az, hez, hozA⟩ := hdz; obtain rfl : A_e7 = Az := (by simpa using hez); refine (eqMethod_t ⟨m.name, m.stage, m.x, Ax0, m.x.length⟩ A_e7 m.x.length w1 ((O_x0_a_7.out.later hw1.below).rd encString_len) (hozA.rd encString_len) (by simp only; omega)).mono ?_; rintro e w2 ⟨rfl, hb⟩; exact ⟨_, rfl, hw1.step hb, eff_of_below hb, rfl⟩)) ?_)
  (intro ueq loeq hieq hsat; obtain ⟨w1, hw1⟩ := hsat; have hr : ueq = .bool true := (hw1.rec rfl 3).2.2; obtain rfl := hr; clear hw1; simp only [Act.put, List.setIfInBounds_toArray, List.set_cons_zero, List.set_cons_succ, Nat.reduceAdd])
  (refine wpG_quiets 1 _ _ _ _ (by first | exact cls_none rfl | exact fun w h => h.1) (by intro j hj; rcases j with _ | _ | _ | _ | _ | _ | _ | _ | _ | _ | j <;> first | exact ⟨rfl, ⟨_, rfl, rfl⟩, rfl⟩ | (exfalso; omega)) ?_; simp only [List.take_succ_cons, List.take_zero, List.drop_succ_cons, List.drop_zero, Nat.zero_add, Nat.reduceAdd]; change wpQuiet _ _ (fun wq9 => ∃ x : Later w7, wq9 = x.W) _ _ _; (repeat (go_big_quiet_step (fail))); refine wpQuiet_nil ?_; try dsimp only)
  intro w8 hh
  have hb := (hh.cls rfl).below
  clear hh l_x0_0 l_x0_1 l_x0_2 l_aM_0 l_aM_1 l_aM_2
  have C8 := Lib.hid hb
  clear hb
  have t8 := C8.out.size
  have Bw8 := Lib.hid (Bw7.out.trans (C8.out.mono Bw7.out.size))
  have HB_aM_8 := Lib.hid (HB_aM_7.out.later C8.out)
  clear HB_aM_7
  have HB_aK_8 := Lib.hid (HB_aK_7.out.later C8.out)
  clear HB_aK_7
  have HB_x0_8 := Lib.hid (HB_x0_7.out.later C8.out)
  clear HB_x0_7
  have O_w0_8 := Lib.hid (O_w0_7.out.later C8.out)
  clear O_w0_7
  have O_x0_a_8 := Lib.hid (O_x0_a_7.out.later C8.out)
  clear O_x0_a_7
  have O_g0_8 := Lib.hid (O_g0_7.out.later C8.out)
  clear O_g0_7
  have s_x0_0 : w8.cell? ⟨w4.heap.size, 0, none⟩ = some (.string m.name) := HB_x0_8.out.cell (i := 0) (by omega)
  have s_x0_1 : w8.cell? ⟨w4.heap.size, 1, none⟩ = some (.int .i64 m.stage) := HB_x0_8.out.cell (i := 1) (by omega)
  have s_x0_2 : w8.cell? ⟨w4.heap.size, 2, none⟩ = some (.slice Ax0 m.x.length m.x.length) := HB_x0_8.out.cell (i := 2) (by omega)
  go_wp2_with fail
  refine (markMethod_any ⟨m.name, m.stage, m.x, Ax0, m.x.length⟩ gx0 (gx0 + 1) 1 _ O_x0_a_8.out (by omega) (by simp only; omega) (by omega) (by omega)).mono ?_
  rintro e w9 ⟨he, hc⟩
  clear s_x0_0 s_x0_1 s_x0_2
  obtain ⟨q9, hq⟩ : ∃ q : Nat, q = 1 + m.x.length := ⟨_, rfl⟩
  have he2 : e = .returned (.int .i64 (q9 : Int)) := by rw [hq]; exact he
  subst he2
  clear he
  have Hq9 := Lib.hid hq
  obtain ⟨qa9, qb9⟩ : 0 < q9 ∧ q9 ≤ 10000001 := by omega
  clear hq
  have C9 := Lib.hid hc
  clear hc
  have t9 := C9.out.size
  have Bw9 := Lib.hid (Below.chg Bw8.out C9.out (by omega) Bw8.out.size)
  have HB_aM_9 := Lib.hid (HB_aM_8.out.chg C9.out (by omega))
  clear HB_aM_8
  have HB_aK_9 := Lib.hid (HB_aK_8.out.chg C9.out (by omega))
  clear HB_aK_8
  have O_w0_9 := Lib.hid (O_w0_8.out.chg C9.out (by omega))
  clear O_w0_8
  have O_g0_9 := Lib.hid (O_g0_8.out.chg C9.out (by omega))
  clear O_g0_8
  clear O_x0_a_8
  clear HB_x0_8
  go_wp2_with fail
  refine (eqStringS_t dd A1_g0 A1_w0 c1_g0 c1_w0 _ (O_g0_9.out.rd encString_len) (O_w0_9.out.rd encString_len) (by omega)).mono ?_
  rintro e w10 ⟨rfl, hb⟩
  have C10 := Lib.hid hb
  clear hb
  have t10 := C10.out.size
  have Bw10 := Lib.hid (Bw9.out.trans (C10.out.mono Bw9.out.size))
  have HB_aM_10 := Lib.hid (HB_aM_9.out.later C10.out)
  clear HB_aM_9
  have HB_aK_10 := Lib.hid (HB_aK_9.out.later C10.out)
  clear HB_aK_9
  have O_w0_10 := Lib.hid (O_w0_9.out.later C10.out)
  clear O_w0_9
  have O_g0_10 := Lib.hid (O_g0_9.out.later C10.out)
  clear O_g0_9
  go_wp2_with fail
  refine (markStringS_any dd lo_g0 hi_g0 A1_g0 c1_g0 1 _ O_g0_10.out (by omega) (by omega) (by omega)).mono ?_
  rintro e w11 ⟨he, ho, hc⟩
  obtain ⟨q11, hq⟩ : ∃ q : Nat, q = 1 + (dd).length * 1 := ⟨_, rfl⟩
  have he2 : e = .returned (.int .i64 (q11 : Int)) := by rw [hq]; exact he
  subst he2
  clear he
  have Hq11 := Lib.hid hq
  obtain ⟨qa11, qb11⟩ : 0 < q11 ∧ q11 ≤ 10000001 := by omega
  clear hq
  have C11 := Lib.hid hc
  clear hc
  have t11 := C11.out.size
  have Bw11 := Lib.hid (Below.chg Bw10.out C11.out (by omega) Bw10.out.size)
  have HB_aM_11 := Lib.hid (HB_aM_10.out.chg C11.out (by omega))
  clear HB_aM_10
  have HB_aK_11 := Lib.hid (HB_aK_10.out.chg C11.out (by omega))
  clear HB_aK_10
  have O_w0_11 := Lib.hid (O_w0_10.out.chg C11.out (by omega))
  clear O_w0_10
  have O_g0_11 := Lib.hid ho
  clear ho O_g0_10
  go_wp2_with fail
  refine (heldStringS_any (dd).length A1_g0 c1_g0 1 _ (O_g0_11.out.rd encString_len) (by omega) (by omega) (by omega)).mono ?_
  rintro e w12 ⟨he, hb⟩
  have he2 : e = .returned (.int .i64 (q11 : Int)) := by rw [Hq11.out]; exact he
  subst he2
  clear he
  have C12 := Lib.hid hb
  clear hb
  have t12 := C12.out.size
  have Bw12 := Lib.hid (Bw11.out.trans (C12.out.mono Bw11.out.size))
  have HB_aM_12 := Lib.hid (HB_aM_11.out.later C12.out)
  clear HB_aM_11
  have HB_aK_12 := Lib.hid (HB_aK_11.out.later C12.out)
  clear HB_aK_11
  have O_w0_12 := Lib.hid (O_w0_11.out.later C12.out)
  clear O_w0_11
  have O_g0_12 := Lib.hid (O_g0_11.out.later C12.out)
  clear O_g0_11
  have s_aM_0 : w12.cell? ⟨w.heap.size, 0, none⟩ = some (.string m.name) := HB_aM_12.out.cell (i := 0) (by omega)
  have s_aM_1 : w12.cell? ⟨w.heap.size, 1, none⟩ = some (.int .i64 m.stage) := HB_aM_12.out.cell (i := 1) (by omega)
  have s_aM_2 : w12.cell? ⟨w.heap.size, 2, none⟩ = some (.slice m.A m.x.length m.c) := HB_aM_12.out.cell (i := 2) (by omega)
  have s_aK_0 : w12.cell? ⟨w.heap.size + 1, 0, none⟩ = some (.string b) := HB_aK_12.out.cell (i := 0) (by omega)
  have s_aK_1 : w12.cell? ⟨w.heap.size + 1, 1, none⟩ = some (.string s) := HB_aK_12.out.cell (i := 1) (by omega)
  have l_aM_0 := Later.cell s_aM_0 (show w.heap.size < w12.heap.size by omega)
  have l_aM_1 := Later.cell s_aM_1 (show w.heap.size < w12.heap.size by omega)
  have l_aM_2 := Later.cell s_aM_2 (show w.heap.size < w12.heap.size by omega)
  have l_aK_0 := Later.cell s_aK_0 (show w.heap.size + 1 < w12.heap.size by omega)
  have l_aK_1 := Later.cell s_aK_1 (show w.heap.size + 1 < w12.heap.size by omega)
  clear s_aM_0 s_aM_1 s_aM_2 s_aK_0 s_aK_1
  go_wp2_with fail
  refine wp_region_G (by kernel_rfl) [.q, .s (fun _ u lo hi w' => ∃ A, u = .agg #[.string m.name, .int .i64 m.stage, .slice A m.x.length m.x.length] ∧ OwnL w' lo hi A 1 encString m.x), .q, .s (fun _ u lo hi w' => u = .agg #[.string b, .string s]), .q, .s (fun _ u lo hi w' => ∃ A c, u = .tuple #[.slice A (dd).length c, .bool ok] ∧ OwnL w' lo hi A 1 encString dd), .q, .q, .q, .q, .q] [0, 1, 0, 1, 0, 1, 0, 0, 0, 0, 0] rfl 3 (by kernel_rfl) (inC w12) (w12).heap.size (inC.size w12) (inC.of (Below.refl _ _).drew) ?_
  (refine wpG_quiets 1 _ _ _ _ (by first | exact cls_none rfl | exact fun w h => h.1) (by intro j hj; rcases j with _ | _ | _ | _ | _ | _ | _ | _ | _ | _ | j <;> first | exact ⟨rfl, ⟨_, rfl, rfl⟩, rfl⟩ | (exfalso; omega)) ?_; simp only [List.take_succ_cons, List.take_zero, List.drop_succ_cons, List.drop_zero, Nat.zero_add, Nat.reduceAdd]; change wpQuiet _ _ (fun wq9 => ∃ x : Later w12, wq9 = x.W) _ _ _; (repeat (go_big_quiet_step (fail))); refine wpQuiet_nil ?_; try dsimp only)
  (refine wpG_call _ rfl rfl rfl rfl (fun u lo hi => loc_ex fun A => loc_and (loc_pure _) (loc_own (Nat.le_refl _) (Nat.le_refl _))) 8 #[.agg #[.string m.name, .int .i64 m.stage, .slice m.A m.x.length m.c]] (by intro w; go_simp) (by intro w1 hw1 hd; (refine (toMethod_any m w1 ((Hm.out.below (Bw12.out.trans (hw1.below.mono Bw12.out.size)) (Nat.le_refl _)).more (Nat.le_trans Bw12.out.size hw1.below.size)) (by omega)).mono ?_; rintro e w2 ⟨A, g, rfl, hg1, hg2, ho, hb⟩; exact ⟨_, rfl, hw1.step hb, eff_of_below hb, A, rfl, ho.mono hg1 hg2⟩)) ?_)
  (intro u_h00 lo_h00 hi_h00 hsat; obtain ⟨w1, hw1⟩ := hsat; have hr : ∃ A, u_h00 = .agg #[.string m.name, .int .i64 m.stage, .slice A m.x.length m.x.length] ∧ OwnL w1 lo_h00 hi_h00 A 1 encString m.x := (hw1.rec rfl 1).2.2; obtain ⟨A_h00, rfl, _⟩ := hr; clear hw1; simp only [Act.put, List.setIfInBounds_toArray, List.set_cons_zero, List.set_cons_succ, Nat.reduceAdd])
  (refine wpG_quiets 1 _ _ _ _ (by first | exact cls_none rfl | exact fun w h => h.1) (by intro j hj; rcases j with _ | _ | _ | _ | _ | _ | _ | _ | _ | _ | j <;> first | exact ⟨rfl, ⟨_, rfl, rfl⟩, rfl⟩ | (exfalso; omega)) ?_; simp only [List.take_succ_cons, List.take_zero, List.drop_succ_cons, List.drop_zero, Nat.zero_add, Nat.reduceAdd]; change wpQuiet _ _ (fun wq9 => ∃ x : Later w12, wq9 = x.W) _ _ _; (repeat (go_big_quiet_step (fail))); refine wpQuiet_nil ?_; try dsimp only)
  (refine wpG_call _ rfl rfl rfl rfl (fun u lo hi => loc_pure _) 9 #[.agg #[.string b, .string s]] (by intro w; go_simp) (by intro w1 hw1 hd; (refine (toCalls_any b s w1).mono ?_; rintro e w2 ⟨rfl, hb⟩; exact ⟨_, rfl, hw1.step hb, eff_of_below hb, rfl⟩)) ?_)
  (intro u_h01 lo_h01 hi_h01 hsat; obtain ⟨w1, hw1⟩ := hsat; have hr : u_h01 = .agg #[.string b, .string s] := (hw1.rec rfl 3).2.2; obtain rfl := hr; clear hw1; simp only [Act.put, List.setIfInBounds_toArray, List.set_cons_zero, List.set_cons_succ, Nat.reduceAdd])
  (refine wpG_quiets 1 _ _ _ _ (by first | exact cls_none rfl | exact fun w h => h.1) (by intro j hj; rcases j with _ | _ | _ | _ | _ | _ | _ | _ | _ | _ | j <;> first | exact ⟨rfl, ⟨_, rfl, rfl⟩, rfl⟩ | (exfalso; omega)) ?_; simp only [List.take_succ_cons, List.take_zero, List.drop_succ_cons, List.drop_zero, Nat.zero_add, Nat.reduceAdd]; change wpQuiet _ _ (fun wq9 => ∃ x : Later w12, wq9 = x.W) _ _ _; (repeat (go_big_quiet_step (fail))); refine wpQuiet_nil ?_; try dsimp only)
  (refine wpG_call _ rfl rfl rfl rfl (fun u lo hi => loc_ex fun A => loc_ex fun c => loc_and (loc_pure _) (loc_own (Nat.le_refl _) (Nat.le_refl _))) 10 #[.agg #[.string m.name, .int .i64 m.stage, .slice A_h00 m.x.length m.x.length], .agg #[.string b, .string s], .string t] (by intro w; go_simp) (by intro w1 hw1 hd; (have hd0 : ∃ A, (.agg #[.string m.name, .int .i64 m.stage, .slice A_h00 m.x.length m.x.length] : Value) = .agg #[.string m.name, .int .i64 m.stage, .slice A m.x.length m.x.length] ∧ OwnL w1 lo_h00 hi_h00 A 1 encString m.x := (hd 1 (gDep_mem (by kernel_rfl))).2; obtain ⟨Az, he0, ho0A⟩ := hd0; obtain rfl : A_h00 = Az := (by simpa using he0); refine (ring_of hD.out rfl (iRingTouch_any ⟨m.name, m.stage, m.x, A_h00, m.x.length⟩ b s t w1 ⟨(ho0A.rd encString_len), by simp only; omega, by simp only; omega, Hmm.out, by omega, by omega, Nat.le_refl _⟩ (by omega) (HT.out.later (Bw12.out.trans (hw1.below.mono Bw12.out.size))))).mono ?_; rintro e w2 ⟨A, c, rfl, ho, hb⟩; exact ⟨_, rfl, hw1.step hb, eff_of_below hb, A, c, rfl, ho⟩)) ?_)
  (intro u_h0 lo_h0 hi_h0 hsat; obtain ⟨w1, hw1⟩ := hsat; have hr : ∃ A c, u_h0 = .tuple #[.slice A (dd).length c, .bool ok] ∧ OwnL w1 lo_h0 hi_h0 A 1 encString dd := (hw1.rec rfl 5).2.2; obtain ⟨A1_h0, c1_h0, rfl, _⟩ := hr; clear hw1; simp only [Act.put, List.setIfInBounds_toArray, List.set_cons_zero, List.set_cons_succ, Nat.reduceAdd])
  (refine wpG_quiets 5 _ _ _ _ (by first | exact cls_none rfl | exact fun w h => h.1) (by intro j hj; rcases j with _ | _ | _ | _ | _ | _ | _ | _ | _ | _ | j <;> first | exact ⟨rfl, ⟨_, rfl, rfl⟩, rfl⟩ | (exfalso; omega)) ?_; simp only [List.take_succ_cons, List.take_zero, List.drop_succ_cons, List.drop_zero, Nat.zero_add, Nat.reduceAdd]; change wpQuiet _ _ (fun wq9 => ∃ x : Later w12, wq9 = x.W) _ _ _; (repeat (go_big_quiet_step (fail))); refine wpQuiet_nil ?_; try dsimp only)
  intro w13 hh
  have hb := (hh.cls rfl).below
  obtain ⟨Az, cz, hez, hoz⟩ : ∃ A c, Value.tuple #[.slice A1_h0 (dd).length c1_h0, .bool ok] = .tuple #[.slice A (dd).length c, .bool ok] ∧ OwnL w13 lo_h0 hi_h0 A 1 encString dd := (hh.rec rfl 5).2.2
  obtain ⟨rfl, rfl⟩ : A1_h0 = Az ∧ c1_h0 = cz := by simpa using hez
  obtain ⟨hl1_h0, hl2_h0, hl3_h0⟩ : w12.heap.size ≤ lo_h0 ∧ lo_h0 ≤ hi_h0 ∧ hi_h0 ≤ w13.heap.size := hh.rng rfl 5 rfl
  have hv1 := Lib.hid hoz
  clear hoz hez hh l_aM_0 l_aM_1 l_aM_2 l_aK_0 l_aK_1
  have C13 := Lib.hid hb
  clear hb
  have t13 := C13.out.size
  have Bw13 := Lib.hid (Bw12.out.trans (C13.out.mono Bw12.out.size))
  clear HB_aM_12
  clear HB_aK_12
  have O_w0_13 := Lib.hid (O_w0_12.out.later C13.out)
  clear O_w0_12
  have O_g0_13 := Lib.hid (O_g0_12.out.later C13.out)
  clear O_g0_12
  have O_h0_13 := hv1
  clear hv1
  go_wp2_with fail
  refine (eqStringS_t dd A1_h0 A1_w0 c1_h0 c1_w0 _ (O_h0_13.out.rd encString_len) (O_w0_13.out.rd encString_len) (by omega)).mono ?_
  rintro e w14 ⟨rfl, hb⟩
  have C14 := Lib.hid hb
  clear hb
  have t14 := C14.out.size
  have Bw14 := Lib.hid (Bw13.out.trans (C14.out.mono Bw13.out.size))
  clear O_w0_13
  have O_g0_14 := Lib.hid (O_g0_13.out.later C14.out)
  clear O_g0_13
  clear O_h0_13
  go_wp2_with fail
  refine (heldStringS_any (dd).length A1_g0 c1_g0 1 _ (O_g0_14.out.rd encString_len) (by omega) (by omega) (by omega)).mono ?_
  rintro e w15 ⟨he, hb⟩
  have he2 : e = .returned (.int .i64 (q11 : Int)) := by rw [Hq11.out]; exact he
  subst he2
  clear he
  have C15 := Lib.hid hb
  clear hb
  have t15 := C15.out.size
  have Bw15 := Lib.hid (Bw14.out.trans (C15.out.mono Bw14.out.size))
  clear O_g0_14
  go_wp2_with fail
  go_ret
  exact ⟨rfl, Bw15.out⟩

namespace fnExactRingTouch
open Go.ChangeShapes Go.WideShapes Go.ChangeAt Go.RowKit Go.Deep
open Go.ChangeMaps (open_string shut_string)
theorem own : ownKnob Tryd.prog.godebug = none := by kernel_rfl
theorem laid : laidOutB Tryd.prog = true := by kernel_rfl
theorem reads : Tryd.f3.params.toList.all (fun t => Tryd.prog.readableRec t && decide (t < Tryd.prog.types.size)) = true := by kernel_rfl
theorem door_met (os : Os) (args : Array Value) : laidMetH Tryd.prog Rows.fnExactRingTouchRow.laid ((World.doorLaid Tryd.prog 400 os).forCall (fun _ _ => 0) ⟨#[], args, []⟩).memory :=
  laidMetH_of_parts3 (fuel := 8) (laidMet_of_run' 8 (by kernel_rfl) (by kernel_rfl)) (by kernel_rfl) (by kernel_rfl)
set_option maxRecDepth 100000 in
theorem lifted (os : Os) (started : os.Started) (H : Type) (enc : TypeId × Value → H) :
    ReturnsInHanded {} Tryd.checked os 3 .any (fun w args => (Rows.fnExactRingTouchSpec.pre enc Tryd.prog Tryd.f3 [] false w args ∧ laidMetH Tryd.prog Rows.fnExactRingTouchRow.laid w) ∧ sizedMet enc Tryd.prog Tryd.f3 (OpenSpec.ofChange Rows.fnExactRingTouchSpec) false w args) (Rows.fnExactRingTouchSpec.post enc Tryd.prog Tryd.f3 false true false false) := by
  refine returnsInHanded_of_change_and (C := Tryd.checked) (X := fun w _ => laidMetH Tryd.prog Rows.fnExactRingTouchRow.laid w) (fun _ _ _ hh h => h.of_heap hh) own started (by kernel_rfl) Tryd.func3
    (ChangeSpec.witness_shaped (enc := enc) (C := Tryd.checked) (os := os) (X := fun w _ => laidMetH Tryd.prog Rows.fnExactRingTouchRow.laid w) false (World.doorLaid Tryd.prog 400 os) #[.agg #[.string ByteArray.empty, .int .i64 0, .slice none 0 0], .agg #[.string ByteArray.empty, .string ByteArray.empty], .string ByteArray.empty] 8 rfl (World.shaped_of_RefB (by kernel_rfl) (by kernel_rfl)) (by kernel_rfl) (by kernel_rfl) (by kernel_rfl) (door_met os _)) ?_
  intro W base args ds gs before hval0 hW _ _ hL _
  have htabW : Tab W := tab_of (by rw [MakeChecks.laidMetH_plain _ _ _ (by kernel_rfl)] at hL; exact hL)
  have hval : ∀ (j : Nat) t v, Tryd.f3.params[j]? = some t → args[j]? = some v → Value.okWide Tryd.prog W .any base t v := hval0
  have hW' := hW
  obtain ⟨p, q, hA0, hV, rfl, hfz, hnd⟩ := hW
  have hA : DataW.TrodAll enc Tryd.prog W 0 (fun _ => true) true Tryd.f3.params.toList args.toList ds p := hA0
  rw [Tryd.params3] at hA hval
  obtain ⟨rfl, rfl⟩ := trodVars_none hV
  have hlt : ∀ x ∈ p, x.block < W.heap.size := fun x hx => by simpa using hW'.lt x (List.mem_append.2 (.inl hx))
  clear hA0 hval0
  obtain ⟨v0, vs0, d0, ds0, p0, q0, hargs, rfl, rfl, h0, r0⟩ := trodAll_cons hA
  obtain ⟨v1, vs1, d1, ds1, p1, q1, rfl, rfl, rfl, h1, r1⟩ := trodAll_cons r0
  obtain ⟨v2, vs2, d2, ds2, p2, q2, rfl, rfl, rfl, h2, r2⟩ := trodAll_cons r1
  obtain ⟨rfl, rfl, rfl⟩ := trodAll_nil r2
  obtain rfl : args = #[v0, v1, v2] := by cases args; simp_all
  clear hargs
  obtain ⟨m0, rfl, fm0, hm0, _⟩ := open_struct Tryd.underlying24 Mth.enc _ Method_el (hval 0 24 v0 rfl rfl) h0
  obtain ⟨⟨b1, s1⟩, rfl, hb1, hs1⟩ := open_struct Tryd.underlying26 (fun x : ByteArray × ByteArray => [.string x.1, .string x.2]) _ Calls_el (hval 1 26 v1 rfl rfl) h1
  obtain ⟨a2, rfl, rfl, rfl, z2⟩ := open_string Tryd.underlying9 (hval 2 9 v2 rfl rfl) h2
  refine (ringTouchLaw W m0 hm0 fm0 b1 s1 hb1 hs1 a2 (by unfold maxLen at z2; omega) htabW).mono fun e W' ⟨he, hg⟩ => ?_
  subst he
  exact ⟨_, rfl, law_post laid reads rfl Tryd.underlying4 rfl rfl hW' hg⟩
theorem over : Rows.fnExactRingTouchRow.holds Tryd.pinned (OpenSpec.ofChange Rows.fnExactRingTouchSpec) :=
  OpenClaim.holds_of_wide 3 Tryd.f3 rfl rfl rfl rfl rfl rfl rfl ⟨rfl, rfl, rfl, rfl, rfl⟩ rfl rfl rfl rfl rfl (by kernel_rfl) Tryd.func3 facts
    (of_decide_eq_true (by kernel_rfl)) (by unfold Func.isWrapper; first | (rw [if_pos (by decide +kernel)]; kernel_rfl) | (rw [if_neg (by decide +kernel)]; exact ⟨rfl, rfl⟩))
    (fun os started H enc _ => lifted os started H enc)
theorem proved : Rows.FnExactRingTouchCardSaid :=
  Claim7.holds_tied_plain_at .later [] [.data, .data, .data] true (true, "22eada7432c92aaa50ed3d218d6b17cca8d55101b5a36205df56ea99271da9eb") false
    over (fun _ h => by cases h) (by kernel_rfl) (fun _ h => by cases h) fnExactRingTouch_row_tie rfl ⟨rfl, rfl⟩ (by kernel_rfl) rfl
    (fun f fn hf hfn => by
      obtain rfl : f = 3 := Option.some.inj ((show Tryd.prog.funcNamed "loop.example/g00894/laws.FnExactRingTouch" = some 3 by kernel_rfl).symm.trans hf) |>.symm
      obtain rfl : fn = Tryd.f3 := (Option.some.inj (Tryd.func3.symm.trans hfn)).symm
      exact ⟨by kernel_rfl, fun j t ht => by
        have hm : t ∈ Tryd.f3.params.toList := Array.mem_toList_iff.2 (Array.mem_of_getElem? ht)
        have hall : (Tryd.f3.params.toList.all fun u => !Tryd.prog.wantsStandIn u) = true := by kernel_rfl
        exact (show Tryd.prog.wantsStandIn t = false by simpa using List.all_eq_true.1 hall t hm)⟩)
    (by kernel_rfl)
end fnExactRingTouch
end Go.Proofs.YtbfhfnejppfehaaDoor
