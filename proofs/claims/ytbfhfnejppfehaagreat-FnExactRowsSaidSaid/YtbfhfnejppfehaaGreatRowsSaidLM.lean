import Derived.Test.YtbfhfnejppfehaaGreatMRowsSaidL35
import Derived.Test.YtbfhfnejppfehaaGreatMRowsSaidL12
import Derived.Test.YtbfhfnejppfehaaGreatMRowsSaidL36
import Derived.Test.YtbfhfnejppfehaaGreatMRowsSaidL03
import Derived.Test.YtbfhfnejppfehaaGreatMRowsSaidL37
/-
  RowsSaid of the program returns what the reference's returns, for all arguments: no condition.
-/
namespace Go.Proofs.YtbfhfnejppfehaaGreat
open Go.RowKit Go.ChangeShapes Go.WideShapes Go.Deep
set_option linter.unusedVariables false
set_option linter.unusedSimpArgs false
set_option maxRecDepth 100000
set_option maxHeartbeats 8000000 in
theorem rowsSaidLaw (w : World) (m : Mth) (hm : RdL w w.heap.size m.A 1 encString m.x) (fm : m.Fits) (b s : ByteArray) (hb : (b.size : Int) ≤ 9223372036854775807) (hs : (s.size : Int) ≤ 9223372036854775807) (l : List Spk) (Al : Option Addr) (cl : Nat) (hrl : RdL w w.heap.size Al 2 Spk.enc l) (hll : l.length ≤ 9223372036854775807) (hsl : ∀ x ∈ l, Spoken_small 9223372036854775807 x) :
    Calls Tryz.prog 4 #[.agg #[.string m.name, .int .i64 m.stage, .slice m.A m.x.length m.c], .agg #[.string b, .string s], .slice Al l.length cl] w fun e w' => e = .returned (.bool true) ∧ Below w.heap.size w w' := by
  have Hm := Lib.hid hm
  have Fm := Lib.hid fm
  clear hm fm
  have Hrl := Lib.hid hrl
  have Hsl := Lib.hid hsl
  clear hrl hsl
  have hbW0 : Below w.heap.size w ((w.alloc (.cells #[.string m.name, .int .i64 m.stage, .slice m.A m.x.length m.c] 45)).alloc (.cells #[.string b, .string s] 47)) := by repeat (first | exact Below.refl _ _ | (refine Below.alloc ?_ (by simp <;> omega) _))
  go_enter Tryz.func4, Tryz.ntmps4
  go_wp2_with fail
  have hW : ∃ W : World, Hid (((w.alloc (.cells #[.string m.name, .int .i64 m.stage, .slice m.A m.x.length m.c] 45)).alloc (.cells #[.string b, .string s] 47)) = W) ∧ Hid (Below w.heap.size w W) ∧ w.heap.size + 2 ≤ W.heap.size ∧ Hid (Cells W (w.heap.size) 3 (fun i => (#[Value.string m.name, .int .i64 m.stage, .slice m.A m.x.length m.c] : Array Value).getD i undef)) ∧ Hid (Cells W (w.heap.size + 1) 2 (fun i => (#[Value.string b, .string s] : Array Value).getD i undef)) := by
    have z1 : w.heap.size + 1 = ((w.alloc (.cells #[.string m.name, .int .i64 m.stage, .slice m.A m.x.length m.c] 45))).heap.size := by simp
    refine ⟨_, Lib.hid rfl, Lib.hid hbW0, by simp, Lib.hid ?_, Lib.hid ?_⟩
    · exact ((Cells.newD _ #[.string m.name, .int .i64 m.stage, .slice m.A m.x.length m.c] _).alloc _)
    · rw [z1]; exact (Cells.newD _ #[.string b, .string s] _)
  obtain ⟨w0, hWe, Bw0, t0, HB_aM_0, HB_aK_0⟩ := hW
  rw [hWe.out]
  clear hWe hbW0
  have s_aM_0 : w0.cell? ⟨w.heap.size, 0, none⟩ = some (.string m.name) := HB_aM_0.out.cell (i := 0) (by omega)
  have s_aM_1 : w0.cell? ⟨w.heap.size, 1, none⟩ = some (.int .i64 m.stage) := HB_aM_0.out.cell (i := 1) (by omega)
  have s_aM_2 : w0.cell? ⟨w.heap.size, 2, none⟩ = some (.slice m.A m.x.length m.c) := HB_aM_0.out.cell (i := 2) (by omega)
  go_wp2_with fail
  refine (szMethod_any m (1048576 : Int) _ ((Hm.out.below Bw0.out (Nat.le_refl _)).more Bw0.out.size) Fm.out (by omega) (by omega)).mono ?_
  rintro e w1 ⟨r1, rfl, hz, hb⟩
  clear s_aM_0 s_aM_1 s_aM_2
  have C1 := Lib.hid hb
  clear hb
  have t1 := C1.out.size
  have Bw1 := Lib.hid (Bw0.out.trans (C1.out.mono Bw0.out.size))
  have HB_aM_1 := Lib.hid (HB_aM_0.out.later C1.out)
  clear HB_aM_0
  have HB_aK_1 := Lib.hid (HB_aK_0.out.later C1.out)
  clear HB_aK_0
  have Z1 := Lib.hid hz
  clear hz
  by_cases n1 : r1 < 0
  · go_wp2_with fail
    go_ret
    exact ⟨rfl, Bw1.out⟩
  have z1 := Z1.out.resolve_left (by omega)
  obtain ⟨ya1, yb1, snm, slm, ssm⟩ := z1
  have snm' : m.name.size ≤ 1048576 := by omega
  have Hmm : Hid (∀ x ∈ m.x, String_small 1048576 x) := Lib.hid (fun x hx => by have := ssm x hx; simp only [String_small] at this ⊢; omega)
  clear ssm
  have slm' : m.x.length ≤ 1048576 := by omega
  have yl1 : r1 ≤ 1048576 := by omega
  have s_aK_0 : w1.cell? ⟨w.heap.size + 1, 0, none⟩ = some (.string b) := HB_aK_1.out.cell (i := 0) (by omega)
  have s_aK_1 : w1.cell? ⟨w.heap.size + 1, 1, none⟩ = some (.string s) := HB_aK_1.out.cell (i := 1) (by omega)
  go_wp2_with fail
  refine (szCalls_any b s r1 _ hb hs (by omega) (by omega)).mono ?_
  rintro e w2 ⟨r2, rfl, hz, hb⟩
  clear s_aK_0 s_aK_1
  have C2 := Lib.hid hb
  clear hb
  have t2 := C2.out.size
  have Bw2 := Lib.hid (Bw1.out.trans (C2.out.mono Bw1.out.size))
  have HB_aM_2 := Lib.hid (HB_aM_1.out.later C2.out)
  clear HB_aM_1
  have HB_aK_2 := Lib.hid (HB_aK_1.out.later C2.out)
  clear HB_aK_1
  have Z2 := Lib.hid hz
  clear hz
  by_cases n2 : r2 < 0
  · go_wp2_with fail
    go_ret
    exact ⟨rfl, Bw2.out⟩
  have z2 := Z2.out.resolve_left (by omega)
  obtain ⟨ya2, yb2, sbb, sbs⟩ := z2
  have sbb' : b.size ≤ 1048576 := by omega
  have sbs' : s.size ≤ 1048576 := by omega
  have yl2 : r2 ≤ 1048576 := by omega
  go_wp2_with fail
  refine (szSpokenS_any l Al cl r2 _ ((Hrl.out.below Bw2.out (Nat.le_refl _)).more Bw2.out.size) (by omega) (by omega) (by omega) Hsl.out).mono ?_
  rintro e w3 ⟨r3, rfl, hz, hb⟩
  have C3 := Lib.hid hb
  clear hb
  have t3 := C3.out.size
  have Bw3 := Lib.hid (Bw2.out.trans (C3.out.mono Bw2.out.size))
  have HB_aM_3 := Lib.hid (HB_aM_2.out.later C3.out)
  clear HB_aM_2
  have HB_aK_3 := Lib.hid (HB_aK_2.out.later C3.out)
  clear HB_aK_2
  have Z3 := Lib.hid hz
  clear hz
  by_cases n3 : r3 < 0
  · go_wp2_with fail
    go_ret
    exact ⟨rfl, Bw3.out⟩
  have z3 := Z3.out.resolve_left (by omega)
  obtain ⟨ya3, yb3', yl3, hz'⟩ := z3
  have hll' : l.length ≤ 1048576 := by omega
  have yb3 : r3 ≤ 1048576 := by omega
  have Hml : Hid (∀ x ∈ l, Spoken_small 1048576 x) := Lib.hid (fun x hx => by have := hz' x hx; simp only [Spoken_small] at this ⊢; omega)
  clear hz'
  have hsm := rsR_small m b s l
  obtain ⟨D, hD⟩ : ∃ D, Hid (rsR m b s l = D) := ⟨_, Lib.hid rfl⟩
  obtain ⟨dd, ok⟩ := D
  rw [hD.out] at hsm
  simp only at hsm
  skip
  have s_aM_0 : w3.cell? ⟨w.heap.size, 0, none⟩ = some (.string m.name) := HB_aM_3.out.cell (i := 0) (by omega)
  have s_aM_1 : w3.cell? ⟨w.heap.size, 1, none⟩ = some (.int .i64 m.stage) := HB_aM_3.out.cell (i := 1) (by omega)
  have s_aM_2 : w3.cell? ⟨w.heap.size, 2, none⟩ = some (.slice m.A m.x.length m.c) := HB_aM_3.out.cell (i := 2) (by omega)
  have s_aK_0 : w3.cell? ⟨w.heap.size + 1, 0, none⟩ = some (.string b) := HB_aK_3.out.cell (i := 0) (by omega)
  have s_aK_1 : w3.cell? ⟨w.heap.size + 1, 1, none⟩ = some (.string s) := HB_aK_3.out.cell (i := 1) (by omega)
  have l_aM_0 := Later.cell s_aM_0 (show w.heap.size < w3.heap.size by omega)
  have l_aM_1 := Later.cell s_aM_1 (show w.heap.size < w3.heap.size by omega)
  have l_aM_2 := Later.cell s_aM_2 (show w.heap.size < w3.heap.size by omega)
  have l_aK_0 := Later.cell s_aK_0 (show w.heap.size + 1 < w3.heap.size by omega)
  have l_aK_1 := Later.cell s_aK_1 (show w.heap.size + 1 < w3.heap.size by omega)
  clear s_aM_0 s_aM_1 s_aM_2 s_aK_0 s_aK_1
  go_wp2_with fail
  refine wp_region_G (by kernel_rfl) [.q, .s (fun _ u lo hi w' => ∃ A, u = .agg #[.string m.name, .int .i64 m.stage, .slice A m.x.length m.x.length] ∧ OwnL w' lo hi A 1 encString m.x), .q, .s (fun _ u lo hi w' => u = .agg #[.string b, .string s]), .q, .s (fun _ u lo hi w' => ∃ A, u = .slice A l.length l.length ∧ OwnL w' lo hi A 2 Spk.enc l), .s (fun _ u lo hi w' => ∃ A c, u = .tuple #[.slice A (dd).length c, .bool ok] ∧ OwnL w' lo hi A 1 encString dd), .q, .q, .q, .q, .q] [0, 1, 0, 1, 0, 1, 1, 0, 0, 0, 0, 0] rfl 3 (by kernel_rfl) (inC w3) (w3).heap.size (inC.size w3) (inC.of (Below.refl _ _).drew) ?_
  (refine wpG_quiets 1 _ _ _ _ (by first | exact cls_none rfl | exact fun w h => h.1) (by intro j hj; rcases j with _ | _ | _ | _ | _ | _ | _ | _ | _ | _ | j <;> first | exact ⟨rfl, ⟨_, rfl, rfl⟩, rfl⟩ | (exfalso; omega)) ?_; simp only [List.take_succ_cons, List.take_zero, List.drop_succ_cons, List.drop_zero, Nat.zero_add, Nat.reduceAdd]; change wpQuiet _ _ (fun wq9 => ∃ x : Later w3, wq9 = x.W) _ _ _; (repeat (go_big_quiet_step (fail))); refine wpQuiet_nil ?_; try dsimp only)
  (refine wpG_call _ rfl rfl rfl rfl (fun u lo hi => loc_ex fun A => loc_and (loc_pure _) (loc_own (Nat.le_refl _) (Nat.le_refl _))) 21 #[.agg #[.string m.name, .int .i64 m.stage, .slice m.A m.x.length m.c]] (by intro w; go_simp) (by intro w1 hw1 hd; (refine (toMethod_any m w1 ((Hm.out.below (Bw3.out.trans (hw1.below.mono Bw3.out.size)) (Nat.le_refl _)).more (Nat.le_trans Bw3.out.size hw1.below.size)) (by omega)).mono ?_; rintro e w2 ⟨A, g, rfl, hg1, hg2, ho, hb⟩; exact ⟨_, rfl, hw1.step hb, eff_of_below hb, A, rfl, ho.mono hg1 hg2⟩)) ?_)
  (intro u_w00 lo_w00 hi_w00 hsat; obtain ⟨w1, hw1⟩ := hsat; have hr : ∃ A, u_w00 = .agg #[.string m.name, .int .i64 m.stage, .slice A m.x.length m.x.length] ∧ OwnL w1 lo_w00 hi_w00 A 1 encString m.x := (hw1.rec rfl 1).2.2; obtain ⟨A_w00, rfl, _⟩ := hr; clear hw1; simp only [Act.put, List.setIfInBounds_toArray, List.set_cons_zero, List.set_cons_succ, Nat.reduceAdd])
  (refine wpG_quiets 1 _ _ _ _ (by first | exact cls_none rfl | exact fun w h => h.1) (by intro j hj; rcases j with _ | _ | _ | _ | _ | _ | _ | _ | _ | _ | j <;> first | exact ⟨rfl, ⟨_, rfl, rfl⟩, rfl⟩ | (exfalso; omega)) ?_; simp only [List.take_succ_cons, List.take_zero, List.drop_succ_cons, List.drop_zero, Nat.zero_add, Nat.reduceAdd]; change wpQuiet _ _ (fun wq9 => ∃ x : Later w3, wq9 = x.W) _ _ _; (repeat (go_big_quiet_step (fail))); refine wpQuiet_nil ?_; try dsimp only)
  (refine wpG_call _ rfl rfl rfl rfl (fun u lo hi => loc_pure _) 22 #[.agg #[.string b, .string s]] (by intro w; go_simp) (by intro w1 hw1 hd; (refine (toCalls_any b s w1).mono ?_; rintro e w2 ⟨rfl, hb⟩; exact ⟨_, rfl, hw1.step hb, eff_of_below hb, rfl⟩)) ?_)
  (intro u_w01 lo_w01 hi_w01 hsat; obtain ⟨w1, hw1⟩ := hsat; have hr : u_w01 = .agg #[.string b, .string s] := (hw1.rec rfl 3).2.2; obtain rfl := hr; clear hw1; simp only [Act.put, List.setIfInBounds_toArray, List.set_cons_zero, List.set_cons_succ, Nat.reduceAdd])
  (refine wpG_quiets 1 _ _ _ _ (by first | exact cls_none rfl | exact fun w h => h.1) (by intro j hj; rcases j with _ | _ | _ | _ | _ | _ | _ | _ | _ | _ | j <;> first | exact ⟨rfl, ⟨_, rfl, rfl⟩, rfl⟩ | (exfalso; omega)) ?_; simp only [List.take_succ_cons, List.take_zero, List.drop_succ_cons, List.drop_zero, Nat.zero_add, Nat.reduceAdd]; change wpQuiet _ _ (fun wq9 => ∃ x : Later w3, wq9 = x.W) _ _ _; (repeat (go_big_quiet_step (fail))); refine wpQuiet_nil ?_; try dsimp only)
  (refine wpG_call _ rfl rfl rfl rfl (fun u lo hi => loc_ex fun A => loc_and (loc_pure _) (loc_own (Nat.le_refl _) (Nat.le_refl _))) 23 #[.slice Al l.length cl] (by intro w; go_simp) (by intro w1 hw1 hd; (refine (toSpokenS_any l Al cl w1 ((Hrl.out.below (Bw3.out.trans (hw1.below.mono Bw3.out.size)) (Nat.le_refl _)).more (Nat.le_trans Bw3.out.size hw1.below.size)) (by omega)).mono ?_; rintro e w2 ⟨A, rfl, ho, hb⟩; exact ⟨_, rfl, hw1.step hb, eff_of_below hb, A, rfl, ho⟩)) ?_)
  (intro u_w02 lo_w02 hi_w02 hsat; obtain ⟨w1, hw1⟩ := hsat; have hr : ∃ A, u_w02 = .slice A l.length l.length ∧ OwnL w1 lo_w02 hi_w02 A 2 Spk.enc l := (hw1.rec rfl 5).2.2; obtain ⟨A_w02, rfl, _⟩ := hr; clear hw1; simp only [Act.put, List.setIfInBounds_toArray, List.set_cons_zero, List.set_cons_succ, Nat.reduceAdd])
  (refine wpG_call _ rfl rfl rfl rfl (fun u lo hi => loc_ex fun A => loc_ex fun c => loc_and (loc_pure _) (loc_own (Nat.le_refl _) (Nat.le_refl _))) 20 #[.agg #[.string m.name, .int .i64 m.stage, .slice A_w00 m.x.length m.x.length], .agg #[.string b, .string s], .slice A_w02 l.length l.length] (by intro w; go_simp) (by intro w1 hw1 hd; (have hd0 : ∃ A, (.agg #[.string m.name, .int .i64 m.stage, .slice A_w00 m.x.length m.x.length] : Value) = .agg #[.string m.name, .int .i64 m.stage, .slice A m.x.length m.x.length] ∧ OwnL w1 lo_w00 hi_w00 A 1 encString m.x := (hd 1 (gDep_mem (by kernel_rfl))).2; obtain ⟨Az, he0, ho0A⟩ := hd0; obtain rfl : A_w00 = Az := (by simpa using he0); have hd2 : ∃ A, (.slice A_w02 l.length l.length : Value) = .slice A l.length l.length ∧ OwnL w1 lo_w02 hi_w02 A 2 Spk.enc l := (hd 5 (gDep_mem (by kernel_rfl))).2; obtain ⟨Az, he2, ho2A⟩ := hd2; obtain rfl : A_w02 = Az := (by simpa using he2); refine (rs_of hD.out rfl (sRowsSaid_any ⟨m.name, m.stage, m.x, A_w00, m.x.length⟩ b s l A_w02 l.length w1 ⟨(ho0A.rd encString_len), by simp only; omega, by simp only; omega, Hmm.out, by omega, by omega, Nat.le_refl _⟩ (ho2A.rd Spk_enc_len) (by omega))).mono ?_; rintro e w2 ⟨A, c, rfl, ho, hb⟩; exact ⟨_, rfl, hw1.step hb, eff_of_below hb, A, c, rfl, ho⟩)) ?_)
  (intro u_w0 lo_w0 hi_w0 hsat; obtain ⟨w1, hw1⟩ := hsat; have hr : ∃ A c, u_w0 = .tuple #[.slice A (dd).length c, .bool ok] ∧ OwnL w1 lo_w0 hi_w0 A 1 encString dd := (hw1.rec rfl 6).2.2; obtain ⟨A1_w0, c1_w0, rfl, _⟩ := hr; clear hw1; simp only [Act.put, List.setIfInBounds_toArray, List.set_cons_zero, List.set_cons_succ, Nat.reduceAdd])
  (refine wpG_quiets 5 _ _ _ _ (by first | exact cls_none rfl | exact fun w h => h.1) (by intro j hj; rcases j with _ | _ | _ | _ | _ | _ | _ | _ | _ | _ | j <;> first | exact ⟨rfl, ⟨_, rfl, rfl⟩, rfl⟩ | (exfalso; omega)) ?_; simp only [List.take_succ_cons, List.take_zero, List.drop_succ_cons, List.drop_zero, Nat.zero_add, Nat.reduceAdd]; change wpQuiet _ _ (fun wq9 => ∃ x : Later w3, wq9 = x.W) _ _ _; (repeat (go_big_quiet_step (fail))); refine wpQuiet_nil ?_; try dsimp only)
  intro w4 hh
  have hb := (hh.cls rfl).below
  obtain ⟨Az, cz, hez, hoz⟩ : ∃ A c, Value.tuple #[.slice A1_w0 (dd).length c1_w0, .bool ok] = .tuple #[.slice A (dd).length c, .bool ok] ∧ OwnL w4 lo_w0 hi_w0 A 1 encString dd := (hh.rec rfl 6).2.2
  obtain ⟨rfl, rfl⟩ : A1_w0 = Az ∧ c1_w0 = cz := by simpa using hez
  obtain ⟨hl1_w0, hl2_w0, hl3_w0⟩ : w3.heap.size ≤ lo_w0 ∧ lo_w0 ≤ hi_w0 ∧ hi_w0 ≤ w4.heap.size := hh.rng rfl 6 rfl
  have hv1 := Lib.hid hoz
  clear hoz hez hh l_aM_0 l_aM_1 l_aM_2 l_aK_0 l_aK_1
  have C4 := Lib.hid hb
  clear hb
  have t4 := C4.out.size
  have Bw4 := Lib.hid (Bw3.out.trans (C4.out.mono Bw3.out.size))
  have HB_aM_4 := Lib.hid (HB_aM_3.out.later C4.out)
  clear HB_aM_3
  have HB_aK_4 := Lib.hid (HB_aK_3.out.later C4.out)
  clear HB_aK_3
  have O_w0_4 := hv1
  clear hv1
  have s_aM_0 : w4.cell? ⟨w.heap.size, 0, none⟩ = some (.string m.name) := HB_aM_4.out.cell (i := 0) (by omega)
  have s_aM_1 : w4.cell? ⟨w.heap.size, 1, none⟩ = some (.int .i64 m.stage) := HB_aM_4.out.cell (i := 1) (by omega)
  have s_aM_2 : w4.cell? ⟨w.heap.size, 2, none⟩ = some (.slice m.A m.x.length m.c) := HB_aM_4.out.cell (i := 2) (by omega)
  go_wp2_with fail
  refine (toMethod_any m _ ((Hm.out.below Bw4.out (Nat.le_refl _)).more Bw4.out.size) (by omega)).mono ?_
  rintro e w5 ⟨Ax0, gx0, rfl, hg1x0, hg2x0, ho, hb⟩
  clear s_aM_0 s_aM_1 s_aM_2
  have C5 := Lib.hid hb
  clear hb
  have t5 := C5.out.size
  have Bw5 := Lib.hid (Bw4.out.trans (C5.out.mono Bw4.out.size))
  have HB_aM_5 := Lib.hid (HB_aM_4.out.later C5.out)
  clear HB_aM_4
  have HB_aK_5 := Lib.hid (HB_aK_4.out.later C5.out)
  clear HB_aK_4
  have O_w0_5 := Lib.hid (O_w0_4.out.later C5.out)
  clear O_w0_4
  have O_x0_a_5 := Lib.hid ho
  clear ho
  go_wp2_with fail
  have hWx : ∃ W : World, Hid ((w5.alloc (.cells #[.string m.name, .int .i64 m.stage, .slice Ax0 m.x.length m.x.length] 54)) = W) ∧ Hid (Below w5.heap.size w5 W) ∧ Hid (Cells W w5.heap.size 3 (fun i => (#[Value.string m.name, .int .i64 m.stage, .slice Ax0 m.x.length m.x.length] : Array Value).getD i undef)) := ⟨_, Lib.hid rfl, Lib.hid ((Below.refl _ _).alloc (Nat.le_refl _) _), Lib.hid (Cells.newD _ #[.string m.name, .int .i64 m.stage, .slice Ax0 m.x.length m.x.length] _)⟩
  obtain ⟨w6, hWe, hb', hbx⟩ := hWx
  rw [hWe.out]
  clear hWe
  have hb := hb'.out
  clear hb'
  have txx0 : w5.heap.size + 1 ≤ w6.heap.size := hbx.out.lt
  have C6 := Lib.hid hb
  clear hb
  have t6 := C6.out.size
  have Bw6 := Lib.hid (Bw5.out.trans (C6.out.mono Bw5.out.size))
  have HB_aM_6 := Lib.hid (HB_aM_5.out.later C6.out)
  clear HB_aM_5
  have HB_aK_6 := Lib.hid (HB_aK_5.out.later C6.out)
  clear HB_aK_5
  have O_w0_6 := Lib.hid (O_w0_5.out.later C6.out)
  clear O_w0_5
  have O_x0_a_6 := Lib.hid (O_x0_a_5.out.later C6.out)
  clear O_x0_a_5
  have HB_x0_6 := hbx
  clear hbx
  go_wp2_with fail
  refine (toSpokenS_any l Al cl _ ((Hrl.out.below Bw6.out (Nat.le_refl _)).more Bw6.out.size) (by omega)).mono ?_
  rintro e w7 ⟨Ax2, rfl, ho, hb⟩
  have C7 := Lib.hid hb
  clear hb
  have t7 := C7.out.size
  have Bw7 := Lib.hid (Bw6.out.trans (C7.out.mono Bw6.out.size))
  have HB_aM_7 := Lib.hid (HB_aM_6.out.later C7.out)
  clear HB_aM_6
  have HB_aK_7 := Lib.hid (HB_aK_6.out.later C7.out)
  clear HB_aK_6
  have HB_x0_7 := Lib.hid (HB_x0_6.out.later C7.out)
  clear HB_x0_6
  have O_w0_7 := Lib.hid (O_w0_6.out.later C7.out)
  clear O_w0_6
  have O_x0_a_7 := Lib.hid (O_x0_a_6.out.later C7.out)
  clear O_x0_a_6
  have O_x2_7 := Lib.hid ho
  clear ho
  have s_x0_0 : w7.cell? ⟨w5.heap.size, 0, none⟩ = some (.string m.name) := HB_x0_7.out.cell (i := 0) (by omega)
  have s_x0_1 : w7.cell? ⟨w5.heap.size, 1, none⟩ = some (.int .i64 m.stage) := HB_x0_7.out.cell (i := 1) (by omega)
  have s_x0_2 : w7.cell? ⟨w5.heap.size, 2, none⟩ = some (.slice Ax0 m.x.length m.x.length) := HB_x0_7.out.cell (i := 2) (by omega)
  have s_aK_0 : w7.cell? ⟨w.heap.size + 1, 0, none⟩ = some (.string b) := HB_aK_7.out.cell (i := 0) (by omega)
  have s_aK_1 : w7.cell? ⟨w.heap.size + 1, 1, none⟩ = some (.string s) := HB_aK_7.out.cell (i := 1) (by omega)
  have l_x0_0 := Later.cell s_x0_0 (show w5.heap.size < w7.heap.size by omega)
  have l_x0_1 := Later.cell s_x0_1 (show w5.heap.size < w7.heap.size by omega)
  have l_x0_2 := Later.cell s_x0_2 (show w5.heap.size < w7.heap.size by omega)
  have l_aK_0 := Later.cell s_aK_0 (show w.heap.size + 1 < w7.heap.size by omega)
  have l_aK_1 := Later.cell s_aK_1 (show w.heap.size + 1 < w7.heap.size by omega)
  clear s_x0_0 s_x0_1 s_x0_2 s_aK_0 s_aK_1
  go_wp2_with fail
  refine wp_region_G (by kernel_rfl) [.q, .q, .s (fun _ u lo hi w' => u = .agg #[.string b, .string s]), .q, .s (fun _ u lo hi w' => ∃ A c, u = .tuple #[.slice A (dd).length c, .bool ok] ∧ OwnL w' lo hi A 1 encString dd), .q, .q, .q, .q, .q] [0, 0, 1, 0, 1, 0, 0, 0, 0, 0] rfl 3 (by kernel_rfl) (inC w7) (w7).heap.size (inC.size w7) (inC.of (Below.refl _ _).drew) ?_
  (refine wpG_quiets 2 _ _ _ _ (by first | exact cls_none rfl | exact fun w h => h.1) (by intro j hj; rcases j with _ | _ | _ | _ | _ | _ | _ | _ | _ | _ | j <;> first | exact ⟨rfl, ⟨_, rfl, rfl⟩, rfl⟩ | (exfalso; omega)) ?_; simp only [List.take_succ_cons, List.take_zero, List.drop_succ_cons, List.drop_zero, Nat.zero_add, Nat.reduceAdd]; change wpQuiet _ _ (fun wq9 => ∃ x : Later w7, wq9 = x.W) _ _ _; (repeat (go_big_quiet_step (fail))); refine wpQuiet_nil ?_; try dsimp only)
  (refine wpG_call _ rfl rfl rfl rfl (fun u lo hi => loc_pure _) 22 #[.agg #[.string b, .string s]] (by intro w; go_simp) (by intro w1 hw1 hd; (refine (toCalls_any b s w1).mono ?_; rintro e w2 ⟨rfl, hb⟩; exact ⟨_, rfl, hw1.step hb, eff_of_below hb, rfl⟩)) ?_)
  (intro u_g01 lo_g01 hi_g01 hsat; obtain ⟨w1, hw1⟩ := hsat; have hr : u_g01 = .agg #[.string b, .string s] := (hw1.rec rfl 2).2.2; obtain rfl := hr; clear hw1; simp only [Act.put, List.setIfInBounds_toArray, List.set_cons_zero, List.set_cons_succ, Nat.reduceAdd])
  (refine wpG_quiets 1 _ _ _ _ (by first | exact cls_none rfl | exact fun w h => h.1) (by intro j hj; rcases j with _ | _ | _ | _ | _ | _ | _ | _ | _ | _ | j <;> first | exact ⟨rfl, ⟨_, rfl, rfl⟩, rfl⟩ | (exfalso; omega)) ?_; simp only [List.take_succ_cons, List.take_zero, List.drop_succ_cons, List.drop_zero, Nat.zero_add, Nat.reduceAdd]; change wpQuiet _ _ (fun wq9 => ∃ x : Later w7, wq9 = x.W) _ _ _; (repeat (go_big_quiet_step (fail))); refine wpQuiet_nil ?_; try dsimp only)
  (refine wpG_call _ rfl rfl rfl rfl (fun u lo hi => loc_ex fun A => loc_ex fun c => loc_and (loc_pure _) (loc_own (Nat.le_refl _) (Nat.le_refl _))) 24 #[.agg #[.string m.name, .int .i64 m.stage, .slice Ax0 m.x.length m.x.length], .agg #[.string b, .string s], .slice Ax2 l.length l.length] (by intro w; go_simp) (by intro w1 hw1 hd; (refine (rs_of hD.out rfl (iRowsSaid_any ⟨m.name, m.stage, m.x, Ax0, m.x.length⟩ b s l Ax2 l.length w1 ⟨((O_x0_a_7.out.later hw1.below).rd encString_len), by simp only; omega, by simp only; omega, Hmm.out, by omega, by omega, Nat.le_refl _⟩ ((O_x2_7.out.later hw1.below).rd Spk_enc_len) (by omega) (Nat.le_refl _))).mono ?_; rintro e w2 ⟨A, c, rfl, ho, hb⟩; exact ⟨_, rfl, hw1.step hb, eff_of_below hb, A, c, rfl, ho⟩)) ?_)
  (intro u_g0 lo_g0 hi_g0 hsat; obtain ⟨w1, hw1⟩ := hsat; have hr : ∃ A c, u_g0 = .tuple #[.slice A (dd).length c, .bool ok] ∧ OwnL w1 lo_g0 hi_g0 A 1 encString dd := (hw1.rec rfl 4).2.2; obtain ⟨A1_g0, c1_g0, rfl, _⟩ := hr; clear hw1; simp only [Act.put, List.setIfInBounds_toArray, List.set_cons_zero, List.set_cons_succ, Nat.reduceAdd])
  (refine wpG_quiets 5 _ _ _ _ (by first | exact cls_none rfl | exact fun w h => h.1) (by intro j hj; rcases j with _ | _ | _ | _ | _ | _ | _ | _ | _ | _ | j <;> first | exact ⟨rfl, ⟨_, rfl, rfl⟩, rfl⟩ | (exfalso; omega)) ?_; simp only [List.take_succ_cons, List.take_zero, List.drop_succ_cons, List.drop_zero, Nat.zero_add, Nat.reduceAdd]; change wpQuiet _ _ (fun wq9 => ∃ x : Later w7, wq9 = x.W) _ _ _; (repeat (go_big_quiet_step (fail))); refine wpQuiet_nil ?_; try dsimp only)
  intro w8 hh
  have hb := (hh.cls rfl).below
  obtain ⟨Az, cz, hez, hoz⟩ : ∃ A c, Value.tuple #[.slice A1_g0 (dd).length c1_g0, .bool ok] = .tuple #[.slice A (dd).length c, .bool ok] ∧ OwnL w8 lo_g0 hi_g0 A 1 encString dd := (hh.rec rfl 4).2.2
  obtain ⟨rfl, rfl⟩ : A1_g0 = Az ∧ c1_g0 = cz := by simpa using hez
  obtain ⟨hl1_g0, hl2_g0, hl3_g0⟩ : w7.heap.size ≤ lo_g0 ∧ lo_g0 ≤ hi_g0 ∧ hi_g0 ≤ w8.heap.size := hh.rng rfl 4 rfl
  have hv1 := Lib.hid hoz
  clear hoz hez hh l_x0_0 l_x0_1 l_x0_2 l_aK_0 l_aK_1
  have C8 := Lib.hid hb
  clear hb
  have t8 := C8.out.size
  have Bw8 := Lib.hid (Bw7.out.trans (C8.out.mono Bw7.out.size))
  have HB_aM_8 := Lib.hid (HB_aM_7.out.later C8.out)
  clear HB_aM_7
  have HB_aK_8 := Lib.hid (HB_aK_7.out.later C8.out)
  clear HB_aK_7
  have HB_x0_8 := Lib.hid (HB_x0_7.out.later C8.out)
  clear HB_x0_7
  have O_w0_8 := Lib.hid (O_w0_7.out.later C8.out)
  clear O_w0_7
  have O_x0_a_8 := Lib.hid (O_x0_a_7.out.later C8.out)
  clear O_x0_a_7
  have O_x2_8 := Lib.hid (O_x2_7.out.later C8.out)
  clear O_x2_7
  have O_g0_8 := hv1
  clear hv1
  go_wp2_with fail
  refine (eqStringS_t dd A1_g0 A1_w0 c1_g0 c1_w0 _ (O_g0_8.out.rd encString_len) (O_w0_8.out.rd encString_len) (by omega)).mono ?_
  rintro e w9 ⟨rfl, hb⟩
  have C9 := Lib.hid hb
  clear hb
  have t9 := C9.out.size
  have Bw9 := Lib.hid (Bw8.out.trans (C9.out.mono Bw8.out.size))
  have HB_aM_9 := Lib.hid (HB_aM_8.out.later C9.out)
  clear HB_aM_8
  have HB_aK_9 := Lib.hid (HB_aK_8.out.later C9.out)
  clear HB_aK_8
  have HB_x0_9 := Lib.hid (HB_x0_8.out.later C9.out)
  clear HB_x0_8
  have O_w0_9 := Lib.hid (O_w0_8.out.later C9.out)
  clear O_w0_8
  have O_x0_a_9 := Lib.hid (O_x0_a_8.out.later C9.out)
  clear O_x0_a_8
  have O_x2_9 := Lib.hid (O_x2_8.out.later C9.out)
  clear O_x2_8
  have O_g0_9 := Lib.hid (O_g0_8.out.later C9.out)
  clear O_g0_8
  have s_x0_0 : w9.cell? ⟨w5.heap.size, 0, none⟩ = some (.string m.name) := HB_x0_9.out.cell (i := 0) (by omega)
  have s_x0_1 : w9.cell? ⟨w5.heap.size, 1, none⟩ = some (.int .i64 m.stage) := HB_x0_9.out.cell (i := 1) (by omega)
  have s_x0_2 : w9.cell? ⟨w5.heap.size, 2, none⟩ = some (.slice Ax0 m.x.length m.x.length) := HB_x0_9.out.cell (i := 2) (by omega)
  have s_aM_0 : w9.cell? ⟨w.heap.size, 0, none⟩ = some (.string m.name) := HB_aM_9.out.cell (i := 0) (by omega)
  have s_aM_1 : w9.cell? ⟨w.heap.size, 1, none⟩ = some (.int .i64 m.stage) := HB_aM_9.out.cell (i := 1) (by omega)
  have s_aM_2 : w9.cell? ⟨w.heap.size, 2, none⟩ = some (.slice m.A m.x.length m.c) := HB_aM_9.out.cell (i := 2) (by omega)
  have l_x0_0 := Later.cell s_x0_0 (show w5.heap.size < w9.heap.size by omega)
  have l_x0_1 := Later.cell s_x0_1 (show w5.heap.size < w9.heap.size by omega)
  have l_x0_2 := Later.cell s_x0_2 (show w5.heap.size < w9.heap.size by omega)
  have l_aM_0 := Later.cell s_aM_0 (show w.heap.size < w9.heap.size by omega)
  have l_aM_1 := Later.cell s_aM_1 (show w.heap.size < w9.heap.size by omega)
  have l_aM_2 := Later.cell s_aM_2 (show w.heap.size < w9.heap.size by omega)
  clear s_x0_0 s_x0_1 s_x0_2 s_aM_0 s_aM_1 s_aM_2
  go_wp2_with fail
  refine wp_region_G (by kernel_rfl) [.q, .q, .s (fun _ u lo hi w' => ∃ A, u = .agg #[.string m.name, .int .i64 m.stage, .slice A m.x.length m.x.length] ∧ OwnL w' lo hi A 1 encString m.x), .s (fun _ u lo hi w' => u = .bool true), .q] [0, 0, 1, 1, 0] rfl 3 (by kernel_rfl) (inC w9) (w9).heap.size (inC.size w9) (inC.of (Below.refl _ _).drew) ?_
  (refine wpG_quiets 2 _ _ _ _ (by first | exact cls_none rfl | exact fun w h => h.1) (by intro j hj; rcases j with _ | _ | _ | _ | _ | _ | _ | _ | _ | _ | j <;> first | exact ⟨rfl, ⟨_, rfl, rfl⟩, rfl⟩ | (exfalso; omega)) ?_; simp only [List.take_succ_cons, List.take_zero, List.drop_succ_cons, List.drop_zero, Nat.zero_add, Nat.reduceAdd]; change wpQuiet _ _ (fun wq9 => ∃ x : Later w9, wq9 = x.W) _ _ _; (repeat (go_big_quiet_step (fail))); refine wpQuiet_nil ?_; try dsimp only)
  (refine wpG_call _ rfl rfl rfl rfl (fun u lo hi => loc_ex fun A => loc_and (loc_pure _) (loc_own (Nat.le_refl _) (Nat.le_refl _))) 21 #[.agg #[.string m.name, .int .i64 m.stage, .slice m.A m.x.length m.c]] (by intro w; go_simp) (by intro w1 hw1 hd; (refine (toMethod_any m w1 ((Hm.out.below (Bw9.out.trans (hw1.below.mono Bw9.out.size)) (Nat.le_refl _)).more (Nat.le_trans Bw9.out.size hw1.below.size)) (by omega)).mono ?_; rintro e w2 ⟨A, g, rfl, hg1, hg2, ho, hb⟩; exact ⟨_, rfl, hw1.step hb, eff_of_below hb, A, rfl, ho.mono hg1 hg2⟩)) ?_)
  (intro u_e8 lo_e8 hi_e8 hsat; obtain ⟨w1, hw1⟩ := hsat; have hr : ∃ A, u_e8 = .agg #[.string m.name, .int .i64 m.stage, .slice A m.x.length m.x.length] ∧ OwnL w1 lo_e8 hi_e8 A 1 encString m.x := (hw1.rec rfl 2).2.2; obtain ⟨A_e8, rfl, _⟩ := hr; clear hw1; simp only [Act.put, List.setIfInBounds_toArray, List.set_cons_zero, List.set_cons_succ, Nat.reduceAdd])
  (refine wpG_call _ rfl rfl rfl rfl (fun u lo hi => loc_pure _) 26 #[.agg #[.string m.name, .int .i64 m.stage, .slice Ax0 m.x.length m.x.length], .agg #[.string m.name, .int .i64 m.stage, .slice A_e8 m.x.length m.x.length]] (by intro w; go_simp) (by intro w1 hw1 hd; (have hdz : ∃ A, (.agg #[.string m.name, .int .i64 m.stage, .slice A_e8 m.x.length m.x.length] : Value) = .agg #[.string m.name, .int .i64 m.stage, .slice A m.x.length m.x.length] ∧ OwnL w1 lo_e8 hi_e8 A 1 encString m.x := (hd 2 (gDep_mem (by kernel_rfl))).2; obtain ⟨Az, hez, hozA⟩ := hdz; obtain rfl : A_e8 = Az := (by simpa using hez); refine (eqMethod_t ⟨m.name, m.stage, m.x, Ax0, m.x.length⟩ A_e8 m.x.length w1 ((O_x0_a_9.out.later hw1.below).rd encString_len) (hozA.rd encString_len) (by simp only; omega)).mono ?_; rintro e w2 ⟨rfl, hb⟩; exact ⟨_, rfl, hw1.step hb, eff_of_below hb, rfl⟩)) ?_)
  (intro ueq loeq hieq hsat; obtain ⟨w1, hw1⟩ := hsat; have hr : ueq = .bool true := (hw1.rec rfl 3).2.2; obtain rfl := hr; clear hw1; simp only [Act.put, List.setIfInBounds_toArray, List.set_cons_zero, List.set_cons_succ, Nat.reduceAdd])
  (refine wpG_quiets 1 _ _ _ _ (by first | exact cls_none rfl | exact fun w h => h.1) (by intro j hj; rcases j with _ | _ | _ | _ | _ | _ | _ | _ | _ | _ | j <;> first | exact ⟨rfl, ⟨_, rfl, rfl⟩, rfl⟩ | (exfalso; omega)) ?_; simp only [List.take_succ_cons, List.take_zero, List.drop_succ_cons, List.drop_zero, Nat.zero_add, Nat.reduceAdd]; change wpQuiet _ _ (fun wq9 => ∃ x : Later w9, wq9 = x.W) _ _ _; (repeat (go_big_quiet_step (fail))); refine wpQuiet_nil ?_; try dsimp only)
  intro w10 hh
  have hb := (hh.cls rfl).below
  clear hh l_x0_0 l_x0_1 l_x0_2 l_aM_0 l_aM_1 l_aM_2
  have C10 := Lib.hid hb
  clear hb
  have t10 := C10.out.size
  have Bw10 := Lib.hid (Bw9.out.trans (C10.out.mono Bw9.out.size))
  have HB_aM_10 := Lib.hid (HB_aM_9.out.later C10.out)
  clear HB_aM_9
  have HB_aK_10 := Lib.hid (HB_aK_9.out.later C10.out)
  clear HB_aK_9
  have HB_x0_10 := Lib.hid (HB_x0_9.out.later C10.out)
  clear HB_x0_9
  have O_w0_10 := Lib.hid (O_w0_9.out.later C10.out)
  clear O_w0_9
  have O_x0_a_10 := Lib.hid (O_x0_a_9.out.later C10.out)
  clear O_x0_a_9
  have O_x2_10 := Lib.hid (O_x2_9.out.later C10.out)
  clear O_x2_9
  have O_g0_10 := Lib.hid (O_g0_9.out.later C10.out)
  clear O_g0_9
  go_wp2_with fail
  refine (toSpokenS_any l Al cl _ ((Hrl.out.below Bw10.out (Nat.le_refl _)).more Bw10.out.size) (by omega)).mono ?_
  rintro e w11 ⟨Aq9, rfl, ho, hb⟩
  have C11 := Lib.hid hb
  clear hb
  have t11 := C11.out.size
  have Bw11 := Lib.hid (Bw10.out.trans (C11.out.mono Bw10.out.size))
  have HB_aM_11 := Lib.hid (HB_aM_10.out.later C11.out)
  clear HB_aM_10
  have HB_aK_11 := Lib.hid (HB_aK_10.out.later C11.out)
  clear HB_aK_10
  have HB_x0_11 := Lib.hid (HB_x0_10.out.later C11.out)
  clear HB_x0_10
  have O_w0_11 := Lib.hid (O_w0_10.out.later C11.out)
  clear O_w0_10
  have O_x0_a_11 := Lib.hid (O_x0_a_10.out.later C11.out)
  clear O_x0_a_10
  have O_x2_11 := Lib.hid (O_x2_10.out.later C11.out)
  clear O_x2_10
  have O_g0_11 := Lib.hid (O_g0_10.out.later C11.out)
  clear O_g0_10
  have Oq := Lib.hid ho
  clear ho
  go_wp2_with fail
  refine (eqSpokenS_t l Ax2 Aq9 l.length l.length _ (O_x2_11.out.rd Spk_enc_len) (Oq.out.rd Spk_enc_len) (by omega)).mono ?_
  rintro e w12 ⟨rfl, hb⟩
  clear Oq
  have C12 := Lib.hid hb
  clear hb
  have t12 := C12.out.size
  have Bw12 := Lib.hid (Bw11.out.trans (C12.out.mono Bw11.out.size))
  have HB_aM_12 := Lib.hid (HB_aM_11.out.later C12.out)
  clear HB_aM_11
  have HB_aK_12 := Lib.hid (HB_aK_11.out.later C12.out)
  clear HB_aK_11
  have HB_x0_12 := Lib.hid (HB_x0_11.out.later C12.out)
  clear HB_x0_11
  have O_w0_12 := Lib.hid (O_w0_11.out.later C12.out)
  clear O_w0_11
  have O_x0_a_12 := Lib.hid (O_x0_a_11.out.later C12.out)
  clear O_x0_a_11
  have O_x2_12 := Lib.hid (O_x2_11.out.later C12.out)
  clear O_x2_11
  have O_g0_12 := Lib.hid (O_g0_11.out.later C12.out)
  clear O_g0_11
  have s_x0_0 : w12.cell? ⟨w5.heap.size, 0, none⟩ = some (.string m.name) := HB_x0_12.out.cell (i := 0) (by omega)
  have s_x0_1 : w12.cell? ⟨w5.heap.size, 1, none⟩ = some (.int .i64 m.stage) := HB_x0_12.out.cell (i := 1) (by omega)
  have s_x0_2 : w12.cell? ⟨w5.heap.size, 2, none⟩ = some (.slice Ax0 m.x.length m.x.length) := HB_x0_12.out.cell (i := 2) (by omega)
  go_wp2_with fail
  refine (markMethod_any ⟨m.name, m.stage, m.x, Ax0, m.x.length⟩ gx0 (gx0 + 1) 1 _ O_x0_a_12.out (by omega) (by simp only; omega) (by omega) (by omega)).mono ?_
  rintro e w13 ⟨he, hc⟩
  clear s_x0_0 s_x0_1 s_x0_2
  obtain ⟨q13, hq⟩ : ∃ q : Nat, q = 1 + m.x.length := ⟨_, rfl⟩
  have he2 : e = .returned (.int .i64 (q13 : Int)) := by rw [hq]; exact he
  subst he2
  clear he
  have Hq13 := Lib.hid hq
  obtain ⟨qa13, qb13⟩ : 0 < q13 ∧ q13 ≤ 10000001 := by omega
  clear hq
  have C13 := Lib.hid hc
  clear hc
  have t13 := C13.out.size
  have Bw13 := Lib.hid (Below.chg Bw12.out C13.out (by omega) Bw12.out.size)
  have HB_aM_13 := Lib.hid (HB_aM_12.out.chg C13.out (by omega))
  clear HB_aM_12
  have HB_aK_13 := Lib.hid (HB_aK_12.out.chg C13.out (by omega))
  clear HB_aK_12
  have O_w0_13 := Lib.hid (O_w0_12.out.chg C13.out (by omega))
  clear O_w0_12
  have O_x2_13 := Lib.hid (O_x2_12.out.chg C13.out (by omega))
  clear O_x2_12
  have O_g0_13 := Lib.hid (O_g0_12.out.chg C13.out (by omega))
  clear O_g0_12
  clear O_x0_a_12
  clear HB_x0_12
  go_wp2_with fail
  refine (markSpokenS_any l w6.heap.size w7.heap.size Ax2 l.length q13 _ O_x2_13.out (by omega) (by omega) (by omega)).mono ?_
  rintro e w14 ⟨he, ho, hc⟩
  obtain ⟨q14, hq⟩ : ∃ q : Nat, q = q13 + l.length * 2 := ⟨_, rfl⟩
  have he2 : e = .returned (.int .i64 (q14 : Int)) := by rw [hq]; exact he
  subst he2
  clear he
  have Hq14 := Lib.hid hq
  obtain ⟨qa14, qb14⟩ : 0 < q14 ∧ q14 ≤ 20000001 := by omega
  clear hq
  have C14 := Lib.hid hc
  clear hc
  have t14 := C14.out.size
  have Bw14 := Lib.hid (Below.chg Bw13.out C14.out (by omega) Bw13.out.size)
  have HB_aM_14 := Lib.hid (HB_aM_13.out.chg C14.out (by omega))
  clear HB_aM_13
  have HB_aK_14 := Lib.hid (HB_aK_13.out.chg C14.out (by omega))
  clear HB_aK_13
  have O_w0_14 := Lib.hid (O_w0_13.out.chg C14.out (by omega))
  clear O_w0_13
  have O_g0_14 := Lib.hid (O_g0_13.out.chg C14.out (by omega))
  clear O_g0_13
  clear O_x2_13
  clear ho
  go_wp2_with fail
  refine (eqStringS_t dd A1_g0 A1_w0 c1_g0 c1_w0 _ (O_g0_14.out.rd encString_len) (O_w0_14.out.rd encString_len) (by omega)).mono ?_
  rintro e w15 ⟨rfl, hb⟩
  have C15 := Lib.hid hb
  clear hb
  have t15 := C15.out.size
  have Bw15 := Lib.hid (Bw14.out.trans (C15.out.mono Bw14.out.size))
  have HB_aM_15 := Lib.hid (HB_aM_14.out.later C15.out)
  clear HB_aM_14
  have HB_aK_15 := Lib.hid (HB_aK_14.out.later C15.out)
  clear HB_aK_14
  have O_w0_15 := Lib.hid (O_w0_14.out.later C15.out)
  clear O_w0_14
  have O_g0_15 := Lib.hid (O_g0_14.out.later C15.out)
  clear O_g0_14
  go_wp2_with fail
  refine (markStringS_any dd lo_g0 hi_g0 A1_g0 c1_g0 1 _ O_g0_15.out (by omega) (by omega) (by omega)).mono ?_
  rintro e w16 ⟨he, ho, hc⟩
  obtain ⟨q16, hq⟩ : ∃ q : Nat, q = 1 + (dd).length * 1 := ⟨_, rfl⟩
  have he2 : e = .returned (.int .i64 (q16 : Int)) := by rw [hq]; exact he
  subst he2
  clear he
  have Hq16 := Lib.hid hq
  obtain ⟨qa16, qb16⟩ : 0 < q16 ∧ q16 ≤ 10000001 := by omega
  clear hq
  have C16 := Lib.hid hc
  clear hc
  have t16 := C16.out.size
  have Bw16 := Lib.hid (Below.chg Bw15.out C16.out (by omega) Bw15.out.size)
  have HB_aM_16 := Lib.hid (HB_aM_15.out.chg C16.out (by omega))
  clear HB_aM_15
  have HB_aK_16 := Lib.hid (HB_aK_15.out.chg C16.out (by omega))
  clear HB_aK_15
  have O_w0_16 := Lib.hid (O_w0_15.out.chg C16.out (by omega))
  clear O_w0_15
  have O_g0_16 := Lib.hid ho
  clear ho O_g0_15
  go_wp2_with fail
  refine (heldStringS_any (dd).length A1_g0 c1_g0 1 _ (O_g0_16.out.rd encString_len) (by omega) (by omega) (by omega)).mono ?_
  rintro e w17 ⟨he, hb⟩
  have he2 : e = .returned (.int .i64 (q16 : Int)) := by rw [Hq16.out]; exact he
  subst he2
  clear he
  have C17 := Lib.hid hb
  clear hb
  have t17 := C17.out.size
  have Bw17 := Lib.hid (Bw16.out.trans (C17.out.mono Bw16.out.size))
  have HB_aM_17 := Lib.hid (HB_aM_16.out.later C17.out)
  clear HB_aM_16
  have HB_aK_17 := Lib.hid (HB_aK_16.out.later C17.out)
  clear HB_aK_16
  have O_w0_17 := Lib.hid (O_w0_16.out.later C17.out)
  clear O_w0_16
  have O_g0_17 := Lib.hid (O_g0_16.out.later C17.out)
  clear O_g0_16
  have s_aM_0 : w17.cell? ⟨w.heap.size, 0, none⟩ = some (.string m.name) := HB_aM_17.out.cell (i := 0) (by omega)
  have s_aM_1 : w17.cell? ⟨w.heap.size, 1, none⟩ = some (.int .i64 m.stage) := HB_aM_17.out.cell (i := 1) (by omega)
  have s_aM_2 : w17.cell? ⟨w.heap.size, 2, none⟩ = some (.slice m.A m.x.length m.c) := HB_aM_17.out.cell (i := 2) (by omega)
  have s_aK_0 : w17.cell? ⟨w.heap.size + 1, 0, none⟩ = some (.string b) := HB_aK_17.out.cell (i := 0) (by omega)
  have s_aK_1 : w17.cell? ⟨w.heap.size + 1, 1, none⟩ = some (.string s) := HB_aK_17.out.cell (i := 1) (by omega)
  have l_aM_0 := Later.cell s_aM_0 (show w.heap.size < w17.heap.size by omega)
  have l_aM_1 := Later.cell s_aM_1 (show w.heap.size < w17.heap.size by omega)
  have l_aM_2 := Later.cell s_aM_2 (show w.heap.size < w17.heap.size by omega)
  have l_aK_0 := Later.cell s_aK_0 (show w.heap.size + 1 < w17.heap.size by omega)
  have l_aK_1 := Later.cell s_aK_1 (show w.heap.size + 1 < w17.heap.size by omega)
  clear s_aM_0 s_aM_1 s_aM_2 s_aK_0 s_aK_1
  go_wp2_with fail
  refine wp_region_G (by kernel_rfl) [.q, .s (fun _ u lo hi w' => ∃ A, u = .agg #[.string m.name, .int .i64 m.stage, .slice A m.x.length m.x.length] ∧ OwnL w' lo hi A 1 encString m.x), .q, .s (fun _ u lo hi w' => u = .agg #[.string b, .string s]), .q, .s (fun _ u lo hi w' => ∃ A, u = .slice A l.length l.length ∧ OwnL w' lo hi A 2 Spk.enc l), .s (fun _ u lo hi w' => ∃ A c, u = .tuple #[.slice A (dd).length c, .bool ok] ∧ OwnL w' lo hi A 1 encString dd), .q, .q, .q, .q, .q] [0, 1, 0, 1, 0, 1, 1, 0, 0, 0, 0, 0] rfl 3 (by kernel_rfl) (inC w17) (w17).heap.size (inC.size w17) (inC.of (Below.refl _ _).drew) ?_
  (refine wpG_quiets 1 _ _ _ _ (by first | exact cls_none rfl | exact fun w h => h.1) (by intro j hj; rcases j with _ | _ | _ | _ | _ | _ | _ | _ | _ | _ | j <;> first | exact ⟨rfl, ⟨_, rfl, rfl⟩, rfl⟩ | (exfalso; omega)) ?_; simp only [List.take_succ_cons, List.take_zero, List.drop_succ_cons, List.drop_zero, Nat.zero_add, Nat.reduceAdd]; change wpQuiet _ _ (fun wq9 => ∃ x : Later w17, wq9 = x.W) _ _ _; (repeat (go_big_quiet_step (fail))); refine wpQuiet_nil ?_; try dsimp only)
  (refine wpG_call _ rfl rfl rfl rfl (fun u lo hi => loc_ex fun A => loc_and (loc_pure _) (loc_own (Nat.le_refl _) (Nat.le_refl _))) 21 #[.agg #[.string m.name, .int .i64 m.stage, .slice m.A m.x.length m.c]] (by intro w; go_simp) (by intro w1 hw1 hd; (refine (toMethod_any m w1 ((Hm.out.below (Bw17.out.trans (hw1.below.mono Bw17.out.size)) (Nat.le_refl _)).more (Nat.le_trans Bw17.out.size hw1.below.size)) (by omega)).mono ?_; rintro e w2 ⟨A, g, rfl, hg1, hg2, ho, hb⟩; exact ⟨_, rfl, hw1.step hb, eff_of_below hb, A, rfl, ho.mono hg1 hg2⟩)) ?_)
  (intro u_h00 lo_h00 hi_h00 hsat; obtain ⟨w1, hw1⟩ := hsat; have hr : ∃ A, u_h00 = .agg #[.string m.name, .int .i64 m.stage, .slice A m.x.length m.x.length] ∧ OwnL w1 lo_h00 hi_h00 A 1 encString m.x := (hw1.rec rfl 1).2.2; obtain ⟨A_h00, rfl, _⟩ := hr; clear hw1; simp only [Act.put, List.setIfInBounds_toArray, List.set_cons_zero, List.set_cons_succ, Nat.reduceAdd])
  (refine wpG_quiets 1 _ _ _ _ (by first | exact cls_none rfl | exact fun w h => h.1) (by intro j hj; rcases j with _ | _ | _ | _ | _ | _ | _ | _ | _ | _ | j <;> first | exact ⟨rfl, ⟨_, rfl, rfl⟩, rfl⟩ | (exfalso; omega)) ?_; simp only [List.take_succ_cons, List.take_zero, List.drop_succ_cons, List.drop_zero, Nat.zero_add, Nat.reduceAdd]; change wpQuiet _ _ (fun wq9 => ∃ x : Later w17, wq9 = x.W) _ _ _; (repeat (go_big_quiet_step (fail))); refine wpQuiet_nil ?_; try dsimp only)
  (refine wpG_call _ rfl rfl rfl rfl (fun u lo hi => loc_pure _) 22 #[.agg #[.string b, .string s]] (by intro w; go_simp) (by intro w1 hw1 hd; (refine (toCalls_any b s w1).mono ?_; rintro e w2 ⟨rfl, hb⟩; exact ⟨_, rfl, hw1.step hb, eff_of_below hb, rfl⟩)) ?_)
  (intro u_h01 lo_h01 hi_h01 hsat; obtain ⟨w1, hw1⟩ := hsat; have hr : u_h01 = .agg #[.string b, .string s] := (hw1.rec rfl 3).2.2; obtain rfl := hr; clear hw1; simp only [Act.put, List.setIfInBounds_toArray, List.set_cons_zero, List.set_cons_succ, Nat.reduceAdd])
  (refine wpG_quiets 1 _ _ _ _ (by first | exact cls_none rfl | exact fun w h => h.1) (by intro j hj; rcases j with _ | _ | _ | _ | _ | _ | _ | _ | _ | _ | j <;> first | exact ⟨rfl, ⟨_, rfl, rfl⟩, rfl⟩ | (exfalso; omega)) ?_; simp only [List.take_succ_cons, List.take_zero, List.drop_succ_cons, List.drop_zero, Nat.zero_add, Nat.reduceAdd]; change wpQuiet _ _ (fun wq9 => ∃ x : Later w17, wq9 = x.W) _ _ _; (repeat (go_big_quiet_step (fail))); refine wpQuiet_nil ?_; try dsimp only)
  (refine wpG_call _ rfl rfl rfl rfl (fun u lo hi => loc_ex fun A => loc_and (loc_pure _) (loc_own (Nat.le_refl _) (Nat.le_refl _))) 23 #[.slice Al l.length cl] (by intro w; go_simp) (by intro w1 hw1 hd; (refine (toSpokenS_any l Al cl w1 ((Hrl.out.below (Bw17.out.trans (hw1.below.mono Bw17.out.size)) (Nat.le_refl _)).more (Nat.le_trans Bw17.out.size hw1.below.size)) (by omega)).mono ?_; rintro e w2 ⟨A, rfl, ho, hb⟩; exact ⟨_, rfl, hw1.step hb, eff_of_below hb, A, rfl, ho⟩)) ?_)
  (intro u_h02 lo_h02 hi_h02 hsat; obtain ⟨w1, hw1⟩ := hsat; have hr : ∃ A, u_h02 = .slice A l.length l.length ∧ OwnL w1 lo_h02 hi_h02 A 2 Spk.enc l := (hw1.rec rfl 5).2.2; obtain ⟨A_h02, rfl, _⟩ := hr; clear hw1; simp only [Act.put, List.setIfInBounds_toArray, List.set_cons_zero, List.set_cons_succ, Nat.reduceAdd])
  (refine wpG_call _ rfl rfl rfl rfl (fun u lo hi => loc_ex fun A => loc_ex fun c => loc_and (loc_pure _) (loc_own (Nat.le_refl _) (Nat.le_refl _))) 24 #[.agg #[.string m.name, .int .i64 m.stage, .slice A_h00 m.x.length m.x.length], .agg #[.string b, .string s], .slice A_h02 l.length l.length] (by intro w; go_simp) (by intro w1 hw1 hd; (have hd0 : ∃ A, (.agg #[.string m.name, .int .i64 m.stage, .slice A_h00 m.x.length m.x.length] : Value) = .agg #[.string m.name, .int .i64 m.stage, .slice A m.x.length m.x.length] ∧ OwnL w1 lo_h00 hi_h00 A 1 encString m.x := (hd 1 (gDep_mem (by kernel_rfl))).2; obtain ⟨Az, he0, ho0A⟩ := hd0; obtain rfl : A_h00 = Az := (by simpa using he0); have hd2 : ∃ A, (.slice A_h02 l.length l.length : Value) = .slice A l.length l.length ∧ OwnL w1 lo_h02 hi_h02 A 2 Spk.enc l := (hd 5 (gDep_mem (by kernel_rfl))).2; obtain ⟨Az, he2, ho2A⟩ := hd2; obtain rfl : A_h02 = Az := (by simpa using he2); refine (rs_of hD.out rfl (iRowsSaid_any ⟨m.name, m.stage, m.x, A_h00, m.x.length⟩ b s l A_h02 l.length w1 ⟨(ho0A.rd encString_len), by simp only; omega, by simp only; omega, Hmm.out, by omega, by omega, Nat.le_refl _⟩ (ho2A.rd Spk_enc_len) (by omega) (Nat.le_refl _))).mono ?_; rintro e w2 ⟨A, c, rfl, ho, hb⟩; exact ⟨_, rfl, hw1.step hb, eff_of_below hb, A, c, rfl, ho⟩)) ?_)
  (intro u_h0 lo_h0 hi_h0 hsat; obtain ⟨w1, hw1⟩ := hsat; have hr : ∃ A c, u_h0 = .tuple #[.slice A (dd).length c, .bool ok] ∧ OwnL w1 lo_h0 hi_h0 A 1 encString dd := (hw1.rec rfl 6).2.2; obtain ⟨A1_h0, c1_h0, rfl, _⟩ := hr; clear hw1; simp only [Act.put, List.setIfInBounds_toArray, List.set_cons_zero, List.set_cons_succ, Nat.reduceAdd])
  (refine wpG_quiets 5 _ _ _ _ (by first | exact cls_none rfl | exact fun w h => h.1) (by intro j hj; rcases j with _ | _ | _ | _ | _ | _ | _ | _ | _ | _ | j <;> first | exact ⟨rfl, ⟨_, rfl, rfl⟩, rfl⟩ | (exfalso; omega)) ?_; simp only [List.take_succ_cons, List.take_zero, List.drop_succ_cons, List.drop_zero, Nat.zero_add, Nat.reduceAdd]; change wpQuiet _ _ (fun wq9 => ∃ x : Later w17, wq9 = x.W) _ _ _; (repeat (go_big_quiet_step (fail))); refine wpQuiet_nil ?_; try dsimp only)
  intro w18 hh
  have hb := (hh.cls rfl).below
  obtain ⟨Az, cz, hez, hoz⟩ : ∃ A c, Value.tuple #[.slice A1_h0 (dd).length c1_h0, .bool ok] = .tuple #[.slice A (dd).length c, .bool ok] ∧ OwnL w18 lo_h0 hi_h0 A 1 encString dd := (hh.rec rfl 6).2.2
  obtain ⟨rfl, rfl⟩ : A1_h0 = Az ∧ c1_h0 = cz := by simpa using hez
  obtain ⟨hl1_h0, hl2_h0, hl3_h0⟩ : w17.heap.size ≤ lo_h0 ∧ lo_h0 ≤ hi_h0 ∧ hi_h0 ≤ w18.heap.size := hh.rng rfl 6 rfl
  have hv1 := Lib.hid hoz
  clear hoz hez hh l_aM_0 l_aM_1 l_aM_2 l_aK_0 l_aK_1
  have C18 := Lib.hid hb
  clear hb
  have t18 := C18.out.size
  have Bw18 := Lib.hid (Bw17.out.trans (C18.out.mono Bw17.out.size))
  clear HB_aM_17
  clear HB_aK_17
  have O_w0_18 := Lib.hid (O_w0_17.out.later C18.out)
  clear O_w0_17
  have O_g0_18 := Lib.hid (O_g0_17.out.later C18.out)
  clear O_g0_17
  have O_h0_18 := hv1
  clear hv1
  go_wp2_with fail
  refine (eqStringS_t dd A1_h0 A1_w0 c1_h0 c1_w0 _ (O_h0_18.out.rd encString_len) (O_w0_18.out.rd encString_len) (by omega)).mono ?_
  rintro e w19 ⟨rfl, hb⟩
  have C19 := Lib.hid hb
  clear hb
  have t19 := C19.out.size
  have Bw19 := Lib.hid (Bw18.out.trans (C19.out.mono Bw18.out.size))
  clear O_w0_18
  have O_g0_19 := Lib.hid (O_g0_18.out.later C19.out)
  clear O_g0_18
  clear O_h0_18
  go_wp2_with fail
  refine (heldStringS_any (dd).length A1_g0 c1_g0 1 _ (O_g0_19.out.rd encString_len) (by omega) (by omega) (by omega)).mono ?_
  rintro e w20 ⟨he, hb⟩
  have he2 : e = .returned (.int .i64 (q16 : Int)) := by rw [Hq16.out]; exact he
  subst he2
  clear he
  have C20 := Lib.hid hb
  clear hb
  have t20 := C20.out.size
  have Bw20 := Lib.hid (Bw19.out.trans (C20.out.mono Bw19.out.size))
  clear O_g0_19
  go_wp2_with fail
  go_ret
  exact ⟨rfl, Bw20.out⟩

namespace fnExactRowsSaid
open Go.ChangeShapes Go.WideShapes Go.ChangeAt Go.RowKit Go.Deep
open Go.ChangeMaps (open_string shut_string)
theorem own : ownKnob Tryz.prog.godebug = none := by kernel_rfl
theorem laid : laidOutB Tryz.prog = true := by kernel_rfl
theorem reads : Tryz.f4.params.toList.all (fun t => Tryz.prog.readableRec t && decide (t < Tryz.prog.types.size)) = true := by kernel_rfl
set_option maxRecDepth 100000 in
theorem lifted (os : Os) (started : os.Started) (H : Type) (enc : TypeId × Value → H) :
    ReturnsInHanded {} Tryz.checked os 4 .any (Rows.fnExactRowsSaidSpec.pre6 enc Tryz.prog Tryz.f4 Rows.fnExactRowsSaidRow.domain false) (Rows.fnExactRowsSaidSpec.post enc Tryz.prog Tryz.f4 false true false false) := by
  refine returnsInHanded_of_change (C := Tryz.checked) own started (by kernel_rfl) Tryz.func4
    (ChangeSpec.witness6 (enc := enc) (C := Tryz.checked) false ⟨#[], #[.agg #[.string ByteArray.empty, .int .i64 0, .slice none 0 0], .agg #[.string ByteArray.empty, .string ByteArray.empty], .slice none 0 0], []⟩ 8 (by kernel_rfl) (by kernel_rfl) (by kernel_rfl) (by kernel_rfl)) ?_
  intro W base args ds gs before hval0 hW hcnd _
  have hval : ∀ (j : Nat) t v, Tryz.f4.params[j]? = some t → args[j]? = some v → Value.okWide Tryz.prog W .any base t v := hval0
  have hW' := hW
  obtain ⟨p, q, hA0, hV, rfl, hfz, hnd⟩ := hW
  have hA : DataW.TrodAll enc Tryz.prog W 0 (fun _ => true) true Tryz.f4.params.toList args.toList ds p := hA0
  rw [Tryz.params4] at hA hval
  obtain ⟨rfl, rfl⟩ := trodVars_none hV
  have hlt : ∀ x ∈ p, x.block < W.heap.size := fun x hx => by simpa using hW'.lt x (List.mem_append.2 (.inl hx))
  clear hA0 hval0
  obtain ⟨v0, vs0, d0, ds0, p0, q0, hargs, rfl, rfl, h0, r0⟩ := trodAll_cons hA
  obtain ⟨v1, vs1, d1, ds1, p1, q1, rfl, rfl, rfl, h1, r1⟩ := trodAll_cons r0
  obtain ⟨v2, vs2, d2, ds2, p2, q2, rfl, rfl, rfl, h2, r2⟩ := trodAll_cons r1
  obtain ⟨rfl, rfl, rfl⟩ := trodAll_nil r2
  obtain rfl : args = #[v0, v1, v2] := by cases args; simp_all
  clear hargs
  obtain ⟨m0, rfl, fm0, hm0, _⟩ := open_struct Tryz.underlying45 Mth.enc _ Method_el (hval 0 45 v0 rfl rfl) h0
  obtain ⟨⟨b1, s1⟩, rfl, hb1, hs1⟩ := open_struct Tryz.underlying47 (fun x : ByteArray × ByteArray => [.string x.1, .string x.2]) _ Calls_el (hval 1 47 v1 rfl rfl) h1
  obtain ⟨A2, a2, c2, rfl, y2, x2, z2⟩ := open_list Tryz.underlying48 2 (by kernel_rfl) (by omega) Spk.enc _ Spoken_el (hval 2 48 v2 rfl rfl) h2
  refine (rowsSaidLaw W m0 hm0 fm0 b1 s1 hb1 hs1 a2 A2 c2 x2 (by unfold maxLen at y2; omega) z2).mono fun e W' ⟨he, hg⟩ => ?_
  subst he
  exact ⟨_, rfl, law_post laid reads rfl Tryz.underlying4 rfl rfl hW' hg⟩
theorem over : Rows.fnExactRowsSaidRow.holds Tryz.pinned (OpenSpec.ofChange Rows.fnExactRowsSaidSpec) :=
  OpenClaim.holds_of_wide 4 Tryz.f4 rfl rfl rfl rfl rfl rfl rfl ⟨rfl, rfl, rfl, rfl, rfl⟩ rfl rfl rfl rfl rfl (by kernel_rfl) Tryz.func4 facts
    (of_decide_eq_true (by kernel_rfl)) (by unfold Func.isWrapper; first | (rw [if_pos (by decide +kernel)]; kernel_rfl) | (rw [if_neg (by decide +kernel)]; exact ⟨rfl, rfl⟩))
    (fun os started H enc _ => lifted os started H enc)
theorem proved : Rows.FnExactRowsSaidSaid := over
end fnExactRowsSaid
end Go.Proofs.YtbfhfnejppfehaaGreat
