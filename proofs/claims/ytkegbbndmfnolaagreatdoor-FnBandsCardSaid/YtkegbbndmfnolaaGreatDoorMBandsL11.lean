import Derived.Test.YtkegbbndmfnolaaGreatDoorMBandsL08
import Derived.Test.YtkegbbndmfnolaaGreatDoorMBandsL09
import Derived.Deep.Cut
/-
 A band copied; a called lead; a band behind one change: contracts of both sides.
-/
namespace Go.Proofs.YtkegbbndmfnolaaGreatDoor
open Go.RowKit
set_option linter.unusedVariables false
set_option linter.unusedSimpArgs false
set_option maxRecDepth 100000




def Bnd.bd (b : Bnd) : Bd := ⟨b.m.name, b.m.stage, b.m.x, b.bob, b.sing, b.step, b.call, b.tru, b.rx⟩


theorem cloneR_any (l : List Rgr) (A : Option Addr) (c : Nat) (w : World) (h : RdL w w.heap.size A 2 Rgr.enc l) (hl : l.length ≤ 1048576) (h0 : 0 < l.length) :
  Calls Tryz.prog 151 #[.slice A l.length c] w fun e w' => ∃ A' c', e = .returned (.slice A' l.length c') ∧ OwnL w' w.heap.size w'.heap.size A' 2 Rgr.enc l ∧ Below w.heap.size w w' := by
 have hq : ∀ (w : World) (a : Option Addr) (n c : Nat), (binOp .eql 34 (.slice a n c) (.slice none 0 0)).run Tryz.prog w = .ok (.bool a.isNone) w := fun w a n c => Lib.run_eql_slice_nil w _ 76 a n c 0 0 rfl
 obtain ⟨g, off, hA, _, _⟩ := h.at h0
 subst hA
 have H := Lib.hid h
 clear h
 go_enter Tryz.func151, Tryz.ntmps151
 go_wp2_with (at_builtin; refine wpList_pushAll rfl _ _ 34 rfl w.heap.size 76 _ 2 16 Rgr.enc rfl Ringer_info rfl (by omega) _ [] l _ _ w.heap.size rfl rfl (H.out.below ((Below.refl _ _).alloc (Nat.le_refl _) _) (Nat.le_refl _)) h0 (Grow.empty (Nat.le_refl _)) Rgr_enc_len (by simp [Rgr.enc, Value.oneCell']) (by first | (simp; done) | (simp; omega)) (by omega) (by simp) ?_; intro v' w2 hg2 hb2 hgb)
 go_ret
 obtain ⟨A', c', hv, ho⟩ := hg2.own Rgr_enc_len
 subst hv
 exact ⟨A', c', rfl, ho, ((Below.refl _ _).alloc (Nat.le_refl _) _).trans hb2⟩


set_option maxHeartbeats 1600000 in
theorem copyBand_any (b : Bnd) (w : World) (h : RdL w w.heap.size b.m.A 1 encString b.m.x) (hr : RdL w w.heap.size b.RA 2 Rgr.enc b.rx) (hl : b.m.x.length ≤ 1048576) (h0 : 0 < b.m.x.length) (hrl : b.rx.length ≤ 1048576) (hr0 : 0 < b.rx.length) : Calls Tryz.prog 110 #[.agg #[.string b.m.name, .int .i64 b.m.stage, .slice b.m.A b.m.x.length b.m.c, .string b.bob, .string b.sing, .int .i64 b.step, .string b.call, .string b.tru, .slice b.RA b.rx.length b.rc]] w fun e w' => BdOne b.bd w e w' := by
 have hW : ∃ W : World, Hid (((w.alloc (.cells #[.string b.m.name, .int .i64 b.m.stage, .slice b.m.A b.m.x.length b.m.c, .string b.bob, .string b.sing, .int .i64 b.step, .string b.call, .string b.tru, .slice b.RA b.rx.length b.rc] 36)).alloc (.cells #[Value.string ⟨#[]⟩, .int .i64 0, .slice none 0 0, .string ⟨#[]⟩, .string ⟨#[]⟩, .int .i64 0, .string ⟨#[]⟩, .string ⟨#[]⟩, .slice none 0 0] 36)) = W) ∧ Hid (W.heap.size = w.heap.size + 2) ∧ Hid (Below w.heap.size w W) ∧ Hid (Cells W w.heap.size 9 (fun i => ((#[Value.string b.m.name, .int .i64 b.m.stage, .slice b.m.A b.m.x.length b.m.c, .string b.bob, .string b.sing, .int .i64 b.step, .string b.call, .string b.tru, .slice b.RA b.rx.length b.rc] : Array Value)).getD i undef)) ∧ Hid (Cells W (w.heap.size + 1) 9 (fun i => (#[Value.string ⟨#[]⟩, .int .i64 0, .slice none 0 0, .string ⟨#[]⟩, .string ⟨#[]⟩, .int .i64 0, .string ⟨#[]⟩, .string ⟨#[]⟩, .slice none 0 0] : Array Value).getD i undef)) := by
  have z1 : w.heap.size + 1 = (w.alloc (.cells #[.string b.m.name, .int .i64 b.m.stage, .slice b.m.A b.m.x.length b.m.c, .string b.bob, .string b.sing, .int .i64 b.step, .string b.call, .string b.tru, .slice b.RA b.rx.length b.rc] 36)).heap.size := by simp
  refine ⟨_, Lib.hid rfl, Lib.hid (by simp), Lib.hid (((Below.refl _ _).alloc (Nat.le_refl _) _).alloc (by simp) _), Lib.hid ?_, Lib.hid ?_⟩
  ·exact (Cells.newD _ #[.string b.m.name, .int .i64 b.m.stage, .slice b.m.A b.m.x.length b.m.c, .string b.bob, .string b.sing, .int .i64 b.step, .string b.call, .string b.tru, .slice b.RA b.rx.length b.rc] _).alloc _
  ·rw [z1]; exact Cells.newD _ #[Value.string ⟨#[]⟩, .int .i64 0, .slice none 0 0, .string ⟨#[]⟩, .string ⟨#[]⟩, .int .i64 0, .string ⟨#[]⟩, .string ⟨#[]⟩, .slice none 0 0] _
 obtain ⟨W, hWe, hWs, hWb, hB, hZ⟩ := hW
 have hWs1 : w.heap.size + 2 ≤ W.heap.size := by have := hWs.out; omega
 have H0 := Lib.hid h
 have Hr0 := Lib.hid hr
 have H := Lib.hid (show RdL W W.heap.size b.m.A 1 encString b.m.x from (h.below hWb.out (Nat.le_refl _)).more hWb.out.size)
 have Hr := Lib.hid (show RdL W W.heap.size b.RA 2 Rgr.enc b.rx from (hr.below hWb.out (Nat.le_refl _)).more hWb.out.size)
 clear h hr
 have u0 : W.cell? ⟨w.heap.size, 0, none⟩ = some (.string b.m.name) := hB.out.cell (i := 0) (by omega)
 have u1 : W.cell? ⟨w.heap.size, 1, none⟩ = some (.int .i64 b.m.stage) := hB.out.cell (i := 1) (by omega)
 have u2 : W.cell? ⟨w.heap.size, 2, none⟩ = some (.slice b.m.A b.m.x.length b.m.c) := hB.out.cell (i := 2) (by omega)
 have u3 : W.cell? ⟨w.heap.size, 3, none⟩ = some (.string b.bob) := hB.out.cell (i := 3) (by omega)
 have u4 : W.cell? ⟨w.heap.size, 4, none⟩ = some (.string b.sing) := hB.out.cell (i := 4) (by omega)
 have u5 : W.cell? ⟨w.heap.size, 5, none⟩ = some (.int .i64 b.step) := hB.out.cell (i := 5) (by omega)
 have u6 : W.cell? ⟨w.heap.size, 6, none⟩ = some (.string b.call) := hB.out.cell (i := 6) (by omega)
 have u7 : W.cell? ⟨w.heap.size, 7, none⟩ = some (.string b.tru) := hB.out.cell (i := 7) (by omega)
 have u8 : W.cell? ⟨w.heap.size, 8, none⟩ = some (.slice b.RA b.rx.length b.rc) := hB.out.cell (i := 8) (by omega)
 have uf0 := hB.out.free (i := 0) (by omega)
 have uf1 := hB.out.free (i := 1) (by omega)
 have uf2 := hB.out.free (i := 2) (by omega)
 have uf8 := hB.out.free (i := 8) (by omega)
 have f0 := Later.cell u0 (show w.heap.size < W.heap.size by omega)
 have f1 := Later.cell u1 (show w.heap.size < W.heap.size by omega)
 have f2 := Later.cell u2 (show w.heap.size < W.heap.size by omega)
 have f3 := Later.cell u3 (show w.heap.size < W.heap.size by omega)
 have f4 := Later.cell u4 (show w.heap.size < W.heap.size by omega)
 have f5 := Later.cell u5 (show w.heap.size < W.heap.size by omega)
 have f6 := Later.cell u6 (show w.heap.size < W.heap.size by omega)
 have f7 := Later.cell u7 (show w.heap.size < W.heap.size by omega)
 have f8 := Later.cell u8 (show w.heap.size < W.heap.size by omega)
 go_enter Tryz.func110, Tryz.ntmps110
 go_wp2_with fail
 rw [hWe.out]
 clear hWe
 refine wp_region_G (by kernel_rfl) [.q, .q, .q, .q, .q, .s (fun _ u lo hi w' => ∃ A1 c1, u = .slice A1 b.m.x.length c1 ∧ OwnL w' lo hi A1 1 encString b.m.x), .s (fun g u lo hi w' => u = .agg #[.string b.m.name, .int .i64 b.m.stage, g.getD 1 undef]), .q, .u] [0, 0, 0, 0, 0, 1, 1, 0, 3] rfl 3 (by kernel_rfl) (inC W) (W).heap.size (inC.size W) (inC.of (Below.refl _ _).drew) ?_
 (refine wpG_quiets 5 _ _ _ _ (by first | exact cls_none rfl | exact fun w h => h.1) (by intro j hj; rcases j with _ | _ | _ | _ | _ | _ | _ | _ | _ | _ | j <;> first | exact ⟨rfl, ⟨_, rfl, rfl⟩, rfl⟩ | (exfalso; omega)) ?_; simp only [List.take_succ_cons, List.take_zero, List.drop_succ_cons, List.drop_zero, Nat.zero_add, Nat.reduceAdd]; change wpQuiet _ _ (fun wq9 => ∃ x : Later W, wq9 = x.W) _ _ _; (repeat (go_big_quiet_step (fail))); refine wpQuiet_nil ?_; try dsimp only)
 (refine wpG_call _ rfl rfl rfl rfl (fun u lo hi => loc_ex fun A => loc_ex fun c => loc_and (loc_pure _) (loc_own (Nat.le_refl _) (Nat.le_refl _))) 112 #[.slice b.m.A b.m.x.length b.m.c] (by intro w; go_simp) (by intro w1 hw1 hd; (refine (cloneS_any b.m.x b.m.A b.m.c _ ((H.out.below hw1.below (Nat.le_refl _)).more hw1.below.size) hl h0).mono ?_; rintro e w2 ⟨A1, c1, rfl, ho, hc1, hb⟩; exact ⟨_, rfl, hw1.step hb, eff_of_below hb, A1, c1, rfl, ho⟩)) ?_)
 (intro u lo hi hsat; obtain ⟨w1, hw1⟩ := hsat; have hr : ∃ A1 c1, u = .slice A1 b.m.x.length c1 ∧ OwnL w1 lo hi A1 1 encString b.m.x := (hw1.rec rfl 5).2.2; obtain ⟨A1, c1, rfl, _⟩ := hr; clear hw1; simp only [Act.put, List.setIfInBounds_toArray, List.set_cons_zero, List.set_cons_succ, Nat.reduceAdd])
 (refine wpG_call _ rfl rfl rfl rfl (fun u lo hi => loc_pure _) 111 #[.agg #[.string b.m.name, .int .i64 b.m.stage, .slice b.m.A b.m.x.length b.m.c], .slice A1 b.m.x.length c1] (by intro w; go_simp) (by intro w1 hw1 hd; (refine (withChanges_any b.m A1 b.m.x.length c1 _).mono ?_; rintro e w2 ⟨rfl, hb⟩; exact ⟨_, rfl, hw1.step hb, eff_of_below hb, rfl⟩)) ?_)
 (intro u4 lo4 hi4 hsat; obtain ⟨w1, hw1⟩ := hsat; have hr : u4 = .agg #[.string b.m.name, .int .i64 b.m.stage, .slice A1 b.m.x.length c1] := (hw1.rec rfl 6).2.2; obtain rfl := hr; clear hw1; simp only [Act.put, List.setIfInBounds_toArray, List.set_cons_zero, List.set_cons_succ, Nat.reduceAdd])
 (refine wpG_quiets 1 _ _ _ _ (by first | exact cls_none rfl | exact fun w h => h.1) (by intro j hj; rcases j with _ | _ | _ | _ | _ | _ | _ | _ | _ | _ | j <;> first | exact ⟨rfl, ⟨_, rfl, rfl⟩, rfl⟩ | (exfalso; omega)) ?_; simp only [List.take_succ_cons, List.take_zero, List.drop_succ_cons, List.drop_zero, Nat.zero_add, Nat.reduceAdd]; change wpQuiet _ _ (fun wq9 => ∃ x : Later W, wq9 = x.W) _ _ _; (repeat (go_big_quiet_step (fail))); refine wpQuiet_nil ?_; try dsimp only)
 refine wpG_u (fun w' => setN w' w.heap.size 0 [.string b.m.name, .int .i64 b.m.stage, .slice A1 b.m.x.length c1]) rfl rfl rfl rfl (by intro w1 hw1; have hb1 := (hw1.cls rfl).below; clear hw1; have p0 := (hb1.cell (p := ⟨w.heap.size, 0, none⟩) (show w.heap.size < W.heap.size by omega)).trans u0; have p1 := (hb1.cell (p := ⟨w.heap.size, 1, none⟩) (show w.heap.size < W.heap.size by omega)).trans u1; have p2 := (hb1.cell (p := ⟨w.heap.size, 2, none⟩) (show w.heap.size < W.heap.size by omega)).trans u2; have q0 := (hb1.frozen (p := ⟨w.heap.size, 0, none⟩) (show w.heap.size < W.heap.size by omega)).trans uf0; have q1 := (hb1.frozen (p := ⟨w.heap.size, 1, none⟩) (show w.heap.size < W.heap.size by omega)).trans uf1; have q2 := (hb1.frozen (p := ⟨w.heap.size, 2, none⟩) (show w.heap.size < W.heap.size by omega)).trans uf2; simp only [setN]; go_simp; try rfl) ?_
 intro w' hh
 obtain ⟨wz, hz, rfl⟩ := hh
 obtain ⟨Az, cz, hez, hO⟩ : ∃ A c, Value.slice A1 b.m.x.length c1 = .slice A b.m.x.length c ∧ OwnL wz lo hi A 1 encString b.m.x := (hz.rec rfl 5).2.2
 obtain ⟨rfl, rfl⟩ : A1 = Az ∧ c1 = cz := by simpa using hez
 obtain ⟨hlo, _, hhi⟩ : W.heap.size ≤ lo ∧ lo ≤ hi ∧ hi ≤ wz.heap.size := hz.rng rfl 5 rfl
 have hbz := (hz.cls rfl).below
 have hk : Chg w.heap.size (w.heap.size + 1) wz (setN wz w.heap.size 0 [.string b.m.name, .int .i64 b.m.stage, .slice A1 b.m.x.length c1]) := Chg.setN (Nat.le_refl _) (Nat.lt_succ_self _) _ (Chg.refl _ _ _)
 have hsz := setN_size w.heap.size [.string b.m.name, .int .i64 b.m.stage, .slice A1 b.m.x.length c1] wz 0
 have hCV : Hid (Cells (setN wz w.heap.size 0 [.string b.m.name, .int .i64 b.m.stage, .slice A1 b.m.x.length c1]) w.heap.size 9 (fun i => ([Value.string b.m.name, .int .i64 b.m.stage, .slice A1 b.m.x.length c1, .string b.bob, .string b.sing, .int .i64 b.step, .string b.call, .string b.tru, .slice b.RA b.rx.length b.rc] : List Value).getD i undef)) := Lib.hid (((hB.out.below hbz (by omega)).setN [.string b.m.name, .int .i64 b.m.stage, .slice A1 b.m.x.length c1] (b := 0) (by simp)).congr fun i hi => by
  match i, hi with
  | 0, _ => simp [updN]
  | 1, _ => simp [updN]
  | 2, _ => simp [updN]
  | 3, _ => simp [updN]
  | 4, _ => simp [updN]
  | 5, _ => simp [updN]
  | 6, _ => simp [updN]
  | 7, _ => simp [updN]
  | 8, _ => simp [updN])
 have hZV := Lib.hid ((hZ.out.below hbz (by omega)).chg hk (.inr (Nat.le_refl _)))
 have hOV := Lib.hid (hO.chg hk (.inr (by omega)))
 have hBV := Lib.hid (Below.chg (hWb.out.trans (hbz.mono hWb.out.size)) hk (Nat.le_refl _) (by have := hbz.size; omega))
 have hhiV : hi ≤ (setN wz w.heap.size 0 [.string b.m.name, .int .i64 b.m.stage, .slice A1 b.m.x.length c1]).heap.size := by rw [hsz]; exact hhi
 have hWV : W.heap.size ≤ (setN wz w.heap.size 0 [.string b.m.name, .int .i64 b.m.stage, .slice A1 b.m.x.length c1]).heap.size := by rw [hsz]; exact hbz.size
 clear hz hez hO hbz hsz hk hhi u0 u1 u2 u3 u4 u5 u6 u7 u8 uf0 uf1 uf2 uf8 f0 f1 f2 f3 f4 f5 f6 f7 f8
 generalize setN wz w.heap.size 0 [.string b.m.name, .int .i64 b.m.stage, .slice A1 b.m.x.length c1] = V at *
 have v8 : V.cell? ⟨w.heap.size, 8, none⟩ = some (.slice b.RA b.rx.length b.rc) := hCV.out.cell (i := 8) (by omega)
 go_wp2_with (go_at_call 151; refine (cloneR_any b.rx b.RA b.rc _ ((Hr0.out.below hBV.out (Nat.le_refl _)).more hBV.out.size) hrl hr0).mono ?_; rintro e w3 ⟨A3, c3, rfl, ho3, hb3⟩; have hg3 := hb3.size; have HO3 := Lib.hid ho3; have HO1 := Lib.hid ((hOV.out.later hb3).mono (Nat.le_refl _) hhiV); have hB3 := Lib.hid (hBV.out.trans (hb3.mono hBV.out.size)); have hCz := hZV.out.later hb3; have z0 := hCz.cell (i := 0) (by omega); have zf0 := hCz.free (i := 0) (by omega); have z1 := hCz.cell (i := 1) (by omega); have zf1 := hCz.free (i := 1) (by omega); have z2 := hCz.cell (i := 2) (by omega); have zf2 := hCz.free (i := 2) (by omega); have z3 := hCz.cell (i := 3) (by omega); have zf3 := hCz.free (i := 3) (by omega); have z4 := hCz.cell (i := 4) (by omega); have zf4 := hCz.free (i := 4) (by omega); have z5 := hCz.cell (i := 5) (by omega); have zf5 := hCz.free (i := 5) (by omega); have z6 := hCz.cell (i := 6) (by omega); have zf6 := hCz.free (i := 6) (by omega); have z7 := hCz.cell (i := 7) (by omega); have zf7 := hCz.free (i := 7) (by omega); have z8 := hCz.cell (i := 8) (by omega); have zf8 := hCz.free (i := 8) (by omega); have hCb := hCV.out.later hb3; have b0 : w3.cell? ⟨w.heap.size, 0, none⟩ = some (.string b.m.name) := hCb.cell (i := 0) (by omega); have b1 : w3.cell? ⟨w.heap.size, 1, none⟩ = some (.int .i64 b.m.stage) := hCb.cell (i := 1) (by omega); have b2 : w3.cell? ⟨w.heap.size, 2, none⟩ = some (.slice A1 b.m.x.length c1) := hCb.cell (i := 2) (by omega); have b3 : w3.cell? ⟨w.heap.size, 3, none⟩ = some (.string b.bob) := hCb.cell (i := 3) (by omega); have b4 : w3.cell? ⟨w.heap.size, 4, none⟩ = some (.string b.sing) := hCb.cell (i := 4) (by omega); have b5 : w3.cell? ⟨w.heap.size, 5, none⟩ = some (.int .i64 b.step) := hCb.cell (i := 5) (by omega); have b6 : w3.cell? ⟨w.heap.size, 6, none⟩ = some (.string b.call) := hCb.cell (i := 6) (by omega); have b7 : w3.cell? ⟨w.heap.size, 7, none⟩ = some (.string b.tru) := hCb.cell (i := 7) (by omega); have b8 : w3.cell? ⟨w.heap.size, 8, none⟩ = some (.slice b.RA b.rx.length b.rc) := hCb.cell (i := 8) (by omega); have bf8 := hCb.free (i := 8) (by omega); clear hCz hCb; clear ho3 hb3 v8)
 refine bodyPost_ret (v := .agg #[.string b.m.name, .int .i64 b.m.stage, .slice A1 b.m.x.length c1, .string b.bob, .string b.sing, .int .i64 b.step, .string b.call, .string b.tru, .slice A3 b.rx.length c3]) (by simp [results, Tryz.results110, go_sem, z0, z1, z2, z3, z4, z5, z6, z7, z8, zf0, zf1, zf2, zf3, zf4, zf5, zf6, zf7, zf8]) rfl ?_
 have k8 : Chg w.heap.size (w.heap.size + 1 + 1) w3 (w3.setCell ⟨w.heap.size, 8, none⟩ (.slice A3 b.rx.length c3)) := (Chg.refl _ _ w3).setCell (p := ⟨w.heap.size, 8, none⟩) (Nat.le_refl _) (show w.heap.size < w.heap.size + 1 + 1 by omega) _
 have kk : Chg w.heap.size (w.heap.size + 1 + 1) w3 (setN (w3.setCell ⟨w.heap.size, 8, none⟩ (.slice A3 b.rx.length c3)) (w.heap.size + 1) 0 [.string b.m.name, .int .i64 b.m.stage, .slice A1 b.m.x.length c1, .string b.bob, .string b.sing, .int .i64 b.step, .string b.call, .string b.tru, .slice A3 b.rx.length c3]) := Chg.setN (show w.heap.size ≤ w.heap.size + 1 by omega) (show w.heap.size + 1 < w.heap.size + 1 + 1 by omega) _ k8
 have hO1 := (HO1.out.chg kk (.inr (by omega))).mono (show w.heap.size ≤ lo by omega) (Nat.le_refl _)
 have hO3 := (HO3.out.chg kk (.inr (by omega))).mono (Nat.le_refl _) kk.size
 have hBB := Below.chg hB3.out kk (Nat.le_refl _) hB3.out.size
 exact ⟨_, rfl, ⟨A1, c1, A3, c3, V.heap.size, rfl, by omega, Nat.le_trans hg3 kk.size, hO1, hO3⟩, hBB⟩
set_option maxHeartbeats 1600000 in
theorem l24Own_any (b : Bnd) (w : World) (h : RdL w w.heap.size b.m.A 1 encString b.m.x) (hr : RdL w w.heap.size b.RA 2 Rgr.enc b.rx) (hl : b.m.x.length ≤ 1048576) (h0 : 0 < b.m.x.length) (hrl : b.rx.length ≤ 1048576) (hr0 : 0 < b.rx.length) : Calls Tryz.prog 118 #[.agg #[.string b.m.name, .int .i64 b.m.stage, .slice b.m.A b.m.x.length b.m.c, .string b.bob, .string b.sing, .int .i64 b.step, .string b.call, .string b.tru, .slice b.RA b.rx.length b.rc]] w fun e w' => BdOne b.bd w e w' := by
 have hW : ∃ W : World, Hid (((w.alloc (.cells #[.string b.m.name, .int .i64 b.m.stage, .slice b.m.A b.m.x.length b.m.c, .string b.bob, .string b.sing, .int .i64 b.step, .string b.call, .string b.tru, .slice b.RA b.rx.length b.rc] 36)).alloc (.cells #[Value.string ⟨#[]⟩, .int .i64 0, .slice none 0 0, .string ⟨#[]⟩, .string ⟨#[]⟩, .int .i64 0, .string ⟨#[]⟩, .string ⟨#[]⟩, .slice none 0 0] 36)) = W) ∧ Hid (W.heap.size = w.heap.size + 2) ∧ Hid (Below w.heap.size w W) ∧ Hid (Cells W w.heap.size 9 (fun i => ((#[Value.string b.m.name, .int .i64 b.m.stage, .slice b.m.A b.m.x.length b.m.c, .string b.bob, .string b.sing, .int .i64 b.step, .string b.call, .string b.tru, .slice b.RA b.rx.length b.rc] : Array Value)).getD i undef)) ∧ Hid (Cells W (w.heap.size + 1) 9 (fun i => (#[Value.string ⟨#[]⟩, .int .i64 0, .slice none 0 0, .string ⟨#[]⟩, .string ⟨#[]⟩, .int .i64 0, .string ⟨#[]⟩, .string ⟨#[]⟩, .slice none 0 0] : Array Value).getD i undef)) := by
  have z1 : w.heap.size + 1 = (w.alloc (.cells #[.string b.m.name, .int .i64 b.m.stage, .slice b.m.A b.m.x.length b.m.c, .string b.bob, .string b.sing, .int .i64 b.step, .string b.call, .string b.tru, .slice b.RA b.rx.length b.rc] 36)).heap.size := by simp
  refine ⟨_, Lib.hid rfl, Lib.hid (by simp), Lib.hid (((Below.refl _ _).alloc (Nat.le_refl _) _).alloc (by simp) _), Lib.hid ?_, Lib.hid ?_⟩
  ·exact (Cells.newD _ #[.string b.m.name, .int .i64 b.m.stage, .slice b.m.A b.m.x.length b.m.c, .string b.bob, .string b.sing, .int .i64 b.step, .string b.call, .string b.tru, .slice b.RA b.rx.length b.rc] _).alloc _
  ·rw [z1]; exact Cells.newD _ #[Value.string ⟨#[]⟩, .int .i64 0, .slice none 0 0, .string ⟨#[]⟩, .string ⟨#[]⟩, .int .i64 0, .string ⟨#[]⟩, .string ⟨#[]⟩, .slice none 0 0] _
 obtain ⟨W, hWe, hWs, hWb, hB, hZ⟩ := hW
 have hWs1 : w.heap.size + 2 ≤ W.heap.size := by have := hWs.out; omega
 have H0 := Lib.hid h
 have Hr0 := Lib.hid hr
 have H := Lib.hid (show RdL W W.heap.size b.m.A 1 encString b.m.x from (h.below hWb.out (Nat.le_refl _)).more hWb.out.size)
 have Hr := Lib.hid (show RdL W W.heap.size b.RA 2 Rgr.enc b.rx from (hr.below hWb.out (Nat.le_refl _)).more hWb.out.size)
 clear h hr
 have u0 : W.cell? ⟨w.heap.size, 0, none⟩ = some (.string b.m.name) := hB.out.cell (i := 0) (by omega)
 have u1 : W.cell? ⟨w.heap.size, 1, none⟩ = some (.int .i64 b.m.stage) := hB.out.cell (i := 1) (by omega)
 have u2 : W.cell? ⟨w.heap.size, 2, none⟩ = some (.slice b.m.A b.m.x.length b.m.c) := hB.out.cell (i := 2) (by omega)
 have u3 : W.cell? ⟨w.heap.size, 3, none⟩ = some (.string b.bob) := hB.out.cell (i := 3) (by omega)
 have u4 : W.cell? ⟨w.heap.size, 4, none⟩ = some (.string b.sing) := hB.out.cell (i := 4) (by omega)
 have u5 : W.cell? ⟨w.heap.size, 5, none⟩ = some (.int .i64 b.step) := hB.out.cell (i := 5) (by omega)
 have u6 : W.cell? ⟨w.heap.size, 6, none⟩ = some (.string b.call) := hB.out.cell (i := 6) (by omega)
 have u7 : W.cell? ⟨w.heap.size, 7, none⟩ = some (.string b.tru) := hB.out.cell (i := 7) (by omega)
 have u8 : W.cell? ⟨w.heap.size, 8, none⟩ = some (.slice b.RA b.rx.length b.rc) := hB.out.cell (i := 8) (by omega)
 have uf0 := hB.out.free (i := 0) (by omega)
 have uf1 := hB.out.free (i := 1) (by omega)
 have uf2 := hB.out.free (i := 2) (by omega)
 have uf8 := hB.out.free (i := 8) (by omega)
 go_enter Tryz.func118, Tryz.ntmps118
 go_wp2_with fail
 rw [hWe.out]
 clear hWe
 go_upto_region 2 with (go_at_call 119; refine (l4Own_any b.m _ H.out hl h0).mono ?_; rintro e w1 ⟨A1, c1, rfl, ho1, hc1, hb1⟩; have hk1 := hb1.size; have HO := Lib.hid ho1; have hb1' := Lib.hid hb1; have p0 := (hb1.cell (p := ⟨w.heap.size, 0, none⟩) (show w.heap.size < W.heap.size by omega)).trans u0; have p1 := (hb1.cell (p := ⟨w.heap.size, 1, none⟩) (show w.heap.size < W.heap.size by omega)).trans u1; have p2 := (hb1.cell (p := ⟨w.heap.size, 2, none⟩) (show w.heap.size < W.heap.size by omega)).trans u2; have q0 := (hb1.frozen (p := ⟨w.heap.size, 0, none⟩) (show w.heap.size < W.heap.size by omega)).trans uf0; have q1 := (hb1.frozen (p := ⟨w.heap.size, 1, none⟩) (show w.heap.size < W.heap.size by omega)).trans uf1; have q2 := (hb1.frozen (p := ⟨w.heap.size, 2, none⟩) (show w.heap.size < W.heap.size by omega)).trans uf2; clear ho1 hb1 u0 u1 u2 u3 u4 u5 u6 u7 u8 uf0 uf1 uf2 uf8)
 have hk : Chg w.heap.size (w.heap.size + 1) w1 (((w1.setCell ⟨w.heap.size, 0, none⟩ (.string b.m.name)).setCell ⟨w.heap.size, 1, none⟩ (.int .i64 b.m.stage)).setCell ⟨w.heap.size, 2, none⟩ (.slice A1 b.m.x.length c1)) := Chg.setN (Nat.le_refl _) (Nat.lt_succ_self _) [.string b.m.name, .int .i64 b.m.stage, .slice A1 b.m.x.length c1] (p := 0) (Chg.refl _ _ _)
 have hsz : (((w1.setCell ⟨w.heap.size, 0, none⟩ (.string b.m.name)).setCell ⟨w.heap.size, 1, none⟩ (.int .i64 b.m.stage)).setCell ⟨w.heap.size, 2, none⟩ (.slice A1 b.m.x.length c1)).heap.size = w1.heap.size := setN_size w.heap.size [.string b.m.name, .int .i64 b.m.stage, .slice A1 b.m.x.length c1] w1 0
 have hCV : Hid (Cells (((w1.setCell ⟨w.heap.size, 0, none⟩ (.string b.m.name)).setCell ⟨w.heap.size, 1, none⟩ (.int .i64 b.m.stage)).setCell ⟨w.heap.size, 2, none⟩ (.slice A1 b.m.x.length c1)) w.heap.size 9 (fun i => ([Value.string b.m.name, .int .i64 b.m.stage, .slice A1 b.m.x.length c1, .string b.bob, .string b.sing, .int .i64 b.step, .string b.call, .string b.tru, .slice b.RA b.rx.length b.rc] : List Value).getD i undef)) := Lib.hid (((hB.out.below hb1'.out (by omega)).setN [.string b.m.name, .int .i64 b.m.stage, .slice A1 b.m.x.length c1] (b := 0) (by simp)).congr fun i hi => by
  match i, hi with
  | 0, _ => simp [updN]
  | 1, _ => simp [updN]
  | 2, _ => simp [updN]
  | 3, _ => simp [updN]
  | 4, _ => simp [updN]
  | 5, _ => simp [updN]
  | 6, _ => simp [updN]
  | 7, _ => simp [updN]
  | 8, _ => simp [updN])
 have hZV := Lib.hid ((hZ.out.below hb1'.out (by omega)).chg hk (.inr (Nat.le_refl _)))
 have hOV := Lib.hid (HO.out.chg hk (.inr (by omega)))
 have hBV := Lib.hid (Below.chg (hWb.out.trans (hb1'.out.mono hWb.out.size)) hk (Nat.le_refl _) (by omega))
 have hhiV : w1.heap.size ≤ (((w1.setCell ⟨w.heap.size, 0, none⟩ (.string b.m.name)).setCell ⟨w.heap.size, 1, none⟩ (.int .i64 b.m.stage)).setCell ⟨w.heap.size, 2, none⟩ (.slice A1 b.m.x.length c1)).heap.size := by rw [hsz]; exact Nat.le_refl _
 obtain ⟨lo, hi, hlo, hhi, hO⟩ : ∃ lo hi, W.heap.size ≤ lo ∧ hi ≤ (((w1.setCell ⟨w.heap.size, 0, none⟩ (.string b.m.name)).setCell ⟨w.heap.size, 1, none⟩ (.int .i64 b.m.stage)).setCell ⟨w.heap.size, 2, none⟩ (.slice A1 b.m.x.length c1)).heap.size ∧ Hid (OwnL (((w1.setCell ⟨w.heap.size, 0, none⟩ (.string b.m.name)).setCell ⟨w.heap.size, 1, none⟩ (.int .i64 b.m.stage)).setCell ⟨w.heap.size, 2, none⟩ (.slice A1 b.m.x.length c1)) lo hi A1 1 encString b.m.x) := ⟨_, _, Nat.le_refl _, hhiV, hOV⟩
 have hWV : W.heap.size ≤ (((w1.setCell ⟨w.heap.size, 0, none⟩ (.string b.m.name)).setCell ⟨w.heap.size, 1, none⟩ (.int .i64 b.m.stage)).setCell ⟨w.heap.size, 2, none⟩ (.slice A1 b.m.x.length c1)).heap.size := by omega
 clear hsz hk hOV hhiV p0 p1 p2 q0 q1 q2
 generalize (((w1.setCell ⟨w.heap.size, 0, none⟩ (.string b.m.name)).setCell ⟨w.heap.size, 1, none⟩ (.int .i64 b.m.stage)).setCell ⟨w.heap.size, 2, none⟩ (.slice A1 b.m.x.length c1)) = V at *
 have v8 : V.cell? ⟨w.heap.size, 8, none⟩ = some (.slice b.RA b.rx.length b.rc) := hCV.out.cell (i := 8) (by omega)
 have hltV : w.heap.size < V.heap.size := by omega
 have v8' := (((Below.refl V.heap.size V).alloc (Nat.le_refl _) (.cells #[] 76)).cell (p := ⟨w.heap.size, 8, none⟩) hltV).trans v8
 go_wp2_with (at_builtin; refine wpList_pushAll rfl (.tmp 7) (.tmp 9) 34 rfl V.heap.size 76 _ 2 16 Rgr.enc rfl Ringer_info rfl (by omega) (.slice (some ⟨V.heap.size, 0, none⟩) 0 0) [] b.rx b.RA b.rc w.heap.size rfl rfl ((Hr0.out.below hBV.out (Nat.le_refl _)).alloc hBV.out.size (.cells #[] 76)) hr0 (Grow.empty (Nat.le_refl _)) Rgr_enc_len (by simp [Rgr.enc, Value.oneCell']) (by first | (simp; done) | (simp; omega)) (by omega) (by simp) ?_; intro v' w3 hg2 hb2 _; have hv3 : ∃ A3 c3, v' = .slice A3 b.rx.length c3 ∧ OwnL w3 V.heap.size w3.heap.size A3 2 Rgr.enc b.rx := (by obtain ⟨A3, c3, hv, ho⟩ := hg2.own Rgr_enc_len; exact ⟨A3, c3, hv, ho⟩); obtain ⟨A3, c3, rfl, ho3⟩ := hv3; have hb3 : Below V.heap.size V w3 := ((Below.refl _ _).alloc (Nat.le_refl _) _).trans hb2; have hg3 := hb3.size; have HO3 := Lib.hid ho3; have HO1 := Lib.hid ((hO.out.later hb3).mono (Nat.le_refl _) hhi); have hB3 := Lib.hid (hBV.out.trans (hb3.mono hBV.out.size)); have hCz := hZV.out.later hb3; have z0 := hCz.cell (i := 0) (by omega); have zf0 := hCz.free (i := 0) (by omega); have z1 := hCz.cell (i := 1) (by omega); have zf1 := hCz.free (i := 1) (by omega); have z2 := hCz.cell (i := 2) (by omega); have zf2 := hCz.free (i := 2) (by omega); have z3 := hCz.cell (i := 3) (by omega); have zf3 := hCz.free (i := 3) (by omega); have z4 := hCz.cell (i := 4) (by omega); have zf4 := hCz.free (i := 4) (by omega); have z5 := hCz.cell (i := 5) (by omega); have zf5 := hCz.free (i := 5) (by omega); have z6 := hCz.cell (i := 6) (by omega); have zf6 := hCz.free (i := 6) (by omega); have z7 := hCz.cell (i := 7) (by omega); have zf7 := hCz.free (i := 7) (by omega); have z8 := hCz.cell (i := 8) (by omega); have zf8 := hCz.free (i := 8) (by omega); have hCb := hCV.out.later hb3; have b0 : w3.cell? ⟨w.heap.size, 0, none⟩ = some (.string b.m.name) := hCb.cell (i := 0) (by omega); have b1 : w3.cell? ⟨w.heap.size, 1, none⟩ = some (.int .i64 b.m.stage) := hCb.cell (i := 1) (by omega); have b2 : w3.cell? ⟨w.heap.size, 2, none⟩ = some (.slice A1 b.m.x.length c1) := hCb.cell (i := 2) (by omega); have b3 : w3.cell? ⟨w.heap.size, 3, none⟩ = some (.string b.bob) := hCb.cell (i := 3) (by omega); have b4 : w3.cell? ⟨w.heap.size, 4, none⟩ = some (.string b.sing) := hCb.cell (i := 4) (by omega); have b5 : w3.cell? ⟨w.heap.size, 5, none⟩ = some (.int .i64 b.step) := hCb.cell (i := 5) (by omega); have b6 : w3.cell? ⟨w.heap.size, 6, none⟩ = some (.string b.call) := hCb.cell (i := 6) (by omega); have b7 : w3.cell? ⟨w.heap.size, 7, none⟩ = some (.string b.tru) := hCb.cell (i := 7) (by omega); have b8 : w3.cell? ⟨w.heap.size, 8, none⟩ = some (.slice b.RA b.rx.length b.rc) := hCb.cell (i := 8) (by omega); have bf8 := hCb.free (i := 8) (by omega); clear hCz hCb; clear ho3 hb3 v8 hg2 hb2)
 refine bodyPost_ret (v := .agg #[.string b.m.name, .int .i64 b.m.stage, .slice A1 b.m.x.length c1, .string b.bob, .string b.sing, .int .i64 b.step, .string b.call, .string b.tru, .slice A3 b.rx.length c3]) (by simp [results, Tryz.results118, go_sem, z0, z1, z2, z3, z4, z5, z6, z7, z8, zf0, zf1, zf2, zf3, zf4, zf5, zf6, zf7, zf8]) rfl ?_
 have k8 : Chg w.heap.size (w.heap.size + 1 + 1) w3 (w3.setCell ⟨w.heap.size, 8, none⟩ (.slice A3 b.rx.length c3)) := (Chg.refl _ _ w3).setCell (p := ⟨w.heap.size, 8, none⟩) (Nat.le_refl _) (show w.heap.size < w.heap.size + 1 + 1 by omega) _
 have kk : Chg w.heap.size (w.heap.size + 1 + 1) w3 (setN (w3.setCell ⟨w.heap.size, 8, none⟩ (.slice A3 b.rx.length c3)) (w.heap.size + 1) 0 [.string b.m.name, .int .i64 b.m.stage, .slice A1 b.m.x.length c1, .string b.bob, .string b.sing, .int .i64 b.step, .string b.call, .string b.tru, .slice A3 b.rx.length c3]) := Chg.setN (show w.heap.size ≤ w.heap.size + 1 by omega) (show w.heap.size + 1 < w.heap.size + 1 + 1 by omega) _ k8
 have hO1 := (HO1.out.chg kk (.inr (by omega))).mono (show w.heap.size ≤ lo by omega) (Nat.le_refl _)
 have hO3 := (HO3.out.chg kk (.inr (by omega))).mono (Nat.le_refl _) kk.size
 have hBB := Below.chg hB3.out kk (Nat.le_refl _) hB3.out.size
 exact ⟨_, rfl, ⟨A1, c1, A3, c3, V.heap.size, rfl, by omega, Nat.le_trans hg3 kk.size, hO1, hO3⟩, hBB⟩
end Go.Proofs.YtkegbbndmfnolaaGreatDoor
