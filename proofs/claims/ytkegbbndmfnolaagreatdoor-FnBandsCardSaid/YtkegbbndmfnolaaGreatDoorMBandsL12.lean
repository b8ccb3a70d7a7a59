import Derived.Test.YtkegbbndmfnolaaGreatDoorMBandsL11
import Derived.Test.YtkegbbndmfnolaaGreatDoorMBandsL10
/-
 A band behind one change: contracts of both sides.
-/
namespace Go.Proofs.YtkegbbndmfnolaaGreatDoor
open Go.RowKit
set_option linter.unusedVariables false
set_option linter.unusedSimpArgs false
set_option maxRecDepth 100000

/-- A band behind one change. -/
noncomputable def stepD (b : Bnd) : Bd := ⟨b.m.name, b.m.stage, b.m.x, b.bob, b.sing, stepN b, stepC b, stepT b, stepRs b⟩
theorem changeP.size {n : Int} {c : ByteArray} (h : changeP n c) : c.size ≤ 8 := by
 have h8 := h.1.2
 rcases h.2 with h2 | h2
 ·rw [h2.1, dash_size]; omega
 ·have := h2.2.2.1; omega
theorem ownP {b : Bnd} (h : bandP b) : changeP b.m.stage (ownChg b) := by
 obtain ⟨hc, hst, _⟩ := h
 have hlt : b.step.toNat < b.m.x.length := by have := hst.1; have := hst.2; omega
 have := hc.1.2.2 b.step.toNat hlt
 unfold ownChg
 rw [List.getD_eq_getElem?_getD, List.getElem?_eq_getElem hlt]; exact this
theorem heardP {b : Bnd} (h : bandP b) : changeP b.m.stage (heardChg b) := by
 unfold heardChg
 split
 ·split
  ·exact h.1.2.1
  ·split
   ·exact h.1.2.2
   ·exact ownP h
 ·exact ownP h
/-- What is needed of a band that is taken apart. -/
structure StepF (n k : Nat) (nm : ByteArray) (x : List ByteArray) (bob sing call tru : ByteArray) (rx : List Rgr) (HC OC : ByteArray) (f : Rgr → Rgr) (D : Bd) : Prop where
 n3 : 3 ≤ n
 n8 : n ≤ 8
 kx : k < x.length
 hc : changeP (n : Int) HC
 oc : changeP (n : Int) OC
 row : isRow tru
 ts : tru.size = n
 own : ∀ h : k < x.length, x[k] = OC
 cx : (calledX x bob sing call).getD k ByteArray.empty = HC
 rl : rx.length = n
 rp : ∀ (i : Nat) (hi : i < rx.length), 1 ≤ rx[i].place ∧ rx[i].place ≤ n
 ff : ∀ r, f r = ⟨((mvP n (if r.deaf then OC else HC) r.place.toNat : Nat) : Int), r.deaf⟩
 hh : ∀ (A : Option Addr) (c : Nat) (RA : Option Addr) (rc : Nat), heardChg ⟨⟨nm, (n : Int), x, A, c⟩, bob, sing, (k : Int), call, tru, rx, RA, rc⟩ = HC
 oo : ∀ (A : Option Addr) (c : Nat) (RA : Option Addr) (rc : Nat), ownChg ⟨⟨nm, (n : Int), x, A, c⟩, bob, sing, (k : Int), call, tru, rx, RA, rc⟩ = OC
 dl : k + 1 = x.length → D = ⟨nm, n, x, bob, sing, 0, ⟨#[112]⟩, timesS tru (chgS n HC), (rx.map f).map hearR⟩
 dm : k + 1 ≠ x.length → D = ⟨nm, n, x, bob, sing, (k : Int) + 1, call, timesS tru (chgS n HC), rx.map f⟩
theorem stepF_of {b : Bnd} (h : bandP b) : StepF b.m.stage.toNat b.step.toNat b.m.name b.m.x b.bob b.sing b.call b.tru b.rx (heardChg b) (ownChg b) (stepR b) (stepD b) := by
 have hst := h.1.1.2.stage
 have h3 := hst.1
 have h8 := hst.2
 have hn : ((b.m.stage.toNat : Nat) : Int) = b.m.stage := by omega
 have hk0 := h.2.1.1
 have hk1 := h.2.1.2
 have hk : ((b.step.toNat : Nat) : Int) = b.step := by omega
 have hlt : b.step.toNat < b.m.x.length := by omega
 have ho : b.m.x[b.step.toNat] = ownChg b := by unfold ownChg; rw [List.getD_eq_getElem?_getD, List.getElem?_eq_getElem hlt]; rfl
 refine ⟨by omega, by omega, hlt, by rw [hn]; exact heardP h, by rw [hn]; exact ownP h, h.2.2.2.1.2, by have := h.2.2.2.1.1; omega, fun _ => ho, calledX_at b hk.symm hlt, by have := h.2.2.2.2.1; omega, fun i hi => by have := h.2.2.2.2.2 i hi; rw [hn]; exact this, fun r => rfl, fun A c RA rc => ?_, fun A c RA rc => ?_, fun e => ?_, fun e => ?_⟩
 ·unfold heardChg ownChg; simp only [hk, Int.toNat_natCast]
 ·unfold ownChg; simp only [Int.toNat_natCast]
 ·have hl : b.step = (b.m.x.length : Int) - 1 := by omega
  unfold stepD stepN stepC stepT stepRs
  rw [if_pos hl, if_pos hl, if_pos hl, hn]
 ·have hl : ¬ b.step = (b.m.x.length : Int) - 1 := by omega
  unfold stepD stepN stepC stepT stepRs
  rw [if_neg hl, if_neg hl, if_neg hl, hn, hk]
















set_option maxHeartbeats 6400000 in
theorem steppedF (n k : Nat) (nm : ByteArray) (x : List ByteArray) (A : Option Addr) (c : Nat) (bob sing call tru : ByteArray) (rx : List Rgr) (RA : Option Addr) (rc : Nat) (HC OC : ByteArray) (f : Rgr → Rgr) (D : Bd) (w : World)
  (hF : Hid (StepF n k nm x bob sing call tru rx HC OC f D)) (h : RdL w w.heap.size A 1 encString x) (hr : RdL w w.heap.size RA 2 Rgr.enc rx) (hl : x.length ≤ 1048576) :
  Calls Tryz.prog 81 #[.agg #[.string nm, .int .i64 (n : Int), .slice A x.length c, .string bob, .string sing, .int .i64 (k : Int), .string call, .string tru, .slice RA rx.length rc]] w fun e w' => BdOne D w e w' := by
 have hW : ∃ W : World, Hid (((w.alloc (.cells #[.string nm, .int .i64 (n : Int), .slice A x.length c, .string bob, .string sing, .int .i64 (k : Int), .string call, .string tru, .slice RA rx.length rc] 36)).alloc (.cells #[Value.string ⟨#[]⟩, .int .i64 0, .slice none 0 0, .string ⟨#[]⟩, .string ⟨#[]⟩, .int .i64 0, .string ⟨#[]⟩, .string ⟨#[]⟩, .slice none 0 0] 36)) = W) ∧ Hid (W.heap.size = w.heap.size + 2) ∧ Hid (Below w.heap.size w W) ∧ Hid (Cells W w.heap.size 9 (fun i => ((#[Value.string nm, .int .i64 (n : Int), .slice A x.length c, .string bob, .string sing, .int .i64 (k : Int), .string call, .string tru, .slice RA rx.length rc] : Array Value)).getD i undef)) ∧ Hid (Cells W (w.heap.size + 1) 9 (fun i => (#[Value.string ⟨#[]⟩, .int .i64 0, .slice none 0 0, .string ⟨#[]⟩, .string ⟨#[]⟩, .int .i64 0, .string ⟨#[]⟩, .string ⟨#[]⟩, .slice none 0 0] : Array Value).getD i undef)) := by
  have z1 : w.heap.size + 1 = (w.alloc (.cells #[.string nm, .int .i64 (n : Int), .slice A x.length c, .string bob, .string sing, .int .i64 (k : Int), .string call, .string tru, .slice RA rx.length rc] 36)).heap.size := by simp
  refine ⟨_, Lib.hid rfl, Lib.hid (by simp), Lib.hid (((Below.refl _ _).alloc (Nat.le_refl _) _).alloc (by simp) _), Lib.hid ?_, Lib.hid ?_⟩
  ·exact (Cells.newD _ #[.string nm, .int .i64 (n : Int), .slice A x.length c, .string bob, .string sing, .int .i64 (k : Int), .string call, .string tru, .slice RA rx.length rc] _).alloc _
  ·rw [z1]; exact Cells.newD _ #[Value.string ⟨#[]⟩, .int .i64 0, .slice none 0 0, .string ⟨#[]⟩, .string ⟨#[]⟩, .int .i64 0, .string ⟨#[]⟩, .string ⟨#[]⟩, .slice none 0 0] _
 obtain ⟨W, hWe, hWs, hWb, hB, hZ⟩ := hW
 have hWs1 : w.heap.size + 2 ≤ W.heap.size := by have := hWs.out; omega
 have H0 := Lib.hid h
 have Hr0 := Lib.hid hr
 clear h hr
 have hxl := hF.out.kx
 have hn3 := hF.out.n3
 have hn8 := hF.out.n8
 have hrl : rx.length ≤ 8 := by have := hF.out.rl; omega
 have hrl0 : 0 < rx.length := by have := hF.out.rl; omega
 have u0 : W.cell? ⟨w.heap.size, 0, none⟩ = some (.string nm) := hB.out.cell (i := 0) (by omega)
 have u1 : W.cell? ⟨w.heap.size, 1, none⟩ = some (.int .i64 (n : Int)) := hB.out.cell (i := 1) (by omega)
 have u2 : W.cell? ⟨w.heap.size, 2, none⟩ = some (.slice A x.length c) := hB.out.cell (i := 2) (by omega)
 have u3 : W.cell? ⟨w.heap.size, 3, none⟩ = some (.string bob) := hB.out.cell (i := 3) (by omega)
 have u4 : W.cell? ⟨w.heap.size, 4, none⟩ = some (.string sing) := hB.out.cell (i := 4) (by omega)
 have u5 : W.cell? ⟨w.heap.size, 5, none⟩ = some (.int .i64 (k : Int)) := hB.out.cell (i := 5) (by omega)
 have u6 : W.cell? ⟨w.heap.size, 6, none⟩ = some (.string call) := hB.out.cell (i := 6) (by omega)
 have u7 : W.cell? ⟨w.heap.size, 7, none⟩ = some (.string tru) := hB.out.cell (i := 7) (by omega)
 have u8 : W.cell? ⟨w.heap.size, 8, none⟩ = some (.slice RA rx.length rc) := hB.out.cell (i := 8) (by omega)
 go_enter Tryz.func81, Tryz.ntmps81
 go_wp2_with fail
 rw [hWe.out]
 clear hWe
 go_upto_region 2 with (go_at_call 110; refine (copyBand_any ⟨⟨nm, n, x, A, c⟩, bob, sing, k, call, tru, rx, RA, rc⟩ _ ((H0.out.below hWb.out (Nat.le_refl _)).more hWb.out.size) ((Hr0.out.below hWb.out (Nat.le_refl _)).more hWb.out.size) hl (by simp only; omega) (by simp only; omega) hrl0).mono ?_; rintro e wA ⟨v, rfl, hbd, hb1⟩; have hbd2 : ∃ A1 c1 A3 c3 gs, v = .agg #[.string nm, .int .i64 (n : Int), .slice A1 x.length c1, .string bob, .string sing, .int .i64 (k : Int), .string call, .string tru, .slice A3 rx.length c3] ∧ W.heap.size ≤ gs ∧ gs ≤ wA.heap.size ∧ OwnL wA W.heap.size gs A1 1 encString x ∧ OwnL wA gs wA.heap.size A3 2 Rgr.enc rx := hbd; obtain ⟨A1, c1, A3, c3, gs, rfl, hg1, hg2, ho1, ho3⟩ := hbd2; obtain ⟨ga, rfl, hga1, hga2, _⟩ := ho3.someRgr hrl0; have hO1 := Lib.hid ho1; have hO3 := Lib.hid ho3; have hb1' := Lib.hid hb1; have hs1 := hb1.size; clear ho1 ho3 hbd hb1; clear u0 u1 u2 u3 u4 u5 u6 u7 u8)
 have hbV0 : Below wA.heap.size wA (wA.alloc (.cells #[.string nm, .int .i64 (n : Int), .slice A1 x.length c1, .string bob, .string sing, .int .i64 (k : Int), .string call, .string tru, .slice (some ⟨ga, 0, none⟩) rx.length c3] 36)) := (Below.refl _ _).alloc (Nat.le_refl _) _
 have hCo : Hid (Cells (wA.alloc (.cells #[.string nm, .int .i64 (n : Int), .slice A1 x.length c1, .string bob, .string sing, .int .i64 (k : Int), .string call, .string tru, .slice (some ⟨ga, 0, none⟩) rx.length c3] 36)) wA.heap.size 9 (fun i => ([Value.string nm, .int .i64 (n : Int), .slice A1 x.length c1, .string bob, .string sing, .int .i64 (k : Int), .string call, .string tru, .slice (some ⟨ga, 0, none⟩) rx.length c3] : List Value).getD i undef)) := Lib.hid ((Cells.newD wA #[.string nm, .int .i64 (n : Int), .slice A1 x.length c1, .string bob, .string sing, .int .i64 (k : Int), .string call, .string tru, .slice (some ⟨ga, 0, none⟩) rx.length c3] 36).congr fun i hi => by
  match i, hi with
  | 0, _ => rfl
  | 1, _ => rfl
  | 2, _ => rfl
  | 3, _ => rfl
  | 4, _ => rfl
  | 5, _ => rfl
  | 6, _ => rfl
  | 7, _ => rfl
  | 8, _ => rfl)
 have hbV := Lib.hid (hb1'.out.trans (hbV0.mono hb1'.out.size))
 have hBV := Lib.hid (hB.out.below hbV.out (by omega))
 have hZV := Lib.hid (hZ.out.below hbV.out (by omega))
 have hO1V := Lib.hid (hO1.out.later hbV0)
 have hO3V := Lib.hid (hO3.out.later hbV0)
 have hsV : wA.heap.size + 1 ≤ (wA.alloc (.cells #[.string nm, .int .i64 (n : Int), .slice A1 x.length c1, .string bob, .string sing, .int .i64 (k : Int), .string call, .string tru, .slice (some ⟨ga, 0, none⟩) rx.length c3] 36)).heap.size := by simp
 have hWV := Lib.hid (hWb.out.trans (hbV.out.mono hWb.out.size))
 clear hbV0 hO1 hO3 hB hZ hbV hb1'
 generalize (wA.alloc (.cells #[.string nm, .int .i64 (n : Int), .slice A1 x.length c1, .string bob, .string sing, .int .i64 (k : Int), .string call, .string tru, .slice (some ⟨ga, 0, none⟩) rx.length c3] 36)) = V at *
 have u0 : V.cell? ⟨w.heap.size, 0, none⟩ = some (.string nm) := hBV.out.cell (i := 0) (by omega)
 have u1 : V.cell? ⟨w.heap.size, 1, none⟩ = some (.int .i64 (n : Int)) := hBV.out.cell (i := 1) (by omega)
 have u2 : V.cell? ⟨w.heap.size, 2, none⟩ = some (.slice A x.length c) := hBV.out.cell (i := 2) (by omega)
 have u3 : V.cell? ⟨w.heap.size, 3, none⟩ = some (.string bob) := hBV.out.cell (i := 3) (by omega)
 have u4 : V.cell? ⟨w.heap.size, 4, none⟩ = some (.string sing) := hBV.out.cell (i := 4) (by omega)
 have u5 : V.cell? ⟨w.heap.size, 5, none⟩ = some (.int .i64 (k : Int)) := hBV.out.cell (i := 5) (by omega)
 have u6 : V.cell? ⟨w.heap.size, 6, none⟩ = some (.string call) := hBV.out.cell (i := 6) (by omega)
 have u7 : V.cell? ⟨w.heap.size, 7, none⟩ = some (.string tru) := hBV.out.cell (i := 7) (by omega)
 have u8 : V.cell? ⟨w.heap.size, 8, none⟩ = some (.slice RA rx.length rc) := hBV.out.cell (i := 8) (by omega)
 obtain ⟨gx, offx, hA, hgx, hcx⟩ := H0.out.at hxl
 have hHA := Lib.hid hA
 clear hA
 have x0 := (hWV.out.cell (p := ⟨gx, offx + (k * 1 + 0), none⟩) hgx).trans (hcx 0 _ rfl)
 rw [Nat.mul_one, Nat.add_zero, hF.out.own hxl] at x0
 have hk1 : (k : Int) < (x.length : Int) := by omega
 have u2' := u2
 rw [hHA.out] at u2
 go_upto_region 4 with fail
 have l0 := Later.cell u0 (show w.heap.size < V.heap.size by omega)
 have l1 := Later.cell u1 (show w.heap.size < V.heap.size by omega)
 have l2 := Later.cell u2' (show w.heap.size < V.heap.size by omega)
 have l3 := Later.cell u3 (show w.heap.size < V.heap.size by omega)
 have l4 := Later.cell u4 (show w.heap.size < V.heap.size by omega)
 have l5 := Later.cell u5 (show w.heap.size < V.heap.size by omega)
 have l6 := Later.cell u6 (show w.heap.size < V.heap.size by omega)
 clear u2' x0
 refine wp_region_G (by kernel_rfl) [.q, .q, .q, .q, .q, .q, .s (fun _ u lo hi w' => ∃ A5 c5, u = .agg #[.string nm, .int .i64 (n : Int), .slice A5 (calledX x bob sing call).length c5] ∧ OwnL w' lo hi A5 1 encString (calledX x bob sing call)), .q, .q, .q, .q, .s (fun _ u lo hi w' => u = .string HC), .q] [0, 0, 0, 0, 0, 0, 1, 0, 0, 0, 0, 1, 0] rfl 3 (by kernel_rfl) (inC V) (V).heap.size (inC.size V) (inC.of (Below.refl _ _).drew) ?_
 (refine wpG_quiets 6 _ _ _ _ (by first | exact cls_none rfl | exact fun w h => h.1) (by intro j hj; rcases j with _ | _ | _ | _ | _ | _ | _ | _ | _ | _ | j <;> first | exact ⟨rfl, ⟨_, rfl, rfl⟩, rfl⟩ | (exfalso; omega)) ?_; simp only [List.take_succ_cons, List.take_zero, List.drop_succ_cons, List.drop_zero, Nat.zero_add, Nat.reduceAdd]; change wpQuiet _ _ (fun wq9 => ∃ x : Later V, wq9 = x.W) _ _ _; (repeat (go_big_quiet_step (fail))); refine wpQuiet_nil ?_; try dsimp only)
 (refine wpG_call _ rfl rfl rfl rfl (fun u lo hi => loc_ex fun A => loc_ex fun c => loc_and (loc_pure _) (loc_own (Nat.le_refl _) (Nat.le_refl _))) 131 #[.agg #[.string nm, .int .i64 (n : Int), .slice A x.length c], .agg #[.string bob, .string sing], .string call] (by intro w; go_simp) (by intro w1 hw1 hd; (refine (calledLead_any ⟨nm, n, x, A, c⟩ bob sing call _ ((H0.out.below (hWV.out.trans (hw1.below.mono hWV.out.size)) (Nat.le_refl _)).more (Nat.le_trans hWV.out.size hw1.below.size)) hl (by simp only; omega)).mono ?_; rintro e w2 ⟨A5, c5, rfl, ho, hb⟩; exact ⟨_, rfl, hw1.step hb, eff_of_below hb, A5, c5, rfl, ho⟩)) ?_)
 intro u lo hi hsat
 obtain ⟨w9, hw9⟩ := hsat
 have hr9 : ∃ A5 c5, u = .agg #[.string nm, .int .i64 (n : Int), .slice A5 (calledX x bob sing call).length c5] ∧ OwnL w9 lo hi A5 1 encString (calledX x bob sing call) := (hw9.rec rfl 6).2.2
 obtain ⟨A5, c5, rfl, hO5⟩ := hr9
 have hcl : (calledX x bob sing call).length = x.length := calledX_len _ _ _ _
 obtain ⟨g5, rfl, _, _, _⟩ := hO5.someStr (by omega)
 have hcl2 : (k : Int) < ((calledX x bob sing call).length : Int) := by omega
 have hcl3 : k < (calledX x bob sing call).length := by omega
 clear hw9 hO5 hcl
 simp only [Act.put, List.setIfInBounds_toArray, List.set_cons_zero, List.set_cons_succ, Nat.reduceAdd]
 have hfl : ∀ w : World, (Instr.field 26 (.agg #[.string nm, .int .i64 (n : Int), .slice (some ⟨g5, 0, none⟩) (calledX x bob sing call).length c5]) 2).run Tryz.prog w = .ok (.slice (some ⟨g5, 0, none⟩) (calledX x bob sing call).length c5) w := fun _ => by kernel_rfl
 (refine wpG_quiets 4 _ _ _ _ (by first | exact cls_none rfl | exact fun w h => h.1) (by intro j hj; rcases j with _ | _ | _ | _ | _ | _ | _ | _ | _ | _ | j <;> first | exact ⟨rfl, ⟨_, rfl, rfl⟩, rfl⟩ | (exfalso; omega)) ?_; simp only [List.take_succ_cons, List.take_zero, List.drop_succ_cons, List.drop_zero, Nat.zero_add, Nat.reduceAdd]; change wpQuiet _ _ (fun wq9 => ∃ x : Later V, wq9 = x.W) _ _ _; (repeat (go_big_quiet_step (fail))); refine wpQuiet_nil ?_; try dsimp only)
 refine wpG_val _ rfl rfl rfl rfl (fun u lo hi => loc_pure _) (fun w1 hw1 hd => ?_) ?_
 ·have h6 : ∃ A6 c6, (Value.agg #[.string nm, .int .i64 (n : Int), .slice (some ⟨g5, 0, none⟩) (calledX x bob sing call).length c5] : Value) = .agg #[.string nm, .int .i64 (n : Int), .slice A6 (calledX x bob sing call).length c6] ∧ OwnL w1 lo hi A6 1 encString (calledX x bob sing call) := (hd 6 (gDep_mem (by kernel_rfl))).2
  obtain ⟨A6, c6, he6, hO6⟩ := h6
  obtain ⟨rfl, rfl⟩ : some ⟨g5, 0, none⟩ = A6 ∧ c5 = c6 := by simpa using he6
  have h7 := (hO6.cellStr k hcl3).1
  have h8 : (calledX x bob sing call)[k] = HC := by have := hF.out.cx; rw [List.getD_eq_getElem?_getD, List.getElem?_eq_getElem hcl3] at this; exact this
  rw [h8] at h7
  refine ⟨.string HC, w1, ?_, hw1, eff_of_below (Below.refl _ _), rfl⟩
  go_simp
 (intro uh loh hih hsat; obtain ⟨w1, hw1⟩ := hsat; have hr : uh = .string HC := (hw1.rec rfl 11).2.2; obtain rfl := hr; clear hw1; simp only [Act.put, List.setIfInBounds_toArray, List.set_cons_zero, List.set_cons_succ, Nat.reduceAdd])
 (refine wpG_quiets 1 _ _ _ _ (by first | exact cls_none rfl | exact fun w h => h.1) (by intro j hj; rcases j with _ | _ | _ | _ | _ | _ | _ | _ | _ | _ | j <;> first | exact ⟨rfl, ⟨_, rfl, rfl⟩, rfl⟩ | (exfalso; omega)) ?_; simp only [List.take_succ_cons, List.take_zero, List.drop_succ_cons, List.drop_zero, Nat.zero_add, Nat.reduceAdd]; change wpQuiet _ _ (fun wq9 => ∃ x : Later V, wq9 = x.W) _ _ _; (repeat (go_big_quiet_step (fail))); refine wpQuiet_nil ?_; try dsimp only)
 intro V2 hh
 have hb := (hh.cls rfl).below
 have hB2 := Lib.hid (hBV.out.later hb)
 have hZ2 := Lib.hid (hZV.out.later hb)
 have hCo2 := Lib.hid (hCo.out.later hb)
 have hO12 := Lib.hid (hO1V.out.later hb)
 have hO32 := Lib.hid (hO3V.out.later hb)
 have hWV2 := Lib.hid (hWV.out.trans (hb.mono hWV.out.size))
 have hsV2 : wA.heap.size + 1 ≤ V2.heap.size := Nat.le_trans hsV hb.size
 clear hh hfl l0 l1 l2 l3 l4 l5 l6 hBV hZV hCo hO1V hO3V hWV hsV hb hcl2 hcl3
 clear u0 u1 u2 u3 u4 u5 u6 u7 u8
 obtain ⟨T, hT⟩ : ∃ T, Hid (timesS tru (chgS n HC) = T) := ⟨_, Lib.hid rfl⟩
 have hAp : Hid (∀ W, Calls Tryz.prog 132 #[.string tru, .string HC] W fun e w' => e = .returned (.string T) ∧ Below W.heap.size W w') := Lib.hid (fun W => by
  have := apply_any tru HC W hF.out.row (by have := hF.out.hc.size; omega) hF.out.hc.txt
  rw [hF.out.ts, hT.out] at this; exact this)
 have u7 : V2.cell? ⟨w.heap.size, 7, none⟩ = some (.string tru) := hB2.out.cell (i := 7) (by omega)
 go_upto_region 6 with (go_at_call 132; refine (hAp.out _).mono ?_; rintro e w3 ⟨rfl, hb3⟩; have hb3' := Lib.hid hb3; have p7 := (hCo2.out.later hb3).cell (i := 7) (by omega); have p7f := (hCo2.out.later hb3).free (i := 7) (by omega))
 have hk4 : Chg wA.heap.size (wA.heap.size + 1) w3 (w3.setCell ⟨wA.heap.size, 7, none⟩ (.string T)) := (Chg.refl _ _ w3).setCell (p := ⟨wA.heap.size, 7, none⟩) (Nat.le_refl _) (Nat.lt_succ_self _) _
 have hB4 := Lib.hid ((hB2.out.later hb3'.out).chg hk4 (.inl (show w.heap.size < wA.heap.size by omega)))
 have hZ4 := Lib.hid ((hZ2.out.later hb3'.out).chg hk4 (.inl (show w.heap.size + 1 < wA.heap.size by omega)))
 have hO14 := Lib.hid ((hO12.out.later hb3'.out).chg hk4 (.inl hg2))
 have hO34 := Lib.hid ((hO32.out.later hb3'.out).chg hk4 (.inl (Nat.le_refl _)))
 have hCo4 : Hid (Cells (w3.setCell ⟨wA.heap.size, 7, none⟩ (.string T)) wA.heap.size 9 (fun i => ([Value.string nm, .int .i64 (n : Int), .slice A1 x.length c1, .string bob, .string sing, .int .i64 (k : Int), .string call, .string T, .slice (some ⟨ga, 0, none⟩) rx.length c3] : List Value).getD i undef)) := Lib.hid (((hCo2.out.later hb3'.out).set (i := 7) (by omega) (.string T)).congr fun i hi => by
  match i, hi with
  | 0, _ => rfl
  | 1, _ => rfl
  | 2, _ => rfl
  | 3, _ => rfl
  | 4, _ => rfl
  | 5, _ => rfl
  | 6, _ => rfl
  | 7, _ => rfl
  | 8, _ => rfl)
 have hWV4 := Lib.hid (Below.chg (hWV2.out.trans (hb3'.out.mono hWV2.out.size)) hk4 (by omega) (by have := hb3'.out.size; omega))
 have hsV4 : wA.heap.size + 1 ≤ (w3.setCell ⟨wA.heap.size, 7, none⟩ (.string T)).heap.size := Nat.le_trans hsV2 (Nat.le_trans hb3'.out.size hk4.size)
 clear p7 p7f u7 hAp hk4 hB2 hZ2 hO12 hO32 hCo2 hWV2 hsV2 hb3'
 generalize (w3.setCell ⟨wA.heap.size, 7, none⟩ (.string T)) = V4 at *
 have u0 : V4.cell? ⟨w.heap.size, 0, none⟩ = some (.string nm) := hB4.out.cell (i := 0) (by omega)
 have u1 : V4.cell? ⟨w.heap.size, 1, none⟩ = some (.int .i64 (n : Int)) := hB4.out.cell (i := 1) (by omega)
 have u2 : V4.cell? ⟨w.heap.size, 2, none⟩ = some (.slice A x.length c) := hB4.out.cell (i := 2) (by omega)
 have u3 : V4.cell? ⟨w.heap.size, 3, none⟩ = some (.string bob) := hB4.out.cell (i := 3) (by omega)
 have u4 : V4.cell? ⟨w.heap.size, 4, none⟩ = some (.string sing) := hB4.out.cell (i := 4) (by omega)
 have u5 : V4.cell? ⟨w.heap.size, 5, none⟩ = some (.int .i64 (k : Int)) := hB4.out.cell (i := 5) (by omega)
 have u6 : V4.cell? ⟨w.heap.size, 6, none⟩ = some (.string call) := hB4.out.cell (i := 6) (by omega)
 have u7 : V4.cell? ⟨w.heap.size, 7, none⟩ = some (.string tru) := hB4.out.cell (i := 7) (by omega)
 have u8 : V4.cell? ⟨w.heap.size, 8, none⟩ = some (.slice RA rx.length rc) := hB4.out.cell (i := 8) (by omega)
 have hO34s := hO34
 have hmz : Hid (mix f rx 0 = rx) := Lib.hid (mix_zero f rx)
 have cc8 : V4.cell? ⟨wA.heap.size, 8, none⟩ = some (.slice (some ⟨ga, 0, none⟩) rx.length c3) := hCo4.out.cell (i := 8) (by omega)
 go_wp2_with fail
 clear cc8
 clear u0 u1 u2 u3 u4 u5 u6 u7 u8
 go_loopw [42] (fun i wr => ∃ j : Nat, j ≤ rx.length ∧ i = .int .i64 j ∧ Hid (OwnL wr gs wA.heap.size (some ⟨ga, 0, none⟩) 2 Rgr.enc (mix f rx j)) ∧ Hid (Chg ga (ga + 1) V4 wr)) (fun i _ => rx.length - (intOf i).toNat)
 case atStart => exact ⟨0, by omega, by rfl, Lib.hid (by rw [hmz.out]; exact hO34.out), Lib.hid (Chg.refl _ _ _)⟩
 case round =>
  obtain ⟨j, hj, rfl, hoj, hch⟩ := hrel
  have hgs := hch.out.size
  have hCr := Lib.hid (hCo4.out.chg hch.out (.inr (show ga + 1 ≤ wA.heap.size by omega)))
  have hBr := Lib.hid (hB4.out.chg hch.out (.inl (show w.heap.size < ga by omega)))
  by_cases hlt : j < rx.length
  ·have hml : j < (mix f rx j).length := by rw [mix_len]; exact hlt
   obtain ⟨r0, r0f, r1, r1f⟩ := hoj.out.cellRgr j hml
   have hme : (mix f rx j)[j] = rx[j] := mix_at f rx j j hml hlt (Nat.le_refl _)
   rw [hme] at r0 r1
   obtain ⟨hp1, hp2⟩ := hF.out.rp j hlt
   obtain ⟨pl, hpl⟩ : ∃ pl : Nat, rx[j].place = (pl : Int) := ⟨rx[j].place.toNat, by omega⟩
   have hset := Lib.hid (mix_set f rx j hlt)
   have hfr := Lib.hid (hF.out.ff rx[j])
   obtain ⟨dd, hdd⟩ : ∃ dd, Hid (rx[j].deaf = dd) := ⟨_, Lib.hid rfl⟩
   rw [hpl] at r0 hp1 hp2
   rw [hdd.out] at r1
   have hpl' := Lib.hid hpl
   have hme2 := hme
   clear hme hpl
   have hme' := Lib.hid hme2
   clear hme2
   cases dd with
   | true =>
    have hbR : Below wr.heap.size wr (wr.alloc (.cells #[.int .i64 (pl : Int), .bool true] 76)) := (Below.refl _ _).alloc (Nat.le_refl _) _
    have q8 : (wr.alloc (.cells #[.int .i64 (pl : Int), .bool true] 76)).cell? ⟨wA.heap.size, 8, none⟩ = some (.slice (some ⟨ga, 0, none⟩) rx.length c3) := (hCr.out.later hbR).cell (i := 8) (by omega)
    have rr : (wr.alloc (.cells #[.int .i64 (pl : Int), .bool true] 76)).cell? ⟨wr.heap.size, 0, none⟩ = some (.int .i64 (pl : Int)) := (Cells.newD wr #[.int .i64 (pl : Int), .bool true] 76).cell (i := 0) (by simp)
    obtain ⟨a0, a0f, _, _⟩ := (hoj.out.later hbR).cellRgr j hml
    have hsR : wr.heap.size + 1 ≤ (wr.alloc (.cells #[.int .i64 (pl : Int), .bool true] 76)).heap.size := by simp
    have hmd : Hid ((mix f rx j)[j].deaf = true) := Lib.hid (by rw [hme'.out]; exact hdd.out)
    have hfj : Hid (f rx[j] = ⟨((mvP n OC pl : Nat) : Int), true⟩) := Lib.hid (by rw [hfr.out, hdd.out, hpl'.out]; simp)
    have hlti : (j : Int) < (rx.length : Int) := by omega
    have hbR' := Lib.hid hbR
    clear hbR
    go_wp2_with fail
    clear r0 r0f r1 r1f
    generalize (wr.alloc (.cells #[.int .i64 (pl : Int), .bool true] 76)) = R at *
    have lq8 := Later.cell q8 (show wA.heap.size < R.heap.size by omega)
    have lrr := Later.cell rr (show wr.heap.size < R.heap.size by omega)
    clear q8 rr
    refine wp_region_G (by kernel_rfl) [.q, .q, .q, .q, .q, .q, .q, .s (fun _ u lo hi w' => u = .int .i64 ((mvP n OC pl : Nat) : Int)), .q, .q, .u] [0, 0, 0, 0, 0, 0, 0, 1, 0, 0, 3] rfl 3 (by kernel_rfl) (inC R) (R).heap.size (inC.size R) (inC.of (Below.refl _ _).drew) ?_
    (refine wpG_quiets 7 _ _ _ _ (by first | exact cls_none rfl | exact fun w h => h.1) (by intro j hj; rcases j with _ | _ | _ | _ | _ | _ | _ | _ | _ | _ | j <;> first | exact ⟨rfl, ⟨_, rfl, rfl⟩, rfl⟩ | (exfalso; omega)) ?_; simp only [List.take_succ_cons, List.take_zero, List.drop_succ_cons, List.drop_zero, Nat.zero_add, Nat.reduceAdd]; change wpQuiet _ _ (fun wq9 => ∃ x : Later R, wq9 = x.W) _ _ _; (repeat (go_big_quiet_step (fail))); refine wpQuiet_nil ?_; try dsimp only)
    (refine wpG_call _ rfl rfl rfl rfl (fun u lo hi => loc_pure _) 133 #[.int .i64 (n : Int), .string OC, .int .i64 (pl : Int)] (by intro w; go_simp) (by intro w1 hw1 hd; (refine (movedTo_any n OC pl _ hn3 hn8 (by have := hF.out.oc.size; omega) hF.out.oc.txt (by omega) (by omega)).mono ?_; rintro e w2 ⟨rfl, hb⟩; exact ⟨_, rfl, hw1.step hb, eff_of_below hb, rfl⟩)) ?_)
    (intro um lom him hsat; obtain ⟨w1, hw1⟩ := hsat; have hr : um = .int .i64 ((mvP n OC pl : Nat) : Int) := (hw1.rec rfl 7).2.2; obtain rfl := hr; clear hw1; simp only [Act.put, List.setIfInBounds_toArray, List.set_cons_zero, List.set_cons_succ, Nat.reduceAdd])
    (refine wpG_quiets 2 _ _ _ _ (by first | exact cls_none rfl | exact fun w h => h.1) (by intro j hj; rcases j with _ | _ | _ | _ | _ | _ | _ | _ | _ | _ | j <;> first | exact ⟨rfl, ⟨_, rfl, rfl⟩, rfl⟩ | (exfalso; omega)) ?_; simp only [List.take_succ_cons, List.take_zero, List.drop_succ_cons, List.drop_zero, Nat.zero_add, Nat.reduceAdd]; change wpQuiet _ _ (fun wq9 => ∃ x : Later R, wq9 = x.W) _ _ _; (repeat (go_big_quiet_step (fail))); refine wpQuiet_nil ?_; try dsimp only)
    refine wpG_u (fun w' => w'.setCell ⟨ga, j * 2, none⟩ (.int .i64 ((mvP n OC pl : Nat) : Int))) rfl rfl rfl rfl (by intro w1 hw1; have hb1 := (hw1.cls rfl).below; have p0 := (hb1.cell (p := ⟨ga, j * 2, none⟩) (show ga < R.heap.size by omega)).trans a0; have p0f := (hb1.frozen (p := ⟨ga, j * 2, none⟩) (show ga < R.heap.size by omega)).trans a0f; clear hw1; go_simp; try rfl) ?_
    intro w' hh
    obtain ⟨wz, hz, rfl⟩ := hh
    have hbz := Lib.hid (hbR'.out.trans ((hz.cls rfl).below.mono hbR'.out.size))
    clear hz a0 a0f lq8 lrr
    go_wp2_with fail
    go_roundw
    case rel =>
     refine ⟨j + 1, by omega, by go_num, Lib.hid ?_, Lib.hid ((hch.out.trans (Chg.of_below hbz.out)).setCell (p := ⟨ga, j * 2, none⟩) (Nat.le_refl _) (Nat.lt_succ_self _) _)⟩
     have h1 := (hoj.out.later hbz.out).setPlace j hml ((mvP n OC pl : Nat) : Int)
     rw [hmd.out, ← hfj.out, hset.out] at h1
     exact h1
    case measure => simp [intOf]; omega
   | false =>
    have hbR : Below wr.heap.size wr (wr.alloc (.cells #[.int .i64 (pl : Int), .bool false] 76)) := (Below.refl _ _).alloc (Nat.le_refl _) _
    have q8 : (wr.alloc (.cells #[.int .i64 (pl : Int), .bool false] 76)).cell? ⟨wA.heap.size, 8, none⟩ = some (.slice (some ⟨ga, 0, none⟩) rx.length c3) := (hCr.out.later hbR).cell (i := 8) (by omega)
    have rr : (wr.alloc (.cells #[.int .i64 (pl : Int), .bool false] 76)).cell? ⟨wr.heap.size, 0, none⟩ = some (.int .i64 (pl : Int)) := (Cells.newD wr #[.int .i64 (pl : Int), .bool false] 76).cell (i := 0) (by simp)
    obtain ⟨a0, a0f, _, _⟩ := (hoj.out.later hbR).cellRgr j hml
    have hsR : wr.heap.size + 1 ≤ (wr.alloc (.cells #[.int .i64 (pl : Int), .bool false] 76)).heap.size := by simp
    have hmd : Hid ((mix f rx j)[j].deaf = false) := Lib.hid (by rw [hme'.out]; exact hdd.out)
    have hfj : Hid (f rx[j] = ⟨((mvP n HC pl : Nat) : Int), false⟩) := Lib.hid (by rw [hfr.out, hdd.out, hpl'.out]; simp)
    have hlti : (j : Int) < (rx.length : Int) := by omega
    have hbR' := Lib.hid hbR
    clear hbR
    go_wp2_with fail
    clear r0 r0f r1 r1f
    generalize (wr.alloc (.cells #[.int .i64 (pl : Int), .bool false] 76)) = R at *
    have lq8 := Later.cell q8 (show wA.heap.size < R.heap.size by omega)
    have lrr := Later.cell rr (show wr.heap.size < R.heap.size by omega)
    clear q8 rr
    refine wp_region_G (by kernel_rfl) [.q, .q, .q, .q, .q, .q, .q, .s (fun _ u lo hi w' => u = .int .i64 ((mvP n HC pl : Nat) : Int)), .q, .q, .u] [0, 0, 0, 0, 0, 0, 0, 1, 0, 0, 3] rfl 3 (by kernel_rfl) (inC R) (R).heap.size (inC.size R) (inC.of (Below.refl _ _).drew) ?_
    (refine wpG_quiets 7 _ _ _ _ (by first | exact cls_none rfl | exact fun w h => h.1) (by intro j hj; rcases j with _ | _ | _ | _ | _ | _ | _ | _ | _ | _ | j <;> first | exact ⟨rfl, ⟨_, rfl, rfl⟩, rfl⟩ | (exfalso; omega)) ?_; simp only [List.take_succ_cons, List.take_zero, List.drop_succ_cons, List.drop_zero, Nat.zero_add, Nat.reduceAdd]; change wpQuiet _ _ (fun wq9 => ∃ x : Later R, wq9 = x.W) _ _ _; (repeat (go_big_quiet_step (fail))); refine wpQuiet_nil ?_; try dsimp only)
    (refine wpG_call _ rfl rfl rfl rfl (fun u lo hi => loc_pure _) 133 #[.int .i64 (n : Int), .string HC, .int .i64 (pl : Int)] (by intro w; go_simp) (by intro w1 hw1 hd; (refine (movedTo_any n HC pl _ hn3 hn8 (by have := hF.out.hc.size; omega) hF.out.hc.txt (by omega) (by omega)).mono ?_; rintro e w2 ⟨rfl, hb⟩; exact ⟨_, rfl, hw1.step hb, eff_of_below hb, rfl⟩)) ?_)
    (intro um lom him hsat; obtain ⟨w1, hw1⟩ := hsat; have hr : um = .int .i64 ((mvP n HC pl : Nat) : Int) := (hw1.rec rfl 7).2.2; obtain rfl := hr; clear hw1; simp only [Act.put, List.setIfInBounds_toArray, List.set_cons_zero, List.set_cons_succ, Nat.reduceAdd])
    (refine wpG_quiets 2 _ _ _ _ (by first | exact cls_none rfl | exact fun w h => h.1) (by intro j hj; rcases j with _ | _ | _ | _ | _ | _ | _ | _ | _ | _ | j <;> first | exact ⟨rfl, ⟨_, rfl, rfl⟩, rfl⟩ | (exfalso; omega)) ?_; simp only [List.take_succ_cons, List.take_zero, List.drop_succ_cons, List.drop_zero, Nat.zero_add, Nat.reduceAdd]; change wpQuiet _ _ (fun wq9 => ∃ x : Later R, wq9 = x.W) _ _ _; (repeat (go_big_quiet_step (fail))); refine wpQuiet_nil ?_; try dsimp only)
    refine wpG_u (fun w' => w'.setCell ⟨ga, j * 2, none⟩ (.int .i64 ((mvP n HC pl : Nat) : Int))) rfl rfl rfl rfl (by intro w1 hw1; have hb1 := (hw1.cls rfl).below; have p0 := (hb1.cell (p := ⟨ga, j * 2, none⟩) (show ga < R.heap.size by omega)).trans a0; have p0f := (hb1.frozen (p := ⟨ga, j * 2, none⟩) (show ga < R.heap.size by omega)).trans a0f; clear hw1; go_simp; try rfl) ?_
    intro w' hh
    obtain ⟨wz, hz, rfl⟩ := hh
    have hbz := Lib.hid (hbR'.out.trans ((hz.cls rfl).below.mono hbR'.out.size))
    clear hz a0 a0f lq8 lrr
    go_wp2_with fail
    go_roundw
    case rel =>
     refine ⟨j + 1, by omega, by go_num, Lib.hid ?_, Lib.hid ((hch.out.trans (Chg.of_below hbz.out)).setCell (p := ⟨ga, j * 2, none⟩) (Nat.le_refl _) (Nat.lt_succ_self _) _)⟩
     have h1 := (hoj.out.later hbz.out).setPlace j hml ((mvP n HC pl : Nat) : Int)
     rw [hmd.out, ← hfj.out, hset.out] at h1
     exact h1
    case measure => simp [intOf]; omega
  ·obtain rfl : j = rx.length := by omega
   have hom := hoj.out
   rw [mix_all f rx rx.length (Nat.le_refl _)] at hom
   have hO3x := Lib.hid hom
   clear hom hoj
   have hZr := Lib.hid (hZ4.out.chg hch.out (.inl (show w.heap.size + 1 < ga by omega)))
   have hO1r := Lib.hid (hO14.out.chg hch.out (.inl (by omega)))
   have hWr := Lib.hid (Below.chg hWV4.out hch.out (by omega) hWV4.out.size)
   have p5 : wr.cell? ⟨wA.heap.size, 5, none⟩ = some (.int .i64 (k : Int)) := hCr.out.cell (i := 5) (by omega)
   have p5f := hCr.out.free (i := 5) (by omega)
   have p6 : wr.cell? ⟨wA.heap.size, 6, none⟩ = some (.string call) := hCr.out.cell (i := 6) (by omega)
   have p6f := hCr.out.free (i := 6) (by omega)
   have u2 : wr.cell? ⟨w.heap.size, 2, none⟩ = some (.slice A x.length c) := hBr.out.cell (i := 2) (by omega)
   by_cases hla : k + 1 = x.length
   ·have hlb : ((k : Int) + 1 == (x.length : Int)) = true := beq_iff_eq.2 (by omega)
    have hla' := Lib.hid hla
    clear hla
    go_upto_region 16 with fail
    have kE : Chg wA.heap.size (wA.heap.size + 1) wr (((wr.setCell ⟨wA.heap.size, 5, none⟩ (.int .i64 ((k : Int) + 1))).setCell ⟨wA.heap.size, 5, none⟩ (.int .i64 0)).setCell ⟨wA.heap.size, 6, none⟩ (.string ⟨#[112]⟩)) := (((Chg.refl _ _ wr).setCell (p := ⟨wA.heap.size, 5, none⟩) (Nat.le_refl _) (Nat.lt_succ_self _) _).setCell (p := ⟨wA.heap.size, 5, none⟩) (Nat.le_refl _) (Nat.lt_succ_self _) _).setCell (p := ⟨wA.heap.size, 6, none⟩) (Nat.le_refl _) (Nat.lt_succ_self _) _
    have hC5 : Hid (Cells (((wr.setCell ⟨wA.heap.size, 5, none⟩ (.int .i64 ((k : Int) + 1))).setCell ⟨wA.heap.size, 5, none⟩ (.int .i64 0)).setCell ⟨wA.heap.size, 6, none⟩ (.string ⟨#[112]⟩)) wA.heap.size 9 (fun i => ([Value.string nm, .int .i64 (n : Int), .slice A1 x.length c1, .string bob, .string sing, .int .i64 0, .string ⟨#[112]⟩, .string T, .slice (some ⟨ga, 0, none⟩) rx.length c3] : List Value).getD i undef)) := Lib.hid ((((hCr.out.set (i := 5) (by omega) (.int .i64 ((k : Int) + 1))).set (i := 5) (by omega) (.int .i64 0)).set (i := 6) (by omega) (.string ⟨#[112]⟩)).congr fun i hi => by
     match i, hi with
     | 0, _ => rfl
     | 1, _ => rfl
     | 2, _ => rfl
     | 3, _ => rfl
     | 4, _ => rfl
     | 5, _ => rfl
     | 6, _ => rfl
     | 7, _ => rfl
     | 8, _ => rfl)
    have hZ5 := Lib.hid (hZr.out.chg kE (.inl (show w.heap.size + 1 < wA.heap.size by omega)))
    have hO15 := Lib.hid (hO1r.out.chg kE (.inl (by omega)))
    have hO35 := Lib.hid (hO3x.out.chg kE (.inl (Nat.le_refl _)))
    have hW5 := Lib.hid (Below.chg hWr.out kE (by omega) hWr.out.size)
    have hsE : wA.heap.size + 1 ≤ (((wr.setCell ⟨wA.heap.size, 5, none⟩ (.int .i64 ((k : Int) + 1))).setCell ⟨wA.heap.size, 5, none⟩ (.int .i64 0)).setCell ⟨wA.heap.size, 6, none⟩ (.string ⟨#[112]⟩)).heap.size := Nat.le_trans (by omega) kE.size
    clear kE p5 p5f p6 p6f u2
    generalize (((wr.setCell ⟨wA.heap.size, 5, none⟩ (.int .i64 ((k : Int) + 1))).setCell ⟨wA.heap.size, 5, none⟩ (.int .i64 0)).setCell ⟨wA.heap.size, 6, none⟩ (.string ⟨#[112]⟩)) = VF at *
    obtain ⟨L1, hL1⟩ : ∃ L1, Hid (rx.map f = L1) := ⟨_, Lib.hid rfl⟩
    have hll : Hid (L1.length = rx.length) := Lib.hid (by rw [← hL1.out]; simp)
    rw [hL1.out] at hO35
    have c8 : VF.cell? ⟨wA.heap.size, 8, none⟩ = some (.slice (some ⟨ga, 0, none⟩) rx.length c3) := hC5.out.cell (i := 8) (by omega)
    have hmz2 : Hid (mix hearR L1 0 = L1) := Lib.hid (mix_zero hearR L1)
    go_wp2_with fail
    clear c8
    go_loopw [86] (fun i wr => ∃ j2 : Nat, j2 ≤ rx.length ∧ i = .int .i64 j2 ∧ Hid (OwnL wr gs wA.heap.size (some ⟨ga, 0, none⟩) 2 Rgr.enc (mix hearR L1 j2)) ∧ Hid (Chg ga (ga + 1) VF wr)) (fun i _ => rx.length - (intOf i).toNat)
    case atStart => exact ⟨0, by omega, by rfl, Lib.hid (by rw [hmz2.out]; exact hO35.out), Lib.hid (Chg.refl _ _ _)⟩
    case round =>
     obtain ⟨j2, hj2, rfl, hoj2, hch2⟩ := hrel
     have hgs2 := hch2.out.size
     by_cases hlt2 : j2 < rx.length
     ·have hml2 : j2 < (mix hearR L1 j2).length := by rw [mix_len, hll.out]; exact hlt2
      obtain ⟨_, _, r1, r1f⟩ := hoj2.out.cellRgr j2 hml2
      have c8 : wr.cell? ⟨wA.heap.size, 8, none⟩ = some (.slice (some ⟨ga, 0, none⟩) rx.length c3) := (hC5.out.chg hch2.out (.inr (show ga + 1 ≤ wA.heap.size by omega))).cell (i := 8) (by omega)
      have hs2 := Lib.hid (mix_set hearR L1 j2 (by rw [hll.out]; exact hlt2))
      have hm2 : Hid ((mix hearR L1 j2)[j2] = L1[j2]'(by rw [hll.out]; exact hlt2)) := Lib.hid (mix_at hearR L1 j2 j2 hml2 (by rw [hll.out]; exact hlt2) (Nat.le_refl _))
      go_wp2_with fail
      go_roundw
      case rel =>
       refine ⟨j2 + 1, by omega, by go_num, Lib.hid ?_, Lib.hid (hch2.out.setCell (p := ⟨ga, j2 * 2 + 1, none⟩) (Nat.le_refl _) (Nat.lt_succ_self _) _)⟩
       have h1 := hoj2.out.setDeaf j2 hml2 false
       rw [hm2.out, show (⟨(L1[j2]'(by rw [hll.out]; exact hlt2)).place, false⟩ : Rgr) = hearR (L1[j2]'(by rw [hll.out]; exact hlt2)) from rfl, hs2.out] at h1
       exact h1
      case measure => simp [intOf]; omega
     ·obtain rfl : j2 = rx.length := by omega
      have hom := hoj2.out
      rw [mix_all hearR L1 rx.length (by rw [hll.out]; exact Nat.le_refl _), ← hL1.out] at hom
      have hO3e := Lib.hid hom
      have hCe := Lib.hid (hC5.out.chg hch2.out (.inr (show ga + 1 ≤ wA.heap.size by omega)))
      have hZe := Lib.hid (hZ5.out.chg hch2.out (.inl (show w.heap.size + 1 < ga by omega)))
      have hO1e := Lib.hid (hO15.out.chg hch2.out (.inl (by omega)))
      have hWe2 := Lib.hid (Below.chg hW5.out hch2.out (by omega) hW5.out.size)
      clear hom hoj2 hO35 hC5 hZ5 hO15 hW5
      have b0 : wr.cell? ⟨wA.heap.size, 0, none⟩ = some (.string nm) := hCe.out.cell (i := 0) (by omega)
      have b1 : wr.cell? ⟨wA.heap.size, 1, none⟩ = some (.int .i64 (n : Int)) := hCe.out.cell (i := 1) (by omega)
      have b2 : wr.cell? ⟨wA.heap.size, 2, none⟩ = some (.slice A1 x.length c1) := hCe.out.cell (i := 2) (by omega)
      have b3 : wr.cell? ⟨wA.heap.size, 3, none⟩ = some (.string bob) := hCe.out.cell (i := 3) (by omega)
      have b4 : wr.cell? ⟨wA.heap.size, 4, none⟩ = some (.string sing) := hCe.out.cell (i := 4) (by omega)
      have b5 : wr.cell? ⟨wA.heap.size, 5, none⟩ = some (.int .i64 0) := hCe.out.cell (i := 5) (by omega)
      have b6 : wr.cell? ⟨wA.heap.size, 6, none⟩ = some (.string ⟨#[112]⟩) := hCe.out.cell (i := 6) (by omega)
      have b7 : wr.cell? ⟨wA.heap.size, 7, none⟩ = some (.string T) := hCe.out.cell (i := 7) (by omega)
      have b8 : wr.cell? ⟨wA.heap.size, 8, none⟩ = some (.slice (some ⟨ga, 0, none⟩) rx.length c3) := hCe.out.cell (i := 8) (by omega)
      have z0 := hZe.out.cell (i := 0) (by omega)
      have zf0 := hZe.out.free (i := 0) (by omega)
      have z1 := hZe.out.cell (i := 1) (by omega)
      have zf1 := hZe.out.free (i := 1) (by omega)
      have z2 := hZe.out.cell (i := 2) (by omega)
      have zf2 := hZe.out.free (i := 2) (by omega)
      have z3 := hZe.out.cell (i := 3) (by omega)
      have zf3 := hZe.out.free (i := 3) (by omega)
      have z4 := hZe.out.cell (i := 4) (by omega)
      have zf4 := hZe.out.free (i := 4) (by omega)
      have z5 := hZe.out.cell (i := 5) (by omega)
      have zf5 := hZe.out.free (i := 5) (by omega)
      have z6 := hZe.out.cell (i := 6) (by omega)
      have zf6 := hZe.out.free (i := 6) (by omega)
      have z7 := hZe.out.cell (i := 7) (by omega)
      have zf7 := hZe.out.free (i := 7) (by omega)
      have z8 := hZe.out.cell (i := 8) (by omega)
      have zf8 := hZe.out.free (i := 8) (by omega)
      go_wp2
      refine bodyPost_ret (v := .agg #[.string nm, .int .i64 (n : Int), .slice A1 x.length c1, .string bob, .string sing, .int .i64 0, .string ⟨#[112]⟩, .string T, .slice (some ⟨ga, 0, none⟩) rx.length c3]) (by simp [results, Tryz.results81, go_sem, z0, z1, z2, z3, z4, z5, z6, z7, z8, zf0, zf1, zf2, zf3, zf4, zf5, zf6, zf7, zf8]) rfl ?_
      have kk : Chg (w.heap.size + 1) (w.heap.size + 1 + 1) wr (setN wr (w.heap.size + 1) 0 [Value.string nm, .int .i64 (n : Int), .slice A1 x.length c1, .string bob, .string sing, .int .i64 0, .string ⟨#[112]⟩, .string T, .slice (some ⟨ga, 0, none⟩) rx.length c3]) := Chg.setN (Nat.le_refl _) (Nat.lt_succ_self _) _ (Chg.refl _ _ _)
      have hO1f := (hO1e.out.chg kk (.inr (by omega))).mono (show w.heap.size ≤ W.heap.size by omega) (Nat.le_refl _)
      have hO3f := (hO3e.out.chg kk (.inr (by omega))).mono (Nat.le_refl _) (Nat.le_trans (show wA.heap.size ≤ (wr).heap.size by omega) kk.size)
      have hBB := Below.chg hWe2.out kk (by omega) hWe2.out.size
      exact ⟨_, rfl, by rw [(hF.out.dl hla'.out), hT.out]; exact ⟨A1, c1, some ⟨ga, 0, none⟩, c3, gs, by simp, by omega, Nat.le_trans (show gs ≤ (wr).heap.size by omega) kk.size, hO1f, hO3f⟩, hBB⟩
   ·have hlb : ((k : Int) + 1 == (x.length : Int)) = false := beq_eq_false_iff_ne.2 (by omega)
    have hla' := Lib.hid hla
    clear hla
    go_upto_region 21 with fail
    have kE : Chg wA.heap.size (wA.heap.size + 1) wr (wr.setCell ⟨wA.heap.size, 5, none⟩ (.int .i64 ((k : Int) + 1))) := (Chg.refl _ _ wr).setCell (p := ⟨wA.heap.size, 5, none⟩) (Nat.le_refl _) (Nat.lt_succ_self _) _
    have hCe : Hid (Cells (wr.setCell ⟨wA.heap.size, 5, none⟩ (.int .i64 ((k : Int) + 1))) wA.heap.size 9 (fun i => ([Value.string nm, .int .i64 (n : Int), .slice A1 x.length c1, .string bob, .string sing, .int .i64 ((k : Int) + 1), .string call, .string T, .slice (some ⟨ga, 0, none⟩) rx.length c3] : List Value).getD i undef)) := Lib.hid ((hCr.out.set (i := 5) (by omega) (.int .i64 ((k : Int) + 1))).congr fun i hi => by
     match i, hi with
     | 0, _ => rfl
     | 1, _ => rfl
     | 2, _ => rfl
     | 3, _ => rfl
     | 4, _ => rfl
     | 5, _ => rfl
     | 6, _ => rfl
     | 7, _ => rfl
     | 8, _ => rfl)
    have hZe := Lib.hid (hZr.out.chg kE (.inl (show w.heap.size + 1 < wA.heap.size by omega)))
    have hO1e := Lib.hid (hO1r.out.chg kE (.inl (by omega)))
    have hO3e := Lib.hid (hO3x.out.chg kE (.inl (Nat.le_refl _)))
    have hWe2 := Lib.hid (Below.chg hWr.out kE (by omega) hWr.out.size)
    have hsE : wA.heap.size + 1 ≤ (wr.setCell ⟨wA.heap.size, 5, none⟩ (.int .i64 ((k : Int) + 1))).heap.size := Nat.le_trans (by omega) kE.size
    clear kE p5 p5f p6 p6f u2
    generalize (wr.setCell ⟨wA.heap.size, 5, none⟩ (.int .i64 ((k : Int) + 1))) = VE at *
    have b0 : VE.cell? ⟨wA.heap.size, 0, none⟩ = some (.string nm) := hCe.out.cell (i := 0) (by omega)
    have b1 : VE.cell? ⟨wA.heap.size, 1, none⟩ = some (.int .i64 (n : Int)) := hCe.out.cell (i := 1) (by omega)
    have b2 : VE.cell? ⟨wA.heap.size, 2, none⟩ = some (.slice A1 x.length c1) := hCe.out.cell (i := 2) (by omega)
    have b3 : VE.cell? ⟨wA.heap.size, 3, none⟩ = some (.string bob) := hCe.out.cell (i := 3) (by omega)
    have b4 : VE.cell? ⟨wA.heap.size, 4, none⟩ = some (.string sing) := hCe.out.cell (i := 4) (by omega)
    have b5 : VE.cell? ⟨wA.heap.size, 5, none⟩ = some (.int .i64 ((k : Int) + 1)) := hCe.out.cell (i := 5) (by omega)
    have b6 : VE.cell? ⟨wA.heap.size, 6, none⟩ = some (.string call) := hCe.out.cell (i := 6) (by omega)
    have b7 : VE.cell? ⟨wA.heap.size, 7, none⟩ = some (.string T) := hCe.out.cell (i := 7) (by omega)
    have b8 : VE.cell? ⟨wA.heap.size, 8, none⟩ = some (.slice (some ⟨ga, 0, none⟩) rx.length c3) := hCe.out.cell (i := 8) (by omega)
    have z0 := hZe.out.cell (i := 0) (by omega)
    have zf0 := hZe.out.free (i := 0) (by omega)
    have z1 := hZe.out.cell (i := 1) (by omega)
    have zf1 := hZe.out.free (i := 1) (by omega)
    have z2 := hZe.out.cell (i := 2) (by omega)
    have zf2 := hZe.out.free (i := 2) (by omega)
    have z3 := hZe.out.cell (i := 3) (by omega)
    have zf3 := hZe.out.free (i := 3) (by omega)
    have z4 := hZe.out.cell (i := 4) (by omega)
    have zf4 := hZe.out.free (i := 4) (by omega)
    have z5 := hZe.out.cell (i := 5) (by omega)
    have zf5 := hZe.out.free (i := 5) (by omega)
    have z6 := hZe.out.cell (i := 6) (by omega)
    have zf6 := hZe.out.free (i := 6) (by omega)
    have z7 := hZe.out.cell (i := 7) (by omega)
    have zf7 := hZe.out.free (i := 7) (by omega)
    have z8 := hZe.out.cell (i := 8) (by omega)
    have zf8 := hZe.out.free (i := 8) (by omega)
    go_wp2
    refine bodyPost_ret (v := .agg #[.string nm, .int .i64 (n : Int), .slice A1 x.length c1, .string bob, .string sing, .int .i64 ((k : Int) + 1), .string call, .string T, .slice (some ⟨ga, 0, none⟩) rx.length c3]) (by simp [results, Tryz.results81, go_sem, z0, z1, z2, z3, z4, z5, z6, z7, z8, zf0, zf1, zf2, zf3, zf4, zf5, zf6, zf7, zf8]) rfl ?_
    have kk : Chg (w.heap.size + 1) (w.heap.size + 1 + 1) VE (setN VE (w.heap.size + 1) 0 [Value.string nm, .int .i64 (n : Int), .slice A1 x.length c1, .string bob, .string sing, .int .i64 ((k : Int) + 1), .string call, .string T, .slice (some ⟨ga, 0, none⟩) rx.length c3]) := Chg.setN (Nat.le_refl _) (Nat.lt_succ_self _) _ (Chg.refl _ _ _)
    have hO1f := (hO1e.out.chg kk (.inr (by omega))).mono (show w.heap.size ≤ W.heap.size by omega) (Nat.le_refl _)
    have hO3f := (hO3e.out.chg kk (.inr (by omega))).mono (Nat.le_refl _) (Nat.le_trans (show wA.heap.size ≤ (VE).heap.size by omega) kk.size)
    have hBB := Below.chg hWe2.out kk (by omega) hWe2.out.size
    exact ⟨_, rfl, by rw [(hF.out.dm hla'.out), hT.out]; exact ⟨A1, c1, some ⟨ga, 0, none⟩, c3, gs, by simp, by omega, Nat.le_trans (show gs ≤ (VE).heap.size by omega) kk.size, hO1f, hO3f⟩, hBB⟩
theorem l24ChangeF {n k : Nat} {nm : ByteArray} {x : List ByteArray} {bob sing call tru : ByteArray} {rx : List Rgr} {HC OC : ByteArray} {f : Rgr → Rgr} {D : Bd} (hF : StepF n k nm x bob sing call tru rx HC OC f D) (A : Option Addr) (c : Nat) (RA : Option Addr) (rc : Nat) (heard : Bool) (w : World) (h : RdL w w.heap.size A 1 encString x) (hl : x.length ≤ 1048576) :
  Calls Tryz.prog 135 #[.agg #[.string nm, .int .i64 (n : Int), .slice A x.length c, .string bob, .string sing, .int .i64 (k : Int), .string call, .string tru, .slice RA rx.length rc], .bool heard] w fun e w' => e = .returned (.string (if heard then HC else OC)) ∧ Below w.heap.size w w' := by
 have := l24Change_any ⟨⟨nm, (n : Int), x, A, c⟩, bob, sing, (k : Int), call, tru, rx, RA, rc⟩ heard w h hl ⟨by simp only; omega, by have := hF.kx; simp only; omega⟩
 rw [hF.hh, hF.oo] at this
 exact this


set_option maxHeartbeats 6400000 in
theorem l24StepF (n k : Nat) (nm : ByteArray) (x : List ByteArray) (A : Option Addr) (c : Nat) (bob sing call tru : ByteArray) (rx : List Rgr) (RA : Option Addr) (rc : Nat) (HC OC : ByteArray) (f : Rgr → Rgr) (D : Bd) (w : World)
  (hF : Hid (StepF n k nm x bob sing call tru rx HC OC f D)) (h : RdL w w.heap.size A 1 encString x) (hr : RdL w w.heap.size RA 2 Rgr.enc rx) (hl : x.length ≤ 1048576) :
  Calls Tryz.prog 82 #[.agg #[.string nm, .int .i64 (n : Int), .slice A x.length c, .string bob, .string sing, .int .i64 (k : Int), .string call, .string tru, .slice RA rx.length rc]] w fun e w' => BdOne D w e w' := by
 have hW : ∃ W : World, Hid (((w.alloc (.cells #[.string nm, .int .i64 (n : Int), .slice A x.length c, .string bob, .string sing, .int .i64 (k : Int), .string call, .string tru, .slice RA rx.length rc] 36)).alloc (.cells #[Value.string ⟨#[]⟩, .int .i64 0, .slice none 0 0, .string ⟨#[]⟩, .string ⟨#[]⟩, .int .i64 0, .string ⟨#[]⟩, .string ⟨#[]⟩, .slice none 0 0] 36)) = W) ∧ Hid (W.heap.size = w.heap.size + 2) ∧ Hid (Below w.heap.size w W) ∧ Hid (Cells W w.heap.size 9 (fun i => ((#[Value.string nm, .int .i64 (n : Int), .slice A x.length c, .string bob, .string sing, .int .i64 (k : Int), .string call, .string tru, .slice RA rx.length rc] : Array Value)).getD i undef)) ∧ Hid (Cells W (w.heap.size + 1) 9 (fun i => (#[Value.string ⟨#[]⟩, .int .i64 0, .slice none 0 0, .string ⟨#[]⟩, .string ⟨#[]⟩, .int .i64 0, .string ⟨#[]⟩, .string ⟨#[]⟩, .slice none 0 0] : Array Value).getD i undef)) := by
  have z1 : w.heap.size + 1 = (w.alloc (.cells #[.string nm, .int .i64 (n : Int), .slice A x.length c, .string bob, .string sing, .int .i64 (k : Int), .string call, .string tru, .slice RA rx.length rc] 36)).heap.size := by simp
  refine ⟨_, Lib.hid rfl, Lib.hid (by simp), Lib.hid (((Below.refl _ _).alloc (Nat.le_refl _) _).alloc (by simp) _), Lib.hid ?_, Lib.hid ?_⟩
  ·exact (Cells.newD _ #[.string nm, .int .i64 (n : Int), .slice A x.length c, .string bob, .string sing, .int .i64 (k : Int), .string call, .string tru, .slice RA rx.length rc] _).alloc _
  ·rw [z1]; exact Cells.newD _ #[Value.string ⟨#[]⟩, .int .i64 0, .slice none 0 0, .string ⟨#[]⟩, .string ⟨#[]⟩, .int .i64 0, .string ⟨#[]⟩, .string ⟨#[]⟩, .slice none 0 0] _
 obtain ⟨W, hWe, hWs, hWb, hB, hZ⟩ := hW
 have hWs1 : w.heap.size + 2 ≤ W.heap.size := by have := hWs.out; omega
 have H0 := Lib.hid h
 have Hr0 := Lib.hid hr
 clear h hr
 have hxl := hF.out.kx
 have hn3 := hF.out.n3
 have hn8 := hF.out.n8
 have hrl : rx.length ≤ 8 := by have := hF.out.rl; omega
 have hrl0 : 0 < rx.length := by have := hF.out.rl; omega
 have u0 : W.cell? ⟨w.heap.size, 0, none⟩ = some (.string nm) := hB.out.cell (i := 0) (by omega)
 have u1 : W.cell? ⟨w.heap.size, 1, none⟩ = some (.int .i64 (n : Int)) := hB.out.cell (i := 1) (by omega)
 have u2 : W.cell? ⟨w.heap.size, 2, none⟩ = some (.slice A x.length c) := hB.out.cell (i := 2) (by omega)
 have u3 : W.cell? ⟨w.heap.size, 3, none⟩ = some (.string bob) := hB.out.cell (i := 3) (by omega)
 have u4 : W.cell? ⟨w.heap.size, 4, none⟩ = some (.string sing) := hB.out.cell (i := 4) (by omega)
 have u5 : W.cell? ⟨w.heap.size, 5, none⟩ = some (.int .i64 (k : Int)) := hB.out.cell (i := 5) (by omega)
 have u6 : W.cell? ⟨w.heap.size, 6, none⟩ = some (.string call) := hB.out.cell (i := 6) (by omega)
 have u7 : W.cell? ⟨w.heap.size, 7, none⟩ = some (.string tru) := hB.out.cell (i := 7) (by omega)
 have u8 : W.cell? ⟨w.heap.size, 8, none⟩ = some (.slice RA rx.length rc) := hB.out.cell (i := 8) (by omega)
 go_enter Tryz.func82, Tryz.ntmps82
 go_wp2_with fail
 rw [hWe.out]
 clear hWe
 go_upto_region 2 with (go_at_call 118; refine (l24Own_any ⟨⟨nm, n, x, A, c⟩, bob, sing, k, call, tru, rx, RA, rc⟩ _ ((H0.out.below hWb.out (Nat.le_refl _)).more hWb.out.size) ((Hr0.out.below hWb.out (Nat.le_refl _)).more hWb.out.size) hl (by simp only; omega) (by simp only; omega) hrl0).mono ?_; rintro e wA ⟨v, rfl, hbd, hb1⟩; have hbd2 : ∃ A1 c1 A3 c3 gs, v = .agg #[.string nm, .int .i64 (n : Int), .slice A1 x.length c1, .string bob, .string sing, .int .i64 (k : Int), .string call, .string tru, .slice A3 rx.length c3] ∧ W.heap.size ≤ gs ∧ gs ≤ wA.heap.size ∧ OwnL wA W.heap.size gs A1 1 encString x ∧ OwnL wA gs wA.heap.size A3 2 Rgr.enc rx := hbd; obtain ⟨A1, c1, A3, c3, gs, rfl, hg1, hg2, ho1, ho3⟩ := hbd2; obtain ⟨ga, rfl, hga1, hga2, _⟩ := ho3.someRgr hrl0; have hO1 := Lib.hid ho1; have hO3 := Lib.hid ho3; have hb1' := Lib.hid hb1; have hs1 := hb1.size; clear ho1 ho3 hbd hb1; clear u0 u1 u2 u3 u4 u5 u6 u7 u8)
 have hbV0 : Below wA.heap.size wA (wA.alloc (.cells #[.string nm, .int .i64 (n : Int), .slice A1 x.length c1, .string bob, .string sing, .int .i64 (k : Int), .string call, .string tru, .slice (some ⟨ga, 0, none⟩) rx.length c3] 36)) := (Below.refl _ _).alloc (Nat.le_refl _) _
 have hCo : Hid (Cells (wA.alloc (.cells #[.string nm, .int .i64 (n : Int), .slice A1 x.length c1, .string bob, .string sing, .int .i64 (k : Int), .string call, .string tru, .slice (some ⟨ga, 0, none⟩) rx.length c3] 36)) wA.heap.size 9 (fun i => ([Value.string nm, .int .i64 (n : Int), .slice A1 x.length c1, .string bob, .string sing, .int .i64 (k : Int), .string call, .string tru, .slice (some ⟨ga, 0, none⟩) rx.length c3] : List Value).getD i undef)) := Lib.hid ((Cells.newD wA #[.string nm, .int .i64 (n : Int), .slice A1 x.length c1, .string bob, .string sing, .int .i64 (k : Int), .string call, .string tru, .slice (some ⟨ga, 0, none⟩) rx.length c3] 36).congr fun i hi => by
  match i, hi with
  | 0, _ => rfl
  | 1, _ => rfl
  | 2, _ => rfl
  | 3, _ => rfl
  | 4, _ => rfl
  | 5, _ => rfl
  | 6, _ => rfl
  | 7, _ => rfl
  | 8, _ => rfl)
 have hbV := Lib.hid (hb1'.out.trans (hbV0.mono hb1'.out.size))
 have hBV := Lib.hid (hB.out.below hbV.out (by omega))
 have hZV := Lib.hid (hZ.out.below hbV.out (by omega))
 have hO1V := Lib.hid (hO1.out.later hbV0)
 have hO3V := Lib.hid (hO3.out.later hbV0)
 have hsV : wA.heap.size + 1 ≤ (wA.alloc (.cells #[.string nm, .int .i64 (n : Int), .slice A1 x.length c1, .string bob, .string sing, .int .i64 (k : Int), .string call, .string tru, .slice (some ⟨ga, 0, none⟩) rx.length c3] 36)).heap.size := by simp
 have hWV := Lib.hid (hWb.out.trans (hbV.out.mono hWb.out.size))
 clear hbV0 hO1 hO3 hB hZ hbV hb1'
 generalize (wA.alloc (.cells #[.string nm, .int .i64 (n : Int), .slice A1 x.length c1, .string bob, .string sing, .int .i64 (k : Int), .string call, .string tru, .slice (some ⟨ga, 0, none⟩) rx.length c3] 36)) = V at *
 have u0 : V.cell? ⟨w.heap.size, 0, none⟩ = some (.string nm) := hBV.out.cell (i := 0) (by omega)
 have u1 : V.cell? ⟨w.heap.size, 1, none⟩ = some (.int .i64 (n : Int)) := hBV.out.cell (i := 1) (by omega)
 have u2 : V.cell? ⟨w.heap.size, 2, none⟩ = some (.slice A x.length c) := hBV.out.cell (i := 2) (by omega)
 have u3 : V.cell? ⟨w.heap.size, 3, none⟩ = some (.string bob) := hBV.out.cell (i := 3) (by omega)
 have u4 : V.cell? ⟨w.heap.size, 4, none⟩ = some (.string sing) := hBV.out.cell (i := 4) (by omega)
 have u5 : V.cell? ⟨w.heap.size, 5, none⟩ = some (.int .i64 (k : Int)) := hBV.out.cell (i := 5) (by omega)
 have u6 : V.cell? ⟨w.heap.size, 6, none⟩ = some (.string call) := hBV.out.cell (i := 6) (by omega)
 have u7 : V.cell? ⟨w.heap.size, 7, none⟩ = some (.string tru) := hBV.out.cell (i := 7) (by omega)
 have u8 : V.cell? ⟨w.heap.size, 8, none⟩ = some (.slice RA rx.length rc) := hBV.out.cell (i := 8) (by omega)
 have l0 := Later.cell u0 (show w.heap.size < V.heap.size by omega)
 have l1 := Later.cell u1 (show w.heap.size < V.heap.size by omega)
 have l2 := Later.cell u2 (show w.heap.size < V.heap.size by omega)
 have l3 := Later.cell u3 (show w.heap.size < V.heap.size by omega)
 have l4 := Later.cell u4 (show w.heap.size < V.heap.size by omega)
 have l5 := Later.cell u5 (show w.heap.size < V.heap.size by omega)
 have l6 := Later.cell u6 (show w.heap.size < V.heap.size by omega)
 have l7 := Later.cell u7 (show w.heap.size < V.heap.size by omega)
 have l8 := Later.cell u8 (show w.heap.size < V.heap.size by omega)
 clear u0 u1 u2 u3 u4 u5 u6 u7 u8
 obtain ⟨T, hT⟩ : ∃ T, Hid (timesS tru (chgS n HC) = T) := ⟨_, Lib.hid rfl⟩
 have hAp : Hid (∀ W, Calls Tryz.prog 134 #[.string tru, .string HC] W fun e w' => e = .returned (.string T) ∧ Below W.heap.size W w') := Lib.hid (fun W => by
  have := l2Apply_any tru HC W hF.out.row (by have := hF.out.hc.size; omega)
  rw [hF.out.ts, hT.out] at this; exact this)
 refine wp_region_G (by kernel_rfl) [.q, .q, .q, .s (fun _ u lo hi w' => u = .string HC), .s (fun _ u lo hi w' => u = .string T), .q, .u] [0, 0, 0, 1, 1, 0, 3] rfl 3 (by kernel_rfl) (inC V) (V).heap.size (inC.size V) (inC.of (Below.refl _ _).drew) ?_
 (refine wpG_quiets 3 _ _ _ _ (by first | exact cls_none rfl | exact fun w h => h.1) (by intro j hj; rcases j with _ | _ | _ | _ | _ | _ | _ | _ | _ | _ | j <;> first | exact ⟨rfl, ⟨_, rfl, rfl⟩, rfl⟩ | (exfalso; omega)) ?_; simp only [List.take_succ_cons, List.take_zero, List.drop_succ_cons, List.drop_zero, Nat.zero_add, Nat.reduceAdd]; change wpQuiet _ _ (fun wq9 => ∃ x : Later V, wq9 = x.W) _ _ _; (repeat (go_big_quiet_step (fail))); refine wpQuiet_nil ?_; try dsimp only)
 (refine wpG_call _ rfl rfl rfl rfl (fun u lo hi => loc_pure _) 135 #[.agg #[.string nm, .int .i64 (n : Int), .slice A x.length c, .string bob, .string sing, .int .i64 (k : Int), .string call, .string tru, .slice RA rx.length rc], .bool true] (by intro w; go_simp) (by intro w1 hw1 hd; (refine (l24ChangeF hF.out A c RA rc true _ ((H0.out.below (hWV.out.trans (hw1.below.mono hWV.out.size)) (Nat.le_refl _)).more (Nat.le_trans hWV.out.size hw1.below.size)) hl).mono ?_; rintro e w2 ⟨rfl, hb⟩; exact ⟨_, rfl, hw1.step hb, eff_of_below hb, rfl⟩)) ?_)
 (intro uc loc_ hic hsat; obtain ⟨w1, hw1⟩ := hsat; have hr : uc = .string HC := (hw1.rec rfl 3).2.2; obtain rfl := hr; clear hw1; simp only [Act.put, List.setIfInBounds_toArray, List.set_cons_zero, List.set_cons_succ, Nat.reduceAdd])
 (refine wpG_call _ rfl rfl rfl rfl (fun u lo hi => loc_pure _) 134 #[.string tru, .string HC] (by intro w; go_simp) (by intro w1 hw1 hd; (refine (hAp.out _).mono ?_; rintro e w2 ⟨rfl, hb⟩; exact ⟨_, rfl, hw1.step hb, eff_of_below hb, rfl⟩)) ?_)
 (intro ut lot hit hsat; obtain ⟨w1, hw1⟩ := hsat; have hr : ut = .string T := (hw1.rec rfl 4).2.2; obtain rfl := hr; clear hw1; simp only [Act.put, List.setIfInBounds_toArray, List.set_cons_zero, List.set_cons_succ, Nat.reduceAdd])
 (refine wpG_quiets 1 _ _ _ _ (by first | exact cls_none rfl | exact fun w h => h.1) (by intro j hj; rcases j with _ | _ | _ | _ | _ | _ | _ | _ | _ | _ | j <;> first | exact ⟨rfl, ⟨_, rfl, rfl⟩, rfl⟩ | (exfalso; omega)) ?_; simp only [List.take_succ_cons, List.take_zero, List.drop_succ_cons, List.drop_zero, Nat.zero_add, Nat.reduceAdd]; change wpQuiet _ _ (fun wq9 => ∃ x : Later V, wq9 = x.W) _ _ _; (repeat (go_big_quiet_step (fail))); refine wpQuiet_nil ?_; try dsimp only)
 have p7V := hCo.out.cell (i := 7) (by omega)
 have p7Vf := hCo.out.free (i := 7) (by omega)
 refine wpG_u (fun w' => w'.setCell ⟨wA.heap.size, 7, none⟩ (.string T)) rfl rfl rfl rfl (by intro w1 hw1; have hb1 := (hw1.cls rfl).below; have p0 := (hb1.cell (p := ⟨wA.heap.size, 7, none⟩) (show wA.heap.size < V.heap.size by omega)).trans p7V; have p0f := (hb1.frozen (p := ⟨wA.heap.size, 7, none⟩) (show wA.heap.size < V.heap.size by omega)).trans p7Vf; clear hw1; go_simp; try rfl) ?_
 intro w' hh
 obtain ⟨w3, hz, rfl⟩ := hh
 have hb3' := Lib.hid (hz.cls rfl).below
 clear l0 l1 l2 l3 l4 l5 l6 l7 l8
 clear hz p7V p7Vf
 have hk4 : Chg wA.heap.size (wA.heap.size + 1) w3 (w3.setCell ⟨wA.heap.size, 7, none⟩ (.string T)) := (Chg.refl _ _ w3).setCell (p := ⟨wA.heap.size, 7, none⟩) (Nat.le_refl _) (Nat.lt_succ_self _) _
 have hB4 := Lib.hid ((hBV.out.later hb3'.out).chg hk4 (.inl (show w.heap.size < wA.heap.size by omega)))
 have hZ4 := Lib.hid ((hZV.out.later hb3'.out).chg hk4 (.inl (show w.heap.size + 1 < wA.heap.size by omega)))
 have hO14 := Lib.hid ((hO1V.out.later hb3'.out).chg hk4 (.inl hg2))
 have hO34 := Lib.hid ((hO3V.out.later hb3'.out).chg hk4 (.inl (Nat.le_refl _)))
 have hCo4 : Hid (Cells (w3.setCell ⟨wA.heap.size, 7, none⟩ (.string T)) wA.heap.size 9 (fun i => ([Value.string nm, .int .i64 (n : Int), .slice A1 x.length c1, .string bob, .string sing, .int .i64 (k : Int), .string call, .string T, .slice (some ⟨ga, 0, none⟩) rx.length c3] : List Value).getD i undef)) := Lib.hid (((hCo.out.later hb3'.out).set (i := 7) (by omega) (.string T)).congr fun i hi => by
  match i, hi with
  | 0, _ => rfl
  | 1, _ => rfl
  | 2, _ => rfl
  | 3, _ => rfl
  | 4, _ => rfl
  | 5, _ => rfl
  | 6, _ => rfl
  | 7, _ => rfl
  | 8, _ => rfl)
 have hWV4 := Lib.hid (Below.chg (hWV.out.trans (hb3'.out.mono hWV.out.size)) hk4 (by omega) (by have := hb3'.out.size; have := hWV.out.size; omega))
 have hsV4 : wA.heap.size + 1 ≤ (w3.setCell ⟨wA.heap.size, 7, none⟩ (.string T)).heap.size := Nat.le_trans hsV (Nat.le_trans hb3'.out.size hk4.size)
 clear hAp hk4 hBV hZV hO1V hO3V hCo hWV hsV hb3'
 generalize (w3.setCell ⟨wA.heap.size, 7, none⟩ (.string T)) = V4 at *
 have u0 : V4.cell? ⟨w.heap.size, 0, none⟩ = some (.string nm) := hB4.out.cell (i := 0) (by omega)
 have u1 : V4.cell? ⟨w.heap.size, 1, none⟩ = some (.int .i64 (n : Int)) := hB4.out.cell (i := 1) (by omega)
 have u2 : V4.cell? ⟨w.heap.size, 2, none⟩ = some (.slice A x.length c) := hB4.out.cell (i := 2) (by omega)
 have u3 : V4.cell? ⟨w.heap.size, 3, none⟩ = some (.string bob) := hB4.out.cell (i := 3) (by omega)
 have u4 : V4.cell? ⟨w.heap.size, 4, none⟩ = some (.string sing) := hB4.out.cell (i := 4) (by omega)
 have u5 : V4.cell? ⟨w.heap.size, 5, none⟩ = some (.int .i64 (k : Int)) := hB4.out.cell (i := 5) (by omega)
 have u6 : V4.cell? ⟨w.heap.size, 6, none⟩ = some (.string call) := hB4.out.cell (i := 6) (by omega)
 have u7 : V4.cell? ⟨w.heap.size, 7, none⟩ = some (.string tru) := hB4.out.cell (i := 7) (by omega)
 have u8 : V4.cell? ⟨w.heap.size, 8, none⟩ = some (.slice RA rx.length rc) := hB4.out.cell (i := 8) (by omega)
 obtain ⟨gr, offr, hRA, _, _⟩ := Hr0.out.at hrl0
 rw [hRA] at u8
 have HRA := Lib.hid hRA
 clear hRA
 have hO34s := hO34
 have hmz : Hid (mix f rx 0 = rx) := Lib.hid (mix_zero f rx)
 have cc8 : V4.cell? ⟨wA.heap.size, 8, none⟩ = some (.slice (some ⟨ga, 0, none⟩) rx.length c3) := hCo4.out.cell (i := 8) (by omega)
 go_wp2_with fail
 clear cc8
 clear u0 u1 u2 u3 u4 u5 u6 u7 u8
 go_loopw [18] (fun i wr => ∃ j : Nat, j ≤ rx.length ∧ i = .int .i64 j ∧ Hid (OwnL wr gs wA.heap.size (some ⟨ga, 0, none⟩) 2 Rgr.enc (mix f rx j)) ∧ Hid (Chg ga (ga + 1) V4 wr)) (fun i _ => rx.length - (intOf i).toNat)
 case atStart => exact ⟨0, by omega, by rfl, Lib.hid (by rw [hmz.out]; exact hO34.out), Lib.hid (Chg.refl _ _ _)⟩
 case round =>
  obtain ⟨j, hj, rfl, hoj, hch⟩ := hrel
  have hgs := hch.out.size
  have hCr := Lib.hid (hCo4.out.chg hch.out (.inr (show ga + 1 ≤ wA.heap.size by omega)))
  have hBr := Lib.hid (hB4.out.chg hch.out (.inl (show w.heap.size < ga by omega)))
  by_cases hlt : j < rx.length
  ·have hml : j < (mix f rx j).length := by rw [mix_len]; exact hlt
   obtain ⟨r0, r0f, r1, r1f⟩ := hoj.out.cellRgr j hml
   have hme : (mix f rx j)[j] = rx[j] := mix_at f rx j j hml hlt (Nat.le_refl _)
   rw [hme] at r0 r1
   obtain ⟨hp1, hp2⟩ := hF.out.rp j hlt
   obtain ⟨pl, hpl⟩ : ∃ pl : Nat, rx[j].place = (pl : Int) := ⟨rx[j].place.toNat, by omega⟩
   have hset := Lib.hid (mix_set f rx j hlt)
   have hfr := Lib.hid (hF.out.ff rx[j])
   obtain ⟨dd, hdd⟩ : ∃ dd, Hid (rx[j].deaf = dd) := ⟨_, Lib.hid rfl⟩
   rw [hpl] at r0 hp1 hp2
   rw [hdd.out] at r1
   have hpl' := Lib.hid hpl
   have hme2 := hme
   clear hme hpl
   have hme' := Lib.hid hme2
   clear hme2
   obtain ⟨gr', offr', hRA', hgr', hcr'⟩ := Hr0.out.at hlt
   obtain ⟨rfl, rfl⟩ : gr' = gr ∧ offr' = offr := by rw [HRA.out] at hRA'; simp only [Option.some.injEq, Addr.mk.injEq, and_true] at hRA'; exact ⟨hRA'.1.symm, hRA'.2.symm⟩
   have hWj := Below.chg hWV4.out hch.out (by omega) hWV4.out.size
   have s0 := (hWj.cell (p := ⟨gr', offr' + (j * 2 + 0), none⟩) hgr').trans (hcr' 0 _ rfl)
   have s1 := (hWj.cell (p := ⟨gr', offr' + (j * 2 + 1), none⟩) hgr').trans (hcr' 1 _ rfl)
   rw [hpl'.out, Nat.add_zero] at s0
   rw [hdd.out] at s1
   have s1' : wr.cell? ⟨gr', offr' + j * 2 + 1, none⟩ = some (.bool dd) := s1
   clear hRA' hcr' hWj s1
   have s1 := s1'
   clear s1'
   cases dd with
   | true =>
    have hbR : Below wr.heap.size wr (wr.alloc (.cells #[.int .i64 (pl : Int), .bool true] 76)) := (Below.refl _ _).alloc (Nat.le_refl _) _
    have q8 : (wr.alloc (.cells #[.int .i64 (pl : Int), .bool true] 76)).cell? ⟨wA.heap.size, 8, none⟩ = some (.slice (some ⟨ga, 0, none⟩) rx.length c3) := (hCr.out.later hbR).cell (i := 8) (by omega)
    have rr : (wr.alloc (.cells #[.int .i64 (pl : Int), .bool true] 76)).cell? ⟨wr.heap.size, 0, none⟩ = some (.int .i64 (pl : Int)) := (Cells.newD wr #[.int .i64 (pl : Int), .bool true] 76).cell (i := 0) (by simp)
    have rd : (wr.alloc (.cells #[.int .i64 (pl : Int), .bool true] 76)).cell? ⟨wr.heap.size, 1, none⟩ = some (.bool true) := (Cells.newD wr #[.int .i64 (pl : Int), .bool true] 76).cell (i := 1) (by simp)
    have hBR := Lib.hid (hBr.out.later hbR)
    obtain ⟨a0, a0f, _, _⟩ := (hoj.out.later hbR).cellRgr j hml
    have hsR : wr.heap.size + 1 ≤ (wr.alloc (.cells #[.int .i64 (pl : Int), .bool true] 76)).heap.size := by simp
    have hmd : Hid ((mix f rx j)[j].deaf = true) := Lib.hid (by rw [hme'.out]; exact hdd.out)
    have hfj : Hid (f rx[j] = ⟨((mvP n OC pl : Nat) : Int), true⟩) := Lib.hid (by rw [hfr.out, hdd.out, hpl'.out]; simp)
    have hlti : (j : Int) < (rx.length : Int) := by omega
    have hbR' := Lib.hid hbR
    have hWR := Lib.hid ((Below.chg hWV4.out hch.out (by omega) hWV4.out.size).trans (hbR.mono (by have := hWV4.out.size; omega)))
    clear hbR
    go_wp2_with fail
    clear r0 r0f r1 r1f s0 s1
    generalize (wr.alloc (.cells #[.int .i64 (pl : Int), .bool true] 76)) = R at *
    have u0 : R.cell? ⟨w.heap.size, 0, none⟩ = some (.string nm) := hBR.out.cell (i := 0) (by omega)
    have u1 : R.cell? ⟨w.heap.size, 1, none⟩ = some (.int .i64 (n : Int)) := hBR.out.cell (i := 1) (by omega)
    have u2 : R.cell? ⟨w.heap.size, 2, none⟩ = some (.slice A x.length c) := hBR.out.cell (i := 2) (by omega)
    have u3 : R.cell? ⟨w.heap.size, 3, none⟩ = some (.string bob) := hBR.out.cell (i := 3) (by omega)
    have u4 : R.cell? ⟨w.heap.size, 4, none⟩ = some (.string sing) := hBR.out.cell (i := 4) (by omega)
    have u5 : R.cell? ⟨w.heap.size, 5, none⟩ = some (.int .i64 (k : Int)) := hBR.out.cell (i := 5) (by omega)
    have u6 : R.cell? ⟨w.heap.size, 6, none⟩ = some (.string call) := hBR.out.cell (i := 6) (by omega)
    have u7 : R.cell? ⟨w.heap.size, 7, none⟩ = some (.string tru) := hBR.out.cell (i := 7) (by omega)
    have u8 : R.cell? ⟨w.heap.size, 8, none⟩ = some (.slice RA rx.length rc) := hBR.out.cell (i := 8) (by omega)
    have l0 := Later.cell u0 (show w.heap.size < R.heap.size by omega)
    have l1 := Later.cell u1 (show w.heap.size < R.heap.size by omega)
    have l2 := Later.cell u2 (show w.heap.size < R.heap.size by omega)
    have l3 := Later.cell u3 (show w.heap.size < R.heap.size by omega)
    have l4 := Later.cell u4 (show w.heap.size < R.heap.size by omega)
    have l5 := Later.cell u5 (show w.heap.size < R.heap.size by omega)
    have l6 := Later.cell u6 (show w.heap.size < R.heap.size by omega)
    have l7 := Later.cell u7 (show w.heap.size < R.heap.size by omega)
    have l8 := Later.cell u8 (show w.heap.size < R.heap.size by omega)
    clear u0 u1 u2 u3 u4 u5 u6 u7 u8
    have lq8 := Later.cell q8 (show wA.heap.size < R.heap.size by omega)
    have lrr := Later.cell rr (show wr.heap.size < R.heap.size by omega)
    have lrd := Later.cell rd (show wr.heap.size < R.heap.size by omega)
    clear q8 rr rd
    refine wp_region_G (by kernel_rfl) [.q, .q, .q, .q, .q, .q, .q, .q, .q, .q, .s (fun _ u lo hi w' => u = .string OC), .q, .q, .s (fun _ u lo hi w' => u = .int .i64 ((mvP n OC pl : Nat) : Int)), .q, .q, .u] [0, 0, 0, 0, 0, 0, 0, 0, 0, 0, 1, 0, 0, 1, 0, 0, 3] rfl 3 (by kernel_rfl) (inC R) (R).heap.size (inC.size R) (inC.of (Below.refl _ _).drew) ?_
    (refine wpG_quiets 10 _ _ _ _ (by first | exact cls_none rfl | exact fun w h => h.1) (by intro j hj; rcases j with _ | _ | _ | _ | _ | _ | _ | _ | _ | _ | j <;> first | exact ⟨rfl, ⟨_, rfl, rfl⟩, rfl⟩ | (exfalso; omega)) ?_; simp only [List.take_succ_cons, List.take_zero, List.drop_succ_cons, List.drop_zero, Nat.zero_add, Nat.reduceAdd]; change wpQuiet _ _ (fun wq9 => ∃ x : Later R, wq9 = x.W) _ _ _; (repeat (go_big_quiet_step (fail))); refine wpQuiet_nil ?_; try dsimp only)
    (refine wpG_call _ rfl rfl rfl rfl (fun u lo hi => loc_pure _) 135 #[.agg #[.string nm, .int .i64 (n : Int), .slice A x.length c, .string bob, .string sing, .int .i64 (k : Int), .string call, .string tru, .slice RA rx.length rc], .bool false] (by intro w; go_simp) (by intro w1 hw1 hd; (refine (l24ChangeF hF.out A c RA rc false _ ((H0.out.below (hWR.out.trans (hw1.below.mono hWR.out.size)) (Nat.le_refl _)).more (Nat.le_trans hWR.out.size hw1.below.size)) hl).mono ?_; rintro e w2 ⟨rfl, hb⟩; exact ⟨_, rfl, hw1.step hb, eff_of_below hb, rfl⟩)) ?_)
    (intro uc loc_ hic hsat; obtain ⟨w1, hw1⟩ := hsat; have hr : uc = .string OC := (hw1.rec rfl 10).2.2; obtain rfl := hr; clear hw1; simp only [Act.put, List.setIfInBounds_toArray, List.set_cons_zero, List.set_cons_succ, Nat.reduceAdd])
    (refine wpG_quiets 2 _ _ _ _ (by first | exact cls_none rfl | exact fun w h => h.1) (by intro j hj; rcases j with _ | _ | _ | _ | _ | _ | _ | _ | _ | _ | j <;> first | exact ⟨rfl, ⟨_, rfl, rfl⟩, rfl⟩ | (exfalso; omega)) ?_; simp only [List.take_succ_cons, List.take_zero, List.drop_succ_cons, List.drop_zero, Nat.zero_add, Nat.reduceAdd]; change wpQuiet _ _ (fun wq9 => ∃ x : Later R, wq9 = x.W) _ _ _; (repeat (go_big_quiet_step (fail))); refine wpQuiet_nil ?_; try dsimp only)
    (refine wpG_call _ rfl rfl rfl rfl (fun u lo hi => loc_pure _) 136 #[.int .i64 (n : Int), .string OC, .int .i64 (pl : Int)] (by intro w; go_simp) (by intro w1 hw1 hd; (refine (l24Moved_any n OC pl _ hn3 hn8 (by have := hF.out.oc.size; omega) (by omega) (by omega)).mono ?_; rintro e w2 ⟨rfl, hb⟩; exact ⟨_, rfl, hw1.step hb, eff_of_below hb, rfl⟩)) ?_)
    (intro um lom him hsat; obtain ⟨w1, hw1⟩ := hsat; have hr : um = .int .i64 ((mvP n OC pl : Nat) : Int) := (hw1.rec rfl 13).2.2; obtain rfl := hr; clear hw1; simp only [Act.put, List.setIfInBounds_toArray, List.set_cons_zero, List.set_cons_succ, Nat.reduceAdd])
    (refine wpG_quiets 2 _ _ _ _ (by first | exact cls_none rfl | exact fun w h => h.1) (by intro j hj; rcases j with _ | _ | _ | _ | _ | _ | _ | _ | _ | _ | j <;> first | exact ⟨rfl, ⟨_, rfl, rfl⟩, rfl⟩ | (exfalso; omega)) ?_; simp only [List.take_succ_cons, List.take_zero, List.drop_succ_cons, List.drop_zero, Nat.zero_add, Nat.reduceAdd]; change wpQuiet _ _ (fun wq9 => ∃ x : Later R, wq9 = x.W) _ _ _; (repeat (go_big_quiet_step (fail))); refine wpQuiet_nil ?_; try dsimp only)
    refine wpG_u (fun w' => w'.setCell ⟨ga, j * 2, none⟩ (.int .i64 ((mvP n OC pl : Nat) : Int))) rfl rfl rfl rfl (by intro w1 hw1; have hb1 := (hw1.cls rfl).below; have p0 := (hb1.cell (p := ⟨ga, j * 2, none⟩) (show ga < R.heap.size by omega)).trans a0; have p0f := (hb1.frozen (p := ⟨ga, j * 2, none⟩) (show ga < R.heap.size by omega)).trans a0f; clear hw1; go_simp; try rfl) ?_
    intro w' hh
    obtain ⟨wz, hz, rfl⟩ := hh
    have hbz := Lib.hid (hbR'.out.trans ((hz.cls rfl).below.mono hbR'.out.size))
    clear l0 l1 l2 l3 l4 l5 l6 l7 l8
    clear hz a0 a0f lq8 lrr lrd
    go_wp2_with fail
    go_roundw
    case rel =>
     refine ⟨j + 1, by omega, by go_num, Lib.hid ?_, Lib.hid ((hch.out.trans (Chg.of_below hbz.out)).setCell (p := ⟨ga, j * 2, none⟩) (Nat.le_refl _) (Nat.lt_succ_self _) _)⟩
     have h1 := (hoj.out.later hbz.out).setPlace j hml ((mvP n OC pl : Nat) : Int)
     rw [hmd.out, ← hfj.out, hset.out] at h1
     exact h1
    case measure => simp [intOf]; omega
   | false =>
    have hbR : Below wr.heap.size wr (wr.alloc (.cells #[.int .i64 (pl : Int), .bool false] 76)) := (Below.refl _ _).alloc (Nat.le_refl _) _
    have q8 : (wr.alloc (.cells #[.int .i64 (pl : Int), .bool false] 76)).cell? ⟨wA.heap.size, 8, none⟩ = some (.slice (some ⟨ga, 0, none⟩) rx.length c3) := (hCr.out.later hbR).cell (i := 8) (by omega)
    have rr : (wr.alloc (.cells #[.int .i64 (pl : Int), .bool false] 76)).cell? ⟨wr.heap.size, 0, none⟩ = some (.int .i64 (pl : Int)) := (Cells.newD wr #[.int .i64 (pl : Int), .bool false] 76).cell (i := 0) (by simp)
    have rd : (wr.alloc (.cells #[.int .i64 (pl : Int), .bool false] 76)).cell? ⟨wr.heap.size, 1, none⟩ = some (.bool false) := (Cells.newD wr #[.int .i64 (pl : Int), .bool false] 76).cell (i := 1) (by simp)
    have hBR := Lib.hid (hBr.out.later hbR)
    obtain ⟨a0, a0f, _, _⟩ := (hoj.out.later hbR).cellRgr j hml
    have hsR : wr.heap.size + 1 ≤ (wr.alloc (.cells #[.int .i64 (pl : Int), .bool false] 76)).heap.size := by simp
    have hmd : Hid ((mix f rx j)[j].deaf = false) := Lib.hid (by rw [hme'.out]; exact hdd.out)
    have hfj : Hid (f rx[j] = ⟨((mvP n HC pl : Nat) : Int), false⟩) := Lib.hid (by rw [hfr.out, hdd.out, hpl'.out]; simp)
    have hlti : (j : Int) < (rx.length : Int) := by omega
    have hbR' := Lib.hid hbR
    have hWR := Lib.hid ((Below.chg hWV4.out hch.out (by omega) hWV4.out.size).trans (hbR.mono (by have := hWV4.out.size; omega)))
    clear hbR
    go_wp2_with fail
    clear r0 r0f r1 r1f s0 s1
    generalize (wr.alloc (.cells #[.int .i64 (pl : Int), .bool false] 76)) = R at *
    have u0 : R.cell? ⟨w.heap.size, 0, none⟩ = some (.string nm) := hBR.out.cell (i := 0) (by omega)
    have u1 : R.cell? ⟨w.heap.size, 1, none⟩ = some (.int .i64 (n : Int)) := hBR.out.cell (i := 1) (by omega)
    have u2 : R.cell? ⟨w.heap.size, 2, none⟩ = some (.slice A x.length c) := hBR.out.cell (i := 2) (by omega)
    have u3 : R.cell? ⟨w.heap.size, 3, none⟩ = some (.string bob) := hBR.out.cell (i := 3) (by omega)
    have u4 : R.cell? ⟨w.heap.size, 4, none⟩ = some (.string sing) := hBR.out.cell (i := 4) (by omega)
    have u5 : R.cell? ⟨w.heap.size, 5, none⟩ = some (.int .i64 (k : Int)) := hBR.out.cell (i := 5) (by omega)
    have u6 : R.cell? ⟨w.heap.size, 6, none⟩ = some (.string call) := hBR.out.cell (i := 6) (by omega)
    have u7 : R.cell? ⟨w.heap.size, 7, none⟩ = some (.string tru) := hBR.out.cell (i := 7) (by omega)
    have u8 : R.cell? ⟨w.heap.size, 8, none⟩ = some (.slice RA rx.length rc) := hBR.out.cell (i := 8) (by omega)
    have l0 := Later.cell u0 (show w.heap.size < R.heap.size by omega)
    have l1 := Later.cell u1 (show w.heap.size < R.heap.size by omega)
    have l2 := Later.cell u2 (show w.heap.size < R.heap.size by omega)
    have l3 := Later.cell u3 (show w.heap.size < R.heap.size by omega)
    have l4 := Later.cell u4 (show w.heap.size < R.heap.size by omega)
    have l5 := Later.cell u5 (show w.heap.size < R.heap.size by omega)
    have l6 := Later.cell u6 (show w.heap.size < R.heap.size by omega)
    have l7 := Later.cell u7 (show w.heap.size < R.heap.size by omega)
    have l8 := Later.cell u8 (show w.heap.size < R.heap.size by omega)
    clear u0 u1 u2 u3 u4 u5 u6 u7 u8
    have lq8 := Later.cell q8 (show wA.heap.size < R.heap.size by omega)
    have lrr := Later.cell rr (show wr.heap.size < R.heap.size by omega)
    have lrd := Later.cell rd (show wr.heap.size < R.heap.size by omega)
    clear q8 rr rd
    refine wp_region_G (by kernel_rfl) [.q, .q, .q, .q, .q, .q, .q, .q, .q, .q, .s (fun _ u lo hi w' => u = .string HC), .q, .q, .s (fun _ u lo hi w' => u = .int .i64 ((mvP n HC pl : Nat) : Int)), .q, .q, .u] [0, 0, 0, 0, 0, 0, 0, 0, 0, 0, 1, 0, 0, 1, 0, 0, 3] rfl 3 (by kernel_rfl) (inC R) (R).heap.size (inC.size R) (inC.of (Below.refl _ _).drew) ?_
    (refine wpG_quiets 10 _ _ _ _ (by first | exact cls_none rfl | exact fun w h => h.1) (by intro j hj; rcases j with _ | _ | _ | _ | _ | _ | _ | _ | _ | _ | j <;> first | exact ⟨rfl, ⟨_, rfl, rfl⟩, rfl⟩ | (exfalso; omega)) ?_; simp only [List.take_succ_cons, List.take_zero, List.drop_succ_cons, List.drop_zero, Nat.zero_add, Nat.reduceAdd]; change wpQuiet _ _ (fun wq9 => ∃ x : Later R, wq9 = x.W) _ _ _; (repeat (go_big_quiet_step (fail))); refine wpQuiet_nil ?_; try dsimp only)
    (refine wpG_call _ rfl rfl rfl rfl (fun u lo hi => loc_pure _) 135 #[.agg #[.string nm, .int .i64 (n : Int), .slice A x.length c, .string bob, .string sing, .int .i64 (k : Int), .string call, .string tru, .slice RA rx.length rc], .bool true] (by intro w; go_simp) (by intro w1 hw1 hd; (refine (l24ChangeF hF.out A c RA rc true _ ((H0.out.below (hWR.out.trans (hw1.below.mono hWR.out.size)) (Nat.le_refl _)).more (Nat.le_trans hWR.out.size hw1.below.size)) hl).mono ?_; rintro e w2 ⟨rfl, hb⟩; exact ⟨_, rfl, hw1.step hb, eff_of_below hb, rfl⟩)) ?_)
    (intro uc loc_ hic hsat; obtain ⟨w1, hw1⟩ := hsat; have hr : uc = .string HC := (hw1.rec rfl 10).2.2; obtain rfl := hr; clear hw1; simp only [Act.put, List.setIfInBounds_toArray, List.set_cons_zero, List.set_cons_succ, Nat.reduceAdd])
    (refine wpG_quiets 2 _ _ _ _ (by first | exact cls_none rfl | exact fun w h => h.1) (by intro j hj; rcases j with _ | _ | _ | _ | _ | _ | _ | _ | _ | _ | j <;> first | exact ⟨rfl, ⟨_, rfl, rfl⟩, rfl⟩ | (exfalso; omega)) ?_; simp only [List.take_succ_cons, List.take_zero, List.drop_succ_cons, List.drop_zero, Nat.zero_add, Nat.reduceAdd]; change wpQuiet _ _ (fun wq9 => ∃ x : Later R, wq9 = x.W) _ _ _; (repeat (go_big_quiet_step (fail))); refine wpQuiet_nil ?_; try dsimp only)
    (refine wpG_call _ rfl rfl rfl rfl (fun u lo hi => loc_pure _) 136 #[.int .i64 (n : Int), .string HC, .int .i64 (pl : Int)] (by intro w; go_simp) (by intro w1 hw1 hd; (refine (l24Moved_any n HC pl _ hn3 hn8 (by have := hF.out.hc.size; omega) (by omega) (by omega)).mono ?_; rintro e w2 ⟨rfl, hb⟩; exact ⟨_, rfl, hw1.step hb, eff_of_below hb, rfl⟩)) ?_)
    (intro um lom him hsat; obtain ⟨w1, hw1⟩ := hsat; have hr : um = .int .i64 ((mvP n HC pl : Nat) : Int) := (hw1.rec rfl 13).2.2; obtain rfl := hr; clear hw1; simp only [Act.put, List.setIfInBounds_toArray, List.set_cons_zero, List.set_cons_succ, Nat.reduceAdd])
    (refine wpG_quiets 2 _ _ _ _ (by first | exact cls_none rfl | exact fun w h => h.1) (by intro j hj; rcases j with _ | _ | _ | _ | _ | _ | _ | _ | _ | _ | j <;> first | exact ⟨rfl, ⟨_, rfl, rfl⟩, rfl⟩ | (exfalso; omega)) ?_; simp only [List.take_succ_cons, List.take_zero, List.drop_succ_cons, List.drop_zero, Nat.zero_add, Nat.reduceAdd]; change wpQuiet _ _ (fun wq9 => ∃ x : Later R, wq9 = x.W) _ _ _; (repeat (go_big_quiet_step (fail))); refine wpQuiet_nil ?_; try dsimp only)
    refine wpG_u (fun w' => w'.setCell ⟨ga, j * 2, none⟩ (.int .i64 ((mvP n HC pl : Nat) : Int))) rfl rfl rfl rfl (by intro w1 hw1; have hb1 := (hw1.cls rfl).below; have p0 := (hb1.cell (p := ⟨ga, j * 2, none⟩) (show ga < R.heap.size by omega)).trans a0; have p0f := (hb1.frozen (p := ⟨ga, j * 2, none⟩) (show ga < R.heap.size by omega)).trans a0f; clear hw1; go_simp; try rfl) ?_
    intro w' hh
    obtain ⟨wz, hz, rfl⟩ := hh
    have hbz := Lib.hid (hbR'.out.trans ((hz.cls rfl).below.mono hbR'.out.size))
    clear l0 l1 l2 l3 l4 l5 l6 l7 l8
    clear hz a0 a0f lq8 lrr lrd
    go_wp2_with fail
    go_roundw
    case rel =>
     refine ⟨j + 1, by omega, by go_num, Lib.hid ?_, Lib.hid ((hch.out.trans (Chg.of_below hbz.out)).setCell (p := ⟨ga, j * 2, none⟩) (Nat.le_refl _) (Nat.lt_succ_self _) _)⟩
     have h1 := (hoj.out.later hbz.out).setPlace j hml ((mvP n HC pl : Nat) : Int)
     rw [hmd.out, ← hfj.out, hset.out] at h1
     exact h1
    case measure => simp [intOf]; omega
  ·obtain rfl : j = rx.length := by omega
   have hom := hoj.out
   rw [mix_all f rx rx.length (Nat.le_refl _)] at hom
   have hO3x := Lib.hid hom
   clear hom hoj
   have hZr := Lib.hid (hZ4.out.chg hch.out (.inl (show w.heap.size + 1 < ga by omega)))
   have hO1r := Lib.hid (hO14.out.chg hch.out (.inl (by omega)))
   have hWr := Lib.hid (Below.chg hWV4.out hch.out (by omega) hWV4.out.size)
   have p5 : wr.cell? ⟨wA.heap.size, 5, none⟩ = some (.int .i64 (k : Int)) := hCr.out.cell (i := 5) (by omega)
   have p5f := hCr.out.free (i := 5) (by omega)
   have p6 : wr.cell? ⟨wA.heap.size, 6, none⟩ = some (.string call) := hCr.out.cell (i := 6) (by omega)
   have p6f := hCr.out.free (i := 6) (by omega)
   have u2 : wr.cell? ⟨w.heap.size, 2, none⟩ = some (.slice A x.length c) := hBr.out.cell (i := 2) (by omega)
   by_cases hla : k + 1 = x.length
   ·have hlb : ((k : Int) + 1 == (x.length : Int)) = true := beq_iff_eq.2 (by omega)
    have hla' := Lib.hid hla
    clear hla
    go_upto_region 12 with fail
    have kE : Chg wA.heap.size (wA.heap.size + 1) wr (((wr.setCell ⟨wA.heap.size, 5, none⟩ (.int .i64 ((k : Int) + 1))).setCell ⟨wA.heap.size, 5, none⟩ (.int .i64 0)).setCell ⟨wA.heap.size, 6, none⟩ (.string ⟨#[112]⟩)) := (((Chg.refl _ _ wr).setCell (p := ⟨wA.heap.size, 5, none⟩) (Nat.le_refl _) (Nat.lt_succ_self _) _).setCell (p := ⟨wA.heap.size, 5, none⟩) (Nat.le_refl _) (Nat.lt_succ_self _) _).setCell (p := ⟨wA.heap.size, 6, none⟩) (Nat.le_refl _) (Nat.lt_succ_self _) _
    have hC5 : Hid (Cells (((wr.setCell ⟨wA.heap.size, 5, none⟩ (.int .i64 ((k : Int) + 1))).setCell ⟨wA.heap.size, 5, none⟩ (.int .i64 0)).setCell ⟨wA.heap.size, 6, none⟩ (.string ⟨#[112]⟩)) wA.heap.size 9 (fun i => ([Value.string nm, .int .i64 (n : Int), .slice A1 x.length c1, .string bob, .string sing, .int .i64 0, .string ⟨#[112]⟩, .string T, .slice (some ⟨ga, 0, none⟩) rx.length c3] : List Value).getD i undef)) := Lib.hid ((((hCr.out.set (i := 5) (by omega) (.int .i64 ((k : Int) + 1))).set (i := 5) (by omega) (.int .i64 0)).set (i := 6) (by omega) (.string ⟨#[112]⟩)).congr fun i hi => by
     match i, hi with
     | 0, _ => rfl
     | 1, _ => rfl
     | 2, _ => rfl
     | 3, _ => rfl
     | 4, _ => rfl
     | 5, _ => rfl
     | 6, _ => rfl
     | 7, _ => rfl
     | 8, _ => rfl)
    have hZ5 := Lib.hid (hZr.out.chg kE (.inl (show w.heap.size + 1 < wA.heap.size by omega)))
    have hO15 := Lib.hid (hO1r.out.chg kE (.inl (by omega)))
    have hO35 := Lib.hid (hO3x.out.chg kE (.inl (Nat.le_refl _)))
    have hW5 := Lib.hid (Below.chg hWr.out kE (by omega) hWr.out.size)
    have hsE : wA.heap.size + 1 ≤ (((wr.setCell ⟨wA.heap.size, 5, none⟩ (.int .i64 ((k : Int) + 1))).setCell ⟨wA.heap.size, 5, none⟩ (.int .i64 0)).setCell ⟨wA.heap.size, 6, none⟩ (.string ⟨#[112]⟩)).heap.size := Nat.le_trans (by omega) kE.size
    clear kE p5 p5f p6 p6f u2
    generalize (((wr.setCell ⟨wA.heap.size, 5, none⟩ (.int .i64 ((k : Int) + 1))).setCell ⟨wA.heap.size, 5, none⟩ (.int .i64 0)).setCell ⟨wA.heap.size, 6, none⟩ (.string ⟨#[112]⟩)) = VF at *
    obtain ⟨L1, hL1⟩ : ∃ L1, Hid (rx.map f = L1) := ⟨_, Lib.hid rfl⟩
    have hll : Hid (L1.length = rx.length) := Lib.hid (by rw [← hL1.out]; simp)
    rw [hL1.out] at hO35
    have c8 : VF.cell? ⟨wA.heap.size, 8, none⟩ = some (.slice (some ⟨ga, 0, none⟩) rx.length c3) := hC5.out.cell (i := 8) (by omega)
    have hmz2 : Hid (mix hearR L1 0 = L1) := Lib.hid (mix_zero hearR L1)
    go_wp2_with fail
    clear c8
    go_loopw [56] (fun i wr => ∃ j2 : Nat, j2 ≤ rx.length ∧ i = .int .i64 j2 ∧ Hid (OwnL wr gs wA.heap.size (some ⟨ga, 0, none⟩) 2 Rgr.enc (mix hearR L1 j2)) ∧ Hid (Chg ga (ga + 1) VF wr)) (fun i _ => rx.length - (intOf i).toNat)
    case atStart => exact ⟨0, by omega, by rfl, Lib.hid (by rw [hmz2.out]; exact hO35.out), Lib.hid (Chg.refl _ _ _)⟩
    case round =>
     obtain ⟨j2, hj2, rfl, hoj2, hch2⟩ := hrel
     have hgs2 := hch2.out.size
     by_cases hlt2 : j2 < rx.length
     ·have hml2 : j2 < (mix hearR L1 j2).length := by rw [mix_len, hll.out]; exact hlt2
      obtain ⟨_, _, r1, r1f⟩ := hoj2.out.cellRgr j2 hml2
      have c8 : wr.cell? ⟨wA.heap.size, 8, none⟩ = some (.slice (some ⟨ga, 0, none⟩) rx.length c3) := (hC5.out.chg hch2.out (.inr (show ga + 1 ≤ wA.heap.size by omega))).cell (i := 8) (by omega)
      have hs2 := Lib.hid (mix_set hearR L1 j2 (by rw [hll.out]; exact hlt2))
      have hm2 : Hid ((mix hearR L1 j2)[j2] = L1[j2]'(by rw [hll.out]; exact hlt2)) := Lib.hid (mix_at hearR L1 j2 j2 hml2 (by rw [hll.out]; exact hlt2) (Nat.le_refl _))
      go_wp2_with fail
      go_roundw
      case rel =>
       refine ⟨j2 + 1, by omega, by go_num, Lib.hid ?_, Lib.hid (hch2.out.setCell (p := ⟨ga, j2 * 2 + 1, none⟩) (Nat.le_refl _) (Nat.lt_succ_self _) _)⟩
       have h1 := hoj2.out.setDeaf j2 hml2 false
       rw [hm2.out, show (⟨(L1[j2]'(by rw [hll.out]; exact hlt2)).place, false⟩ : Rgr) = hearR (L1[j2]'(by rw [hll.out]; exact hlt2)) from rfl, hs2.out] at h1
       exact h1
      case measure => simp [intOf]; omega
     ·obtain rfl : j2 = rx.length := by omega
      have hom := hoj2.out
      rw [mix_all hearR L1 rx.length (by rw [hll.out]; exact Nat.le_refl _), ← hL1.out] at hom
      have hO3e := Lib.hid hom
      have hCe := Lib.hid (hC5.out.chg hch2.out (.inr (show ga + 1 ≤ wA.heap.size by omega)))
      have hZe := Lib.hid (hZ5.out.chg hch2.out (.inl (show w.heap.size + 1 < ga by omega)))
      have hO1e := Lib.hid (hO15.out.chg hch2.out (.inl (by omega)))
      have hWe2 := Lib.hid (Below.chg hW5.out hch2.out (by omega) hW5.out.size)
      clear hom hoj2 hO35 hC5 hZ5 hO15 hW5
      have b0 : wr.cell? ⟨wA.heap.size, 0, none⟩ = some (.string nm) := hCe.out.cell (i := 0) (by omega)
      have b1 : wr.cell? ⟨wA.heap.size, 1, none⟩ = some (.int .i64 (n : Int)) := hCe.out.cell (i := 1) (by omega)
      have b2 : wr.cell? ⟨wA.heap.size, 2, none⟩ = some (.slice A1 x.length c1) := hCe.out.cell (i := 2) (by omega)
      have b3 : wr.cell? ⟨wA.heap.size, 3, none⟩ = some (.string bob) := hCe.out.cell (i := 3) (by omega)
      have b4 : wr.cell? ⟨wA.heap.size, 4, none⟩ = some (.string sing) := hCe.out.cell (i := 4) (by omega)
      have b5 : wr.cell? ⟨wA.heap.size, 5, none⟩ = some (.int .i64 0) := hCe.out.cell (i := 5) (by omega)
      have b6 : wr.cell? ⟨wA.heap.size, 6, none⟩ = some (.string ⟨#[112]⟩) := hCe.out.cell (i := 6) (by omega)
      have b7 : wr.cell? ⟨wA.heap.size, 7, none⟩ = some (.string T) := hCe.out.cell (i := 7) (by omega)
      have b8 : wr.cell? ⟨wA.heap.size, 8, none⟩ = some (.slice (some ⟨ga, 0, none⟩) rx.length c3) := hCe.out.cell (i := 8) (by omega)
      have z0 := hZe.out.cell (i := 0) (by omega)
      have zf0 := hZe.out.free (i := 0) (by omega)
      have z1 := hZe.out.cell (i := 1) (by omega)
      have zf1 := hZe.out.free (i := 1) (by omega)
      have z2 := hZe.out.cell (i := 2) (by omega)
      have zf2 := hZe.out.free (i := 2) (by omega)
      have z3 := hZe.out.cell (i := 3) (by omega)
      have zf3 := hZe.out.free (i := 3) (by omega)
      have z4 := hZe.out.cell (i := 4) (by omega)
      have zf4 := hZe.out.free (i := 4) (by omega)
      have z5 := hZe.out.cell (i := 5) (by omega)
      have zf5 := hZe.out.free (i := 5) (by omega)
      have z6 := hZe.out.cell (i := 6) (by omega)
      have zf6 := hZe.out.free (i := 6) (by omega)
      have z7 := hZe.out.cell (i := 7) (by omega)
      have zf7 := hZe.out.free (i := 7) (by omega)
      have z8 := hZe.out.cell (i := 8) (by omega)
      have zf8 := hZe.out.free (i := 8) (by omega)
      go_wp2
      refine bodyPost_ret (v := .agg #[.string nm, .int .i64 (n : Int), .slice A1 x.length c1, .string bob, .string sing, .int .i64 0, .string ⟨#[112]⟩, .string T, .slice (some ⟨ga, 0, none⟩) rx.length c3]) (by simp [results, Tryz.results82, go_sem, z0, z1, z2, z3, z4, z5, z6, z7, z8, zf0, zf1, zf2, zf3, zf4, zf5, zf6, zf7, zf8]) rfl ?_
      have kk : Chg (w.heap.size + 1) (w.heap.size + 1 + 1) wr (setN wr (w.heap.size + 1) 0 [Value.string nm, .int .i64 (n : Int), .slice A1 x.length c1, .string bob, .string sing, .int .i64 0, .string ⟨#[112]⟩, .string T, .slice (some ⟨ga, 0, none⟩) rx.length c3]) := Chg.setN (Nat.le_refl _) (Nat.lt_succ_self _) _ (Chg.refl _ _ _)
      have hO1f := (hO1e.out.chg kk (.inr (by omega))).mono (show w.heap.size ≤ W.heap.size by omega) (Nat.le_refl _)
      have hO3f := (hO3e.out.chg kk (.inr (by omega))).mono (Nat.le_refl _) (Nat.le_trans (show wA.heap.size ≤ (wr).heap.size by omega) kk.size)
      have hBB := Below.chg hWe2.out kk (by omega) hWe2.out.size
      exact ⟨_, rfl, by rw [(hF.out.dl hla'.out), hT.out]; exact ⟨A1, c1, some ⟨ga, 0, none⟩, c3, gs, by simp, by omega, Nat.le_trans (show gs ≤ (wr).heap.size by omega) kk.size, hO1f, hO3f⟩, hBB⟩
   ·have hlb : ((k : Int) + 1 == (x.length : Int)) = false := beq_eq_false_iff_ne.2 (by omega)
    have hla' := Lib.hid hla
    clear hla
    go_upto_region 17 with fail
    have kE : Chg wA.heap.size (wA.heap.size + 1) wr (wr.setCell ⟨wA.heap.size, 5, none⟩ (.int .i64 ((k : Int) + 1))) := (Chg.refl _ _ wr).setCell (p := ⟨wA.heap.size, 5, none⟩) (Nat.le_refl _) (Nat.lt_succ_self _) _
    have hCe : Hid (Cells (wr.setCell ⟨wA.heap.size, 5, none⟩ (.int .i64 ((k : Int) + 1))) wA.heap.size 9 (fun i => ([Value.string nm, .int .i64 (n : Int), .slice A1 x.length c1, .string bob, .string sing, .int .i64 ((k : Int) + 1), .string call, .string T, .slice (some ⟨ga, 0, none⟩) rx.length c3] : List Value).getD i undef)) := Lib.hid ((hCr.out.set (i := 5) (by omega) (.int .i64 ((k : Int) + 1))).congr fun i hi => by
     match i, hi with
     | 0, _ => rfl
     | 1, _ => rfl
     | 2, _ => rfl
     | 3, _ => rfl
     | 4, _ => rfl
     | 5, _ => rfl
     | 6, _ => rfl
     | 7, _ => rfl
     | 8, _ => rfl)
    have hZe := Lib.hid (hZr.out.chg kE (.inl (show w.heap.size + 1 < wA.heap.size by omega)))
    have hO1e := Lib.hid (hO1r.out.chg kE (.inl (by omega)))
    have hO3e := Lib.hid (hO3x.out.chg kE (.inl (Nat.le_refl _)))
    have hWe2 := Lib.hid (Below.chg hWr.out kE (by omega) hWr.out.size)
    have hsE : wA.heap.size + 1 ≤ (wr.setCell ⟨wA.heap.size, 5, none⟩ (.int .i64 ((k : Int) + 1))).heap.size := Nat.le_trans (by omega) kE.size
    clear kE p5 p5f p6 p6f u2
    generalize (wr.setCell ⟨wA.heap.size, 5, none⟩ (.int .i64 ((k : Int) + 1))) = VE at *
    have b0 : VE.cell? ⟨wA.heap.size, 0, none⟩ = some (.string nm) := hCe.out.cell (i := 0) (by omega)
    have b1 : VE.cell? ⟨wA.heap.size, 1, none⟩ = some (.int .i64 (n : Int)) := hCe.out.cell (i := 1) (by omega)
    have b2 : VE.cell? ⟨wA.heap.size, 2, none⟩ = some (.slice A1 x.length c1) := hCe.out.cell (i := 2) (by omega)
    have b3 : VE.cell? ⟨wA.heap.size, 3, none⟩ = some (.string bob) := hCe.out.cell (i := 3) (by omega)
    have b4 : VE.cell? ⟨wA.heap.size, 4, none⟩ = some (.string sing) := hCe.out.cell (i := 4) (by omega)
    have b5 : VE.cell? ⟨wA.heap.size, 5, none⟩ = some (.int .i64 ((k : Int) + 1)) := hCe.out.cell (i := 5) (by omega)
    have b6 : VE.cell? ⟨wA.heap.size, 6, none⟩ = some (.string call) := hCe.out.cell (i := 6) (by omega)
    have b7 : VE.cell? ⟨wA.heap.size, 7, none⟩ = some (.string T) := hCe.out.cell (i := 7) (by omega)
    have b8 : VE.cell? ⟨wA.heap.size, 8, none⟩ = some (.slice (some ⟨ga, 0, none⟩) rx.length c3) := hCe.out.cell (i := 8) (by omega)
    have z0 := hZe.out.cell (i := 0) (by omega)
    have zf0 := hZe.out.free (i := 0) (by omega)
    have z1 := hZe.out.cell (i := 1) (by omega)
    have zf1 := hZe.out.free (i := 1) (by omega)
    have z2 := hZe.out.cell (i := 2) (by omega)
    have zf2 := hZe.out.free (i := 2) (by omega)
    have z3 := hZe.out.cell (i := 3) (by omega)
    have zf3 := hZe.out.free (i := 3) (by omega)
    have z4 := hZe.out.cell (i := 4) (by omega)
    have zf4 := hZe.out.free (i := 4) (by omega)
    have z5 := hZe.out.cell (i := 5) (by omega)
    have zf5 := hZe.out.free (i := 5) (by omega)
    have z6 := hZe.out.cell (i := 6) (by omega)
    have zf6 := hZe.out.free (i := 6) (by omega)
    have z7 := hZe.out.cell (i := 7) (by omega)
    have zf7 := hZe.out.free (i := 7) (by omega)
    have z8 := hZe.out.cell (i := 8) (by omega)
    have zf8 := hZe.out.free (i := 8) (by omega)
    go_wp2
    refine bodyPost_ret (v := .agg #[.string nm, .int .i64 (n : Int), .slice A1 x.length c1, .string bob, .string sing, .int .i64 ((k : Int) + 1), .string call, .string T, .slice (some ⟨ga, 0, none⟩) rx.length c3]) (by simp [results, Tryz.results82, go_sem, z0, z1, z2, z3, z4, z5, z6, z7, z8, zf0, zf1, zf2, zf3, zf4, zf5, zf6, zf7, zf8]) rfl ?_
    have kk : Chg (w.heap.size + 1) (w.heap.size + 1 + 1) VE (setN VE (w.heap.size + 1) 0 [Value.string nm, .int .i64 (n : Int), .slice A1 x.length c1, .string bob, .string sing, .int .i64 ((k : Int) + 1), .string call, .string T, .slice (some ⟨ga, 0, none⟩) rx.length c3]) := Chg.setN (Nat.le_refl _) (Nat.lt_succ_self _) _ (Chg.refl _ _ _)
    have hO1f := (hO1e.out.chg kk (.inr (by omega))).mono (show w.heap.size ≤ W.heap.size by omega) (Nat.le_refl _)
    have hO3f := (hO3e.out.chg kk (.inr (by omega))).mono (Nat.le_refl _) (Nat.le_trans (show wA.heap.size ≤ (VE).heap.size by omega) kk.size)
    have hBB := Below.chg hWe2.out kk (by omega) hWe2.out.size
    exact ⟨_, rfl, by rw [(hF.out.dm hla'.out), hT.out]; exact ⟨A1, c1, some ⟨ga, 0, none⟩, c3, gs, by simp, by omega, Nat.le_trans (show gs ≤ (VE).heap.size by omega) kk.size, hO1f, hO3f⟩, hBB⟩
end Go.Proofs.YtkegbbndmfnolaaGreatDoor
