import Derived.Test.YtkegbbndmfnolaaGreatDoorMBandsL04
import Derived.Test.YtkegbbndmfnolaaGreatDoorMBandsL05
import Derived.Test.YtkegbbndmfnolaaGreatDoorMBandsL07
/-
 New bands: contracts of both sides.
-/
namespace Go.Proofs.YtkegbbndmfnolaaGreatDoor
open Go.RowKit
set_option linter.unusedVariables false
set_option linter.unusedSimpArgs false
set_option maxRecDepth 100000

/-- The ringers of a new band. -/
def newRs (n : Nat) : List Rgr := (List.range n).map fun i : Nat => ⟨(i : Int) + 1, false⟩
theorem newRs_len (n : Nat) : (newRs n).length = n := by simp [newRs]
theorem newRs_succ (n : Nat) : newRs (n + 1) = newRs n ++ [⟨(n : Int) + 1, false⟩] := by simp [newRs, List.range_succ]
def pS : ByteArray := ⟨#[112]⟩
/-- A band's cells. -/
def bdV (nm : ByteArray) (st : Int) (A1 : Option Addr) (n1 c1 : Nat) (b s : ByteArray) (stp : Int) (cal tru : ByteArray) (A3 : Option Addr) (n3 c3 : Nat) : Array Value :=
 #[.string nm, .int .i64 st, .slice A1 n1 c1, .string b, .string s, .int .i64 stp, .string cal, .string tru, .slice A3 n3 c3]
/-- A new band is handed back; its two slices' blocks lie apart. -/
def BdOut (nm : ByteArray) (st : Int) (x : List ByteArray) (b s : ByteArray) (stp : Int) (cal tru : ByteArray) (rx : List Rgr) (w : World) (e : Ending) (w' : World) : Prop :=
 ∃ A1 c1 A3 c3 gs, e = .returned (.agg #[.string nm, .int .i64 st, .slice A1 x.length c1, .string b, .string s, .int .i64 stp, .string cal, .string tru, .slice A3 rx.length c3]) ∧ w.heap.size ≤ gs ∧ gs ≤ w'.heap.size ∧ OwnL w' w.heap.size gs A1 1 encString x ∧ OwnL w' gs w'.heap.size A3 2 Rgr.enc rx ∧ Below w.heap.size w w'













set_option maxHeartbeats 1600000 in
theorem l24New_any (m : Mth) (b s : ByteArray) (w : World) (h : RdL w w.heap.size m.A 1 encString m.x) (hl : m.x.length ≤ 1048576) (h0 : 0 < m.x.length) (hs1 : 1 ≤ m.stage) (hs2 : m.stage ≤ 8) :
  Calls Tryz.prog 65 #[.agg #[.string m.name, .int .i64 m.stage, .slice m.A m.x.length m.c], .agg #[.string b, .string s]] w fun e w' => BdOut m.name m.stage m.x b s 0 pS (roundsS m.stage) (newRs m.stage.toNat) w e w' := by
 have hW : ∃ W : World, Hid ((((w.alloc (.cells #[.string m.name, .int .i64 m.stage, .slice m.A m.x.length m.c] 26)).alloc (.cells #[.string b, .string s] 28)).alloc (.cells #[Value.string ⟨#[]⟩, .int .i64 0, .slice none 0 0, .string ⟨#[]⟩, .string ⟨#[]⟩, .int .i64 0, .string ⟨#[]⟩, .string ⟨#[]⟩, .slice none 0 0] 36)) = W) ∧ Hid (W.heap.size = w.heap.size + 3) ∧ Hid (Below w.heap.size w W) ∧ W.cell? ⟨w.heap.size, 0, none⟩ = some (.string m.name) ∧ W.cell? ⟨w.heap.size, 1, none⟩ = some (.int .i64 m.stage) ∧ W.cell? ⟨w.heap.size, 2, none⟩ = some (.slice m.A m.x.length m.c) ∧ W.cell? ⟨w.heap.size + 1, 0, none⟩ = some (.string b) ∧ W.cell? ⟨w.heap.size + 1, 1, none⟩ = some (.string s) ∧ Hid (Cells W (w.heap.size + 2) 9 (fun i => (#[Value.string ⟨#[]⟩, .int .i64 0, .slice none 0 0, .string ⟨#[]⟩, .string ⟨#[]⟩, .int .i64 0, .string ⟨#[]⟩, .string ⟨#[]⟩, .slice none 0 0] : Array Value).getD i undef)) := by
  have z1 : w.heap.size + 1 = ((w.alloc (.cells #[.string m.name, .int .i64 m.stage, .slice m.A m.x.length m.c] 26))).heap.size := by simp
  have z2 : w.heap.size + 2 = (((w.alloc (.cells #[.string m.name, .int .i64 m.stage, .slice m.A m.x.length m.c] 26)).alloc (.cells #[.string b, .string s] 28))).heap.size := by simp
  refine ⟨_, Lib.hid rfl, Lib.hid (by simp), Lib.hid ((((Below.refl _ _).alloc (Nat.le_refl _) _).alloc (by simp) _).alloc (by simp; omega) _), ?_, ?_, ?_, ?_, ?_, Lib.hid ?_⟩
  ·rw [World.cell?_alloc_lt _ _ _ (by simp; omega), World.cell?_alloc_lt _ _ _ (by simp), World.cell?_alloc_new]; rfl
  ·rw [World.cell?_alloc_lt _ _ _ (by simp; omega), World.cell?_alloc_lt _ _ _ (by simp), World.cell?_alloc_new]; rfl
  ·rw [World.cell?_alloc_lt _ _ _ (by simp; omega), World.cell?_alloc_lt _ _ _ (by simp), World.cell?_alloc_new]; rfl
  ·rw [World.cell?_alloc_lt _ _ _ (by simp), z1, World.cell?_alloc_new]; rfl
  ·rw [World.cell?_alloc_lt _ _ _ (by simp), z1, World.cell?_alloc_new]; rfl
  ·rw [z2]
   refine Cells.new _ _ _ 9 _ (fun i hi => ?_)
   match i, hi with
   | 0, _ => rfl
   | 1, _ => rfl
   | 2, _ => rfl
   | 3, _ => rfl
   | 4, _ => rfl
   | 5, _ => rfl
   | 6, _ => rfl
   | 7, _ => rfl
   | 8, _ => rfl
 obtain ⟨W, hWe, hWs, hWb, u0, u1, u2, u3, u4, hC⟩ := hW
 have hWs1 : w.heap.size + 3 ≤ W.heap.size := by have := hWs.out; omega
 have hV : Hid (Below W.heap.size W (W.alloc (.cells #[Value.string ⟨#[]⟩, .int .i64 0, .slice none 0 0, .string ⟨#[]⟩, .string ⟨#[]⟩, .int .i64 0, .string ⟨#[]⟩, .string ⟨#[]⟩, .slice none 0 0] 36))) := Lib.hid ((Below.refl _ _).alloc (Nat.le_refl _) _)
 have hVs : Hid ((W.alloc (.cells #[Value.string ⟨#[]⟩, .int .i64 0, .slice none 0 0, .string ⟨#[]⟩, .string ⟨#[]⟩, .int .i64 0, .string ⟨#[]⟩, .string ⟨#[]⟩, .slice none 0 0] 36)).heap.size = W.heap.size + 1) := Lib.hid (by simp)
 have hVd : Hid (Below W.heap.size W (W.alloc (.cells #[Value.string ⟨#[]⟩, .int .i64 0, .slice none 0 0, .string ⟨#[]⟩, .string ⟨#[]⟩, .int .i64 0, .string ⟨#[]⟩, .string ⟨#[]⟩, .slice none 0 0] 36)).drew) := Lib.hid hV.out.drew
 have x0 := (hV.out.cell (p := ⟨w.heap.size, 0, none⟩) (show w.heap.size < W.heap.size by omega)).trans u0
 have x1 := (hV.out.cell (p := ⟨w.heap.size, 1, none⟩) (show w.heap.size < W.heap.size by omega)).trans u1
 have x2 := (hV.out.cell (p := ⟨w.heap.size, 2, none⟩) (show w.heap.size < W.heap.size by omega)).trans u2
 have x3 := (hV.out.cell (p := ⟨w.heap.size + 1, 0, none⟩) (show w.heap.size + 1 < W.heap.size by omega)).trans u3
 have x4 := (hV.out.cell (p := ⟨w.heap.size + 1, 1, none⟩) (show w.heap.size + 1 < W.heap.size by omega)).trans u4
 have hCV := Lib.hid (hC.out.later (w' := (W.alloc (.cells #[Value.string ⟨#[]⟩, .int .i64 0, .slice none 0 0, .string ⟨#[]⟩, .string ⟨#[]⟩, .int .i64 0, .string ⟨#[]⟩, .string ⟨#[]⟩, .slice none 0 0] 36))) hV.out)
 have hZ5 : Hid (Cells (W.alloc (.cells #[Value.string ⟨#[]⟩, .int .i64 0, .slice none 0 0, .string ⟨#[]⟩, .string ⟨#[]⟩, .int .i64 0, .string ⟨#[]⟩, .string ⟨#[]⟩, .slice none 0 0] 36)) W.heap.size 9 (fun i => (#[Value.string ⟨#[]⟩, .int .i64 0, .slice none 0 0, .string ⟨#[]⟩, .string ⟨#[]⟩, .int .i64 0, .string ⟨#[]⟩, .string ⟨#[]⟩, .slice none 0 0] : Array Value).getD i undef)) := Lib.hid (Cells.new _ _ _ 9 _ (fun i hi => by
  match i, hi with
  | 0, _ => rfl
  | 1, _ => rfl
  | 2, _ => rfl
  | 3, _ => rfl
  | 4, _ => rfl
  | 5, _ => rfl
  | 6, _ => rfl
  | 7, _ => rfl
  | 8, _ => rfl))
 have H := Lib.hid (show RdL W W.heap.size m.A 1 encString m.x from (h.below hWb.out (Nat.le_refl _)).more hWb.out.size)
 clear h
 have f0 := Later.cell u0 (show w.heap.size < W.heap.size by omega)
 have f1 := Later.cell u1 (show w.heap.size < W.heap.size by omega)
 have f2 := Later.cell u2 (show w.heap.size < W.heap.size by omega)
 have f3 := Later.cell u3 (show w.heap.size + 1 < W.heap.size by omega)
 have f4 := Later.cell u4 (show w.heap.size + 1 < W.heap.size by omega)
 go_enter Tryz.func65, Tryz.ntmps65
 go_wp2_with fail
 rw [hWe.out]
 clear hWe
 refine wp_region_G (by kernel_rfl) [.q, .s (fun _ u lo hi w' => ∃ A1 c1, u = .agg #[.string m.name, .int .i64 m.stage, .slice A1 m.x.length c1] ∧ OwnL w' lo hi A1 1 encString m.x), .q, .q, .q, .s (fun _ u lo hi w' => u = .string (roundsS m.stage)), .q, .s (fun _ => gBox 9), .t] [0, 1, 0, 0, 0, 1, 0, 1, 2] rfl 3 (by kernel_rfl) (inC W) (W).heap.size (inC.size W) (inC.of (Below.refl _ _).drew) ?_
 (refine wpG_quiets 1 _ _ _ _ (by first | exact cls_none rfl | exact fun w h => h.1) (by intro j hj; rcases j with _ | _ | _ | _ | _ | _ | _ | _ | _ | _ | j <;> first | exact ⟨rfl, ⟨_, rfl, rfl⟩, rfl⟩ | (exfalso; omega)) ?_; simp only [List.take_succ_cons, List.take_zero, List.drop_succ_cons, List.drop_zero, Nat.zero_add, Nat.reduceAdd]; change wpQuiet _ _ (fun wq9 => ∃ x : Later W, wq9 = x.W) _ _ _; (repeat (go_big_quiet_step (fail))); refine wpQuiet_nil ?_; try dsimp only)
 (refine wpG_call _ rfl rfl rfl rfl (fun u lo hi => loc_ex fun A => loc_ex fun c => loc_and (loc_pure _) (loc_own (Nat.le_refl _) (Nat.le_refl _))) 119 #[.agg #[.string m.name, .int .i64 m.stage, .slice m.A m.x.length m.c]] (by intro w; go_simp) (by intro w1 hw1 hd; (refine (l4Own_any m _ ((H.out.below hw1.below (Nat.le_refl _)).more hw1.below.size) hl h0).mono ?_; rintro e w2 ⟨A1, c1, rfl, ho, hc1, hb⟩; exact ⟨_, rfl, hw1.step hb, eff_of_below hb, A1, c1, rfl, ho⟩)) ?_)
 (intro u lo hi hsat; obtain ⟨w1, hw1⟩ := hsat; have hr : ∃ A1 c1, u = .agg #[.string m.name, .int .i64 m.stage, .slice A1 m.x.length c1] ∧ OwnL w1 lo hi A1 1 encString m.x := (hw1.rec rfl 1).2.2; obtain ⟨A1, c1, rfl, _⟩ := hr; clear hw1; simp only [Act.put, List.setIfInBounds_toArray, List.set_cons_zero, List.set_cons_succ, Nat.reduceAdd])
 (refine wpG_quiets 3 _ _ _ _ (by first | exact cls_none rfl | exact fun w h => h.1) (by intro j hj; rcases j with _ | _ | _ | _ | _ | _ | _ | _ | _ | _ | j <;> first | exact ⟨rfl, ⟨_, rfl, rfl⟩, rfl⟩ | (exfalso; omega)) ?_; simp only [List.take_succ_cons, List.take_zero, List.drop_succ_cons, List.drop_zero, Nat.zero_add, Nat.reduceAdd]; change wpQuiet _ _ (fun wq9 => ∃ x : Later W, wq9 = x.W) _ _ _; (repeat (go_big_quiet_step (fail))); refine wpQuiet_nil ?_; try dsimp only)
 (refine wpG_call _ rfl rfl rfl rfl (fun u lo hi => loc_pure _) 120 #[.int .i64 m.stage] (by intro w; go_simp) (by intro w1 hw1 hd; (refine (l1Rounds_any m.stage _ (by omega) hs2).mono ?_; rintro e w2 ⟨rfl, rfl⟩; exact ⟨_, rfl, hw1, eff_of_below (Below.refl _ _), rfl⟩)) ?_)
 (intro u5 lo5 hi5 hsat; obtain ⟨w1, hw1⟩ := hsat; have hr : u5 = .string (roundsS m.stage) := (hw1.rec rfl 5).2.2; obtain rfl := hr; clear hw1; simp only [Act.put, List.setIfInBounds_toArray, List.set_cons_zero, List.set_cons_succ, Nat.reduceAdd])
 (refine wpG_quiets 1 _ _ _ _ (by first | exact cls_none rfl | exact fun w h => h.1) (by intro j hj; rcases j with _ | _ | _ | _ | _ | _ | _ | _ | _ | _ | j <;> first | exact ⟨rfl, ⟨_, rfl, rfl⟩, rfl⟩ | (exfalso; omega)) ?_; simp only [List.take_succ_cons, List.take_zero, List.drop_succ_cons, List.drop_zero, Nat.zero_add, Nat.reduceAdd]; change wpQuiet _ _ (fun wq9 => ∃ x : Later W, wq9 = x.W) _ _ _; (repeat (go_big_quiet_step (fail))); refine wpQuiet_nil ?_; try dsimp only)
 (refine wpG_box 9 #[Value.string ⟨#[]⟩, .int .i64 0, .slice none 0 0, .string ⟨#[]⟩, .string ⟨#[]⟩, .int .i64 0, .string ⟨#[]⟩, .string ⟨#[]⟩, .slice none 0 0] 36 rfl rfl rfl rfl rfl (by intro w; go_simp) ?_; intro u7 lo7 hi7 hsat; obtain ⟨w1, hw1⟩ := hsat; have hr : gBox 9 u7 lo7 hi7 w1 := (hw1.rec rfl 7).2.2; obtain ⟨rfl, rfl, _⟩ := hr; clear hw1; simp only [Act.put, List.setIfInBounds_toArray, List.set_cons_zero, List.set_cons_succ, Nat.reduceAdd])
 (refine wpG_t (fun w' => setN w' lo7 0 [.string m.name, .int .i64 m.stage, .slice A1 m.x.length c1, .string b, .string s, .int .i64 0, .string pS, .string (roundsS m.stage), .slice none 0 0]) rfl rfl rfl rfl (by intro w1 hw1; have hr : gBox 9 (.pointer (some ⟨lo7, 0, none⟩)) lo7 (lo7 + 1) w1 := (hw1.rec rfl 7).2.2; have hlo : W.heap.size ≤ lo7 := (hw1.rng rfl 7 rfl).1; obtain ⟨_, _, f, hcf⟩ := hr; have p0 := hcf.cell (i := 0) (by omega); have q0 := hcf.free (i := 0) (by omega); have p1 := hcf.cell (i := 1) (by omega); have q1 := hcf.free (i := 1) (by omega); have p2 := hcf.cell (i := 2) (by omega); have q2 := hcf.free (i := 2) (by omega); have p3 := hcf.cell (i := 3) (by omega); have q3 := hcf.free (i := 3) (by omega); have p4 := hcf.cell (i := 4) (by omega); have q4 := hcf.free (i := 4) (by omega); have p5 := hcf.cell (i := 5) (by omega); have q5 := hcf.free (i := 5) (by omega); have p6 := hcf.cell (i := 6) (by omega); have q6 := hcf.free (i := 6) (by omega); have p7 := hcf.cell (i := 7) (by omega); have q7 := hcf.free (i := 7) (by omega); have p8 := hcf.cell (i := 8) (by omega); have q8 := hcf.free (i := 8) (by omega); have hC1 := (hw1.cls rfl).below; clear hw1; refine ⟨?_, inC.of (Below.setN hlo _ hC1)⟩; simp only [setN]; go_simp; try rfl) ?_)
 intro w' hh
 obtain ⟨_, wz, hz, rfl⟩ := hh
 have hr1 : ∃ A c, Value.agg #[.string m.name, .int .i64 m.stage, .slice A1 m.x.length c1] = .agg #[.string m.name, .int .i64 m.stage, .slice A m.x.length c] ∧ OwnL wz lo hi A 1 encString m.x := (hz.rec rfl 1).2.2
 (obtain ⟨A, c, hAe, hO⟩ := hr1; obtain ⟨rfl, rfl⟩ : A1 = A ∧ c1 = c := by simpa using hAe)
 have hr7 : gBox 9 (.pointer (some ⟨lo7, 0, none⟩)) lo7 (lo7 + 1) wz := (hz.rec rfl 7).2.2
 have hlo7 : W.heap.size ≤ lo7 := (hz.rng rfl 7 rfl).1
 have hlo1 : W.heap.size ≤ lo := (hz.rng rfl 1 rfl).1
 have hhi1 : hi ≤ wz.heap.size := (hz.rec rfl 1).1
 have hap : hi ≤ lo7 ∨ lo7 + 1 ≤ lo := hz.apart rfl 1 7 (by omega)
 obtain ⟨_, _, f, hcf⟩ := hr7
 have hbz := (hz.cls rfl).below
 clear hz hAe
 have hcv := hcf.boxed [.string m.name, .int .i64 m.stage, .slice A1 m.x.length c1, .string b, .string s, .int .i64 0, .string pS, .string (roundsS m.stage), .slice none 0 0] rfl
 have hlt7 := hcf.lt
 have hchV : Chg lo7 (lo7 + 1) wz (setN wz lo7 0 [.string m.name, .int .i64 m.stage, .slice A1 m.x.length c1, .string b, .string s, .int .i64 0, .string pS, .string (roundsS m.stage), .slice none 0 0]) := Chg.setN (Nat.le_refl _) (Nat.lt_succ_self _) _ (Chg.refl _ _ _)
 have hOV := Lib.hid (hO.chg hchV (by omega))
 have hbV : Hid (Below W.heap.size W (setN wz lo7 0 [.string m.name, .int .i64 m.stage, .slice A1 m.x.length c1, .string b, .string s, .int .i64 0, .string pS, .string (roundsS m.stage), .slice none 0 0])) := Lib.hid (Below.setN hlo7 _ hbz)
 have hcv := Lib.hid hcv
 have hsV : lo7 < (setN wz lo7 0 [.string m.name, .int .i64 m.stage, .slice A1 m.x.length c1, .string b, .string s, .int .i64 0, .string pS, .string (roundsS m.stage), .slice none 0 0]).heap.size ∧ hi ≤ (setN wz lo7 0 [.string m.name, .int .i64 m.stage, .slice A1 m.x.length c1, .string b, .string s, .int .i64 0, .string pS, .string (roundsS m.stage), .slice none 0 0]).heap.size := by rw [setN_size]; exact ⟨hlt7, hhi1⟩
 obtain ⟨hsV1, hsV2⟩ := hsV
 clear hO hchV hcf hbz hhi1 hlt7 f0 f1 f2 f3 f4
 generalize setN wz lo7 0 [.string m.name, .int .i64 m.stage, .slice A1 m.x.length c1, .string b, .string s, .int .i64 0, .string pS, .string (roundsS m.stage), .slice none 0 0] = V at *
 have hst : m.stage.toNat ≤ 8 := by omega
 go_wp2_with fail
 go_loopw [6] (fun i wr => ∃ (p : Nat) (v : Value), 1 ≤ p ∧ (p : Int) ≤ m.stage + 1 ∧ i = .int .i64 p ∧ Hid (Cells wr lo7 9 (upd (fun i => ([Value.string m.name, .int .i64 m.stage, .slice A1 m.x.length c1, .string b, .string s, .int .i64 0, .string pS, .string (roundsS m.stage), .slice none 0 0] : List Value).getD i undef) 8 v)) ∧ Hid (Grow wr V.heap.size 76 2 Rgr.enc v (newRs (p - 1))) ∧ Hid (Chg lo7 (lo7 + 1) V wr)) (fun i _ => 10 - (intOf i).toNat)
 case atStart => exact ⟨1, .slice none 0 0, by omega, by omega, by rfl, Lib.hid (hcv.out.congr fun i hi => by unfold upd; split <;> simp_all), Lib.hid Grow.nil, Lib.hid (Chg.refl _ _ _)⟩
 case round =>
  obtain ⟨p, v, hp1, hp2, rfl, hcl, hg, hch⟩ := hrel
  have hgs := hch.out.size
  have g1 : wr.cell? ⟨w.heap.size, 1, none⟩ = some (.int .i64 m.stage) := (hch.out.cell (p := ⟨w.heap.size, 1, none⟩) (show w.heap.size < V.heap.size by omega) (.inl (show w.heap.size < lo7 by omega))).trans ((hbV.out.cell (p := ⟨w.heap.size, 1, none⟩) (show w.heap.size < W.heap.size by omega)).trans u1)
  have c8 := hcl.out.cell (i := 8) (by omega)
  have c8f := hcl.out.free (i := 8) (by omega)
  rw [upd_same] at c8
  by_cases hlt : (p : Int) ≤ m.stage
  ·have hlen : (newRs (p - 1)).length ≤ 8 := by rw [newRs_len]; omega
   have hone := Lib.hid (show ∀ u ∈ flat Rgr.enc [(⟨(p : Int), false⟩ : Rgr)], u.oneCell' = true by simp [flat, Rgr.enc, Value.oneCell'])
   go_wp2_with (at_builtin; refine wpList_push rfl (.tmp 21) (.tmp 24) 34 rfl V.heap.size 76 _ 2 16 Rgr.enc rfl Ringer_info rfl (by omega) v (newRs (p - 1)) [⟨(p : Int), false⟩] 1 rfl rfl (by first | rfl | simp) hg.out rfl Rgr_enc_len hone.out (by simp only [List.length_singleton]; omega) (by omega) (by first | omega | (simp; omega)) ?_; intro v' w9 hg9 hb9 _; have hv9 : ∃ A9 n9 c9, v' = .slice A9 n9 c9 := (by obtain ⟨A9, c9, hv9, _⟩ := hg9.own Rgr_enc_len; exact ⟨_, _, _, hv9⟩); obtain ⟨A9, n9, c9, rfl⟩ := hv9; have c8' := (hb9.cell (p := ⟨lo7, 8, none⟩) (show lo7 < V.heap.size by omega)).trans c8; have c8f' := (hb9.frozen (p := ⟨lo7, 8, none⟩) (show lo7 < V.heap.size by omega)).trans c8f)
   go_roundw
   case rel =>
    refine ⟨p + 1, .slice A9 n9 c9, by omega, by omega, by go_num, Lib.hid ?_, Lib.hid ?_, Lib.hid ?_⟩
    ·refine ((hcl.out.below hb9 (by omega)).set (i := 8) (by omega) _).congr fun i hi => ?_
     unfold upd; split <;> simp_all
    ·rw [show p + 1 - 1 = (p - 1) + 1 by omega, newRs_succ, show ((p - 1 : Nat) : Int) + 1 = (p : Int) by omega]
     exact hg9.set (p := ⟨lo7, 8, none⟩) (show lo7 < V.heap.size by omega) _
    ·exact (hch.out.then_below hb9).setCell (p := ⟨lo7, 8, none⟩) (Nat.le_refl _) (Nat.lt_succ_self _) _
   case measure => simp [intOf]; omega
  ·have hpe : p - 1 = m.stage.toNat := by omega
   have hg' := hg.out
   rw [hpe] at hg'
   obtain ⟨A3, c3, hv3, ho3⟩ := hg'.own Rgr_enc_len
   subst hv3
   have HO3 := Lib.hid ho3
   have hCr := (hC.out.below hbV.out (by omega)).chg hch.out (.inl (show w.heap.size + 2 < lo7 by omega))
   have b0 : wr.cell? ⟨lo7, 0, none⟩ = some (.string m.name) := hcl.out.cell (i := 0) (by omega)
   have b1 : wr.cell? ⟨lo7, 1, none⟩ = some (.int .i64 m.stage) := hcl.out.cell (i := 1) (by omega)
   have b2 : wr.cell? ⟨lo7, 2, none⟩ = some (.slice A1 m.x.length c1) := hcl.out.cell (i := 2) (by omega)
   have b3 : wr.cell? ⟨lo7, 3, none⟩ = some (.string b) := hcl.out.cell (i := 3) (by omega)
   have b4 : wr.cell? ⟨lo7, 4, none⟩ = some (.string s) := hcl.out.cell (i := 4) (by omega)
   have b5 : wr.cell? ⟨lo7, 5, none⟩ = some (.int .i64 0) := hcl.out.cell (i := 5) (by omega)
   have b6 : wr.cell? ⟨lo7, 6, none⟩ = some (.string pS) := hcl.out.cell (i := 6) (by omega)
   have b7 : wr.cell? ⟨lo7, 7, none⟩ = some (.string (roundsS m.stage)) := hcl.out.cell (i := 7) (by omega)
   have b8 : wr.cell? ⟨lo7, 8, none⟩ = some (.slice A3 (newRs m.stage.toNat).length c3) := hcl.out.cell (i := 8) (by omega)
   have r0 := hCr.cell (i := 0) (by omega)
   have rf0 := hCr.free (i := 0) (by omega)
   have r1 := hCr.cell (i := 1) (by omega)
   have rf1 := hCr.free (i := 1) (by omega)
   have r2 := hCr.cell (i := 2) (by omega)
   have rf2 := hCr.free (i := 2) (by omega)
   have r3 := hCr.cell (i := 3) (by omega)
   have rf3 := hCr.free (i := 3) (by omega)
   have r4 := hCr.cell (i := 4) (by omega)
   have rf4 := hCr.free (i := 4) (by omega)
   have r5 := hCr.cell (i := 5) (by omega)
   have rf5 := hCr.free (i := 5) (by omega)
   have r6 := hCr.cell (i := 6) (by omega)
   have rf6 := hCr.free (i := 6) (by omega)
   have r7 := hCr.cell (i := 7) (by omega)
   have rf7 := hCr.free (i := 7) (by omega)
   have r8 := hCr.cell (i := 8) (by omega)
   have rf8 := hCr.free (i := 8) (by omega)
   clear c8 c8f hCr ho3 hg' hpe
   go_wp2
   refine bodyPost_ret (v := .agg #[.string m.name, .int .i64 m.stage, .slice A1 m.x.length c1, .string b, .string s, .int .i64 0, .string pS, .string (roundsS m.stage), .slice A3 (newRs m.stage.toNat).length c3]) (by simp [results, Tryz.results65, go_sem, r0, r1, r2, r3, r4, r5, r6, r7, r8, rf0, rf1, rf2, rf3, rf4, rf5, rf6, rf7, rf8]) rfl ?_
   have kk : Chg (w.heap.size + 1 + 1) (w.heap.size + 1 + 1 + 1) wr (setN wr (w.heap.size + 1 + 1) 0 [.string m.name, .int .i64 m.stage, .slice A1 m.x.length c1, .string b, .string s, .int .i64 0, .string pS, .string (roundsS m.stage), .slice A3 (newRs m.stage.toNat).length c3]) := Chg.setN (Nat.le_refl _) (Nat.lt_succ_self _) _ (Chg.refl _ _ wr)
   have hO1 := ((hOV.out.chg hch.out (by omega)).chg kk (.inr (by omega))).mono (show w.heap.size ≤ lo by omega) hsV2
   have hO3 := (HO3.out.chg kk (.inr (by omega))).mono (Nat.le_refl _) kk.size
   have hBB := Below.chg (Below.chg (hWb.out.trans (hbV.out.mono (by omega))) hch.out (by omega) (by have := hbV.out.size; omega)) kk (by omega) (by omega)
   exact ⟨A1, c1, A3, c3, V.heap.size, rfl, by have := hbV.out.size; omega, Nat.le_trans hgs kk.size, hO1, hO3, hBB⟩
set_option maxHeartbeats 1600000 in
theorem newBand_any (m : Mth) (b s : ByteArray) (w : World) (h : RdL w w.heap.size m.A 1 encString m.x) (hl : m.x.length ≤ 1048576) (h0 : 0 < m.x.length) (hs1 : 1 ≤ m.stage) (hs2 : m.stage ≤ 8) :
  Calls Tryz.prog 59 #[.agg #[.string m.name, .int .i64 m.stage, .slice m.A m.x.length m.c], .agg #[.string b, .string s]] w fun e w' => BdOut m.name m.stage m.x b s 0 pS (roundsS m.stage) (newRs m.stage.toNat) w e w' := by
 have hW : ∃ W : World, Hid ((((w.alloc (.cells #[.string m.name, .int .i64 m.stage, .slice m.A m.x.length m.c] 26)).alloc (.cells #[.string b, .string s] 28)).alloc (.cells #[Value.string ⟨#[]⟩, .int .i64 0, .slice none 0 0, .string ⟨#[]⟩, .string ⟨#[]⟩, .int .i64 0, .string ⟨#[]⟩, .string ⟨#[]⟩, .slice none 0 0] 36)) = W) ∧ Hid (W.heap.size = w.heap.size + 3) ∧ Hid (Below w.heap.size w W) ∧ W.cell? ⟨w.heap.size, 0, none⟩ = some (.string m.name) ∧ W.cell? ⟨w.heap.size, 1, none⟩ = some (.int .i64 m.stage) ∧ W.cell? ⟨w.heap.size, 2, none⟩ = some (.slice m.A m.x.length m.c) ∧ W.cell? ⟨w.heap.size + 1, 0, none⟩ = some (.string b) ∧ W.cell? ⟨w.heap.size + 1, 1, none⟩ = some (.string s) ∧ Hid (Cells W (w.heap.size + 2) 9 (fun i => (#[Value.string ⟨#[]⟩, .int .i64 0, .slice none 0 0, .string ⟨#[]⟩, .string ⟨#[]⟩, .int .i64 0, .string ⟨#[]⟩, .string ⟨#[]⟩, .slice none 0 0] : Array Value).getD i undef)) := by
  have z1 : w.heap.size + 1 = ((w.alloc (.cells #[.string m.name, .int .i64 m.stage, .slice m.A m.x.length m.c] 26))).heap.size := by simp
  have z2 : w.heap.size + 2 = (((w.alloc (.cells #[.string m.name, .int .i64 m.stage, .slice m.A m.x.length m.c] 26)).alloc (.cells #[.string b, .string s] 28))).heap.size := by simp
  refine ⟨_, Lib.hid rfl, Lib.hid (by simp), Lib.hid ((((Below.refl _ _).alloc (Nat.le_refl _) _).alloc (by simp) _).alloc (by simp; omega) _), ?_, ?_, ?_, ?_, ?_, Lib.hid ?_⟩
  ·rw [World.cell?_alloc_lt _ _ _ (by simp; omega), World.cell?_alloc_lt _ _ _ (by simp), World.cell?_alloc_new]; rfl
  ·rw [World.cell?_alloc_lt _ _ _ (by simp; omega), World.cell?_alloc_lt _ _ _ (by simp), World.cell?_alloc_new]; rfl
  ·rw [World.cell?_alloc_lt _ _ _ (by simp; omega), World.cell?_alloc_lt _ _ _ (by simp), World.cell?_alloc_new]; rfl
  ·rw [World.cell?_alloc_lt _ _ _ (by simp), z1, World.cell?_alloc_new]; rfl
  ·rw [World.cell?_alloc_lt _ _ _ (by simp), z1, World.cell?_alloc_new]; rfl
  ·rw [z2]
   refine Cells.new _ _ _ 9 _ (fun i hi => ?_)
   match i, hi with
   | 0, _ => rfl
   | 1, _ => rfl
   | 2, _ => rfl
   | 3, _ => rfl
   | 4, _ => rfl
   | 5, _ => rfl
   | 6, _ => rfl
   | 7, _ => rfl
   | 8, _ => rfl
 obtain ⟨W, hWe, hWs, hWb, u0, u1, u2, u3, u4, hC⟩ := hW
 have hWs1 : w.heap.size + 3 ≤ W.heap.size := by have := hWs.out; omega
 have hV : Hid (Below W.heap.size W (W.alloc (.cells #[Value.string ⟨#[]⟩, .int .i64 0, .slice none 0 0, .string ⟨#[]⟩, .string ⟨#[]⟩, .int .i64 0, .string ⟨#[]⟩, .string ⟨#[]⟩, .slice none 0 0] 36))) := Lib.hid ((Below.refl _ _).alloc (Nat.le_refl _) _)
 have hVs : Hid ((W.alloc (.cells #[Value.string ⟨#[]⟩, .int .i64 0, .slice none 0 0, .string ⟨#[]⟩, .string ⟨#[]⟩, .int .i64 0, .string ⟨#[]⟩, .string ⟨#[]⟩, .slice none 0 0] 36)).heap.size = W.heap.size + 1) := Lib.hid (by simp)
 have hVd : Hid (Below W.heap.size W (W.alloc (.cells #[Value.string ⟨#[]⟩, .int .i64 0, .slice none 0 0, .string ⟨#[]⟩, .string ⟨#[]⟩, .int .i64 0, .string ⟨#[]⟩, .string ⟨#[]⟩, .slice none 0 0] 36)).drew) := Lib.hid hV.out.drew
 have x0 := (hV.out.cell (p := ⟨w.heap.size, 0, none⟩) (show w.heap.size < W.heap.size by omega)).trans u0
 have x1 := (hV.out.cell (p := ⟨w.heap.size, 1, none⟩) (show w.heap.size < W.heap.size by omega)).trans u1
 have x2 := (hV.out.cell (p := ⟨w.heap.size, 2, none⟩) (show w.heap.size < W.heap.size by omega)).trans u2
 have x3 := (hV.out.cell (p := ⟨w.heap.size + 1, 0, none⟩) (show w.heap.size + 1 < W.heap.size by omega)).trans u3
 have x4 := (hV.out.cell (p := ⟨w.heap.size + 1, 1, none⟩) (show w.heap.size + 1 < W.heap.size by omega)).trans u4
 have hCV := Lib.hid (hC.out.later (w' := (W.alloc (.cells #[Value.string ⟨#[]⟩, .int .i64 0, .slice none 0 0, .string ⟨#[]⟩, .string ⟨#[]⟩, .int .i64 0, .string ⟨#[]⟩, .string ⟨#[]⟩, .slice none 0 0] 36))) hV.out)
 have hZ5 : Hid (Cells (W.alloc (.cells #[Value.string ⟨#[]⟩, .int .i64 0, .slice none 0 0, .string ⟨#[]⟩, .string ⟨#[]⟩, .int .i64 0, .string ⟨#[]⟩, .string ⟨#[]⟩, .slice none 0 0] 36)) W.heap.size 9 (fun i => (#[Value.string ⟨#[]⟩, .int .i64 0, .slice none 0 0, .string ⟨#[]⟩, .string ⟨#[]⟩, .int .i64 0, .string ⟨#[]⟩, .string ⟨#[]⟩, .slice none 0 0] : Array Value).getD i undef)) := Lib.hid (Cells.new _ _ _ 9 _ (fun i hi => by
  match i, hi with
  | 0, _ => rfl
  | 1, _ => rfl
  | 2, _ => rfl
  | 3, _ => rfl
  | 4, _ => rfl
  | 5, _ => rfl
  | 6, _ => rfl
  | 7, _ => rfl
  | 8, _ => rfl))
 have H := Lib.hid (show RdL W W.heap.size m.A 1 encString m.x from (h.below hWb.out (Nat.le_refl _)).more hWb.out.size)
 clear h
 have f0 := Later.cell u0 (show w.heap.size < W.heap.size by omega)
 have f1 := Later.cell u1 (show w.heap.size < W.heap.size by omega)
 have f2 := Later.cell u2 (show w.heap.size < W.heap.size by omega)
 have f3 := Later.cell u3 (show w.heap.size + 1 < W.heap.size by omega)
 have f4 := Later.cell u4 (show w.heap.size + 1 < W.heap.size by omega)
 go_enter Tryz.func59, Tryz.ntmps59
 go_wp2_with fail
 rw [hWe.out]
 clear hWe
 refine wp_region_G (by kernel_rfl) [.q, .q, .q, .s (fun _ u lo hi w' => ∃ A1 c1, u = .slice A1 m.x.length c1 ∧ OwnL w' lo hi A1 1 encString m.x), .s (fun g u lo hi w' => u = .agg #[.string m.name, .int .i64 m.stage, g.getD 1 undef]), .q, .q, .q, .s (fun _ u lo hi w' => u = .string (roundsS m.stage)), .q, .s (fun _ => gBox 9), .t] [0, 0, 0, 1, 1, 0, 0, 0, 1, 0, 1, 2] rfl 3 (by kernel_rfl) (inC W) (W).heap.size (inC.size W) (inC.of (Below.refl _ _).drew) ?_
 (refine wpG_quiets 3 _ _ _ _ (by first | exact cls_none rfl | exact fun w h => h.1) (by intro j hj; rcases j with _ | _ | _ | _ | _ | _ | _ | _ | _ | _ | j <;> first | exact ⟨rfl, ⟨_, rfl, rfl⟩, rfl⟩ | (exfalso; omega)) ?_; simp only [List.take_succ_cons, List.take_zero, List.drop_succ_cons, List.drop_zero, Nat.zero_add, Nat.reduceAdd]; change wpQuiet _ _ (fun wq9 => ∃ x : Later W, wq9 = x.W) _ _ _; (repeat (go_big_quiet_step (fail))); refine wpQuiet_nil ?_; try dsimp only)
 (refine wpG_call _ rfl rfl rfl rfl (fun u lo hi => loc_ex fun A => loc_ex fun c => loc_and (loc_pure _) (loc_own (Nat.le_refl _) (Nat.le_refl _))) 112 #[.slice m.A m.x.length m.c] (by intro w; go_simp) (by intro w1 hw1 hd; (refine (cloneS_any m.x m.A m.c _ ((H.out.below hw1.below (Nat.le_refl _)).more hw1.below.size) hl h0).mono ?_; rintro e w2 ⟨A1, c1, rfl, ho, hc1, hb⟩; exact ⟨_, rfl, hw1.step hb, eff_of_below hb, A1, c1, rfl, ho⟩)) ?_)
 (intro u lo hi hsat; obtain ⟨w1, hw1⟩ := hsat; have hr : ∃ A1 c1, u = .slice A1 m.x.length c1 ∧ OwnL w1 lo hi A1 1 encString m.x := (hw1.rec rfl 3).2.2; obtain ⟨A1, c1, rfl, _⟩ := hr; clear hw1; simp only [Act.put, List.setIfInBounds_toArray, List.set_cons_zero, List.set_cons_succ, Nat.reduceAdd])
 (refine wpG_call _ rfl rfl rfl rfl (fun u lo hi => loc_pure _) 111 #[.agg #[.string m.name, .int .i64 m.stage, .slice m.A m.x.length m.c], .slice A1 m.x.length c1] (by intro w; go_simp) (by intro w1 hw1 hd; (refine (withChanges_any m A1 m.x.length c1 _).mono ?_; rintro e w2 ⟨rfl, hb⟩; exact ⟨_, rfl, hw1.step hb, eff_of_below hb, rfl⟩)) ?_)
 (intro u4 lo4 hi4 hsat; obtain ⟨w1, hw1⟩ := hsat; have hr : u4 = .agg #[.string m.name, .int .i64 m.stage, .slice A1 m.x.length c1] := (hw1.rec rfl 4).2.2; obtain rfl := hr; clear hw1; simp only [Act.put, List.setIfInBounds_toArray, List.set_cons_zero, List.set_cons_succ, Nat.reduceAdd])
 (refine wpG_quiets 3 _ _ _ _ (by first | exact cls_none rfl | exact fun w h => h.1) (by intro j hj; rcases j with _ | _ | _ | _ | _ | _ | _ | _ | _ | _ | j <;> first | exact ⟨rfl, ⟨_, rfl, rfl⟩, rfl⟩ | (exfalso; omega)) ?_; simp only [List.take_succ_cons, List.take_zero, List.drop_succ_cons, List.drop_zero, Nat.zero_add, Nat.reduceAdd]; change wpQuiet _ _ (fun wq9 => ∃ x : Later W, wq9 = x.W) _ _ _; (repeat (go_big_quiet_step (fail))); refine wpQuiet_nil ?_; try dsimp only)
 (refine wpG_call _ rfl rfl rfl rfl (fun u lo hi => loc_pure _) 113 #[.int .i64 m.stage] (by intro w; go_simp) (by intro w1 hw1 hd; (refine (rounds_any m.stage _ (by omega) hs2).mono ?_; rintro e w2 ⟨rfl, rfl⟩; exact ⟨_, rfl, hw1, eff_of_below (Below.refl _ _), rfl⟩)) ?_)
 (intro u5 lo5 hi5 hsat; obtain ⟨w1, hw1⟩ := hsat; have hr : u5 = .string (roundsS m.stage) := (hw1.rec rfl 8).2.2; obtain rfl := hr; clear hw1; simp only [Act.put, List.setIfInBounds_toArray, List.set_cons_zero, List.set_cons_succ, Nat.reduceAdd])
 (refine wpG_quiets 1 _ _ _ _ (by first | exact cls_none rfl | exact fun w h => h.1) (by intro j hj; rcases j with _ | _ | _ | _ | _ | _ | _ | _ | _ | _ | j <;> first | exact ⟨rfl, ⟨_, rfl, rfl⟩, rfl⟩ | (exfalso; omega)) ?_; simp only [List.take_succ_cons, List.take_zero, List.drop_succ_cons, List.drop_zero, Nat.zero_add, Nat.reduceAdd]; change wpQuiet _ _ (fun wq9 => ∃ x : Later W, wq9 = x.W) _ _ _; (repeat (go_big_quiet_step (fail))); refine wpQuiet_nil ?_; try dsimp only)
 (refine wpG_box 9 #[Value.string ⟨#[]⟩, .int .i64 0, .slice none 0 0, .string ⟨#[]⟩, .string ⟨#[]⟩, .int .i64 0, .string ⟨#[]⟩, .string ⟨#[]⟩, .slice none 0 0] 36 rfl rfl rfl rfl rfl (by intro w; go_simp) ?_; intro u7 lo7 hi7 hsat; obtain ⟨w1, hw1⟩ := hsat; have hr : gBox 9 u7 lo7 hi7 w1 := (hw1.rec rfl 10).2.2; obtain ⟨rfl, rfl, _⟩ := hr; clear hw1; simp only [Act.put, List.setIfInBounds_toArray, List.set_cons_zero, List.set_cons_succ, Nat.reduceAdd])
 (refine wpG_t (fun w' => setN w' lo7 0 [.string m.name, .int .i64 m.stage, .slice A1 m.x.length c1, .string b, .string s, .int .i64 0, .string pS, .string (roundsS m.stage), .slice none 0 0]) rfl rfl rfl rfl (by intro w1 hw1; have hr : gBox 9 (.pointer (some ⟨lo7, 0, none⟩)) lo7 (lo7 + 1) w1 := (hw1.rec rfl 10).2.2; have hlo : W.heap.size ≤ lo7 := (hw1.rng rfl 10 rfl).1; obtain ⟨_, _, f, hcf⟩ := hr; have p0 := hcf.cell (i := 0) (by omega); have q0 := hcf.free (i := 0) (by omega); have p1 := hcf.cell (i := 1) (by omega); have q1 := hcf.free (i := 1) (by omega); have p2 := hcf.cell (i := 2) (by omega); have q2 := hcf.free (i := 2) (by omega); have p3 := hcf.cell (i := 3) (by omega); have q3 := hcf.free (i := 3) (by omega); have p4 := hcf.cell (i := 4) (by omega); have q4 := hcf.free (i := 4) (by omega); have p5 := hcf.cell (i := 5) (by omega); have q5 := hcf.free (i := 5) (by omega); have p6 := hcf.cell (i := 6) (by omega); have q6 := hcf.free (i := 6) (by omega); have p7 := hcf.cell (i := 7) (by omega); have q7 := hcf.free (i := 7) (by omega); have p8 := hcf.cell (i := 8) (by omega); have q8 := hcf.free (i := 8) (by omega); have hC1 := (hw1.cls rfl).below; clear hw1; refine ⟨?_, inC.of (Below.setN hlo _ hC1)⟩; simp only [setN]; go_simp; try rfl) ?_)
 intro w' hh
 obtain ⟨_, wz, hz, rfl⟩ := hh
 have hr1 : ∃ A c, Value.slice A1 m.x.length c1 = .slice A m.x.length c ∧ OwnL wz lo hi A 1 encString m.x := (hz.rec rfl 3).2.2
 (obtain ⟨A, c, hAe, hO⟩ := hr1; obtain ⟨rfl, rfl⟩ : A1 = A ∧ c1 = c := by simpa using hAe)
 have hr7 : gBox 9 (.pointer (some ⟨lo7, 0, none⟩)) lo7 (lo7 + 1) wz := (hz.rec rfl 10).2.2
 have hlo7 : W.heap.size ≤ lo7 := (hz.rng rfl 10 rfl).1
 have hlo1 : W.heap.size ≤ lo := (hz.rng rfl 3 rfl).1
 have hhi1 : hi ≤ wz.heap.size := (hz.rec rfl 3).1
 have hap : hi ≤ lo7 ∨ lo7 + 1 ≤ lo := hz.apart rfl 3 10 (by omega)
 obtain ⟨_, _, f, hcf⟩ := hr7
 have hbz := (hz.cls rfl).below
 clear hz hAe
 have hcv := hcf.boxed [.string m.name, .int .i64 m.stage, .slice A1 m.x.length c1, .string b, .string s, .int .i64 0, .string pS, .string (roundsS m.stage), .slice none 0 0] rfl
 have hlt7 := hcf.lt
 have hchV : Chg lo7 (lo7 + 1) wz (setN wz lo7 0 [.string m.name, .int .i64 m.stage, .slice A1 m.x.length c1, .string b, .string s, .int .i64 0, .string pS, .string (roundsS m.stage), .slice none 0 0]) := Chg.setN (Nat.le_refl _) (Nat.lt_succ_self _) _ (Chg.refl _ _ _)
 have hOV := Lib.hid (hO.chg hchV (by omega))
 have hbV : Hid (Below W.heap.size W (setN wz lo7 0 [.string m.name, .int .i64 m.stage, .slice A1 m.x.length c1, .string b, .string s, .int .i64 0, .string pS, .string (roundsS m.stage), .slice none 0 0])) := Lib.hid (Below.setN hlo7 _ hbz)
 have hcv := Lib.hid hcv
 have hsV : lo7 < (setN wz lo7 0 [.string m.name, .int .i64 m.stage, .slice A1 m.x.length c1, .string b, .string s, .int .i64 0, .string pS, .string (roundsS m.stage), .slice none 0 0]).heap.size ∧ hi ≤ (setN wz lo7 0 [.string m.name, .int .i64 m.stage, .slice A1 m.x.length c1, .string b, .string s, .int .i64 0, .string pS, .string (roundsS m.stage), .slice none 0 0]).heap.size := by rw [setN_size]; exact ⟨hlt7, hhi1⟩
 obtain ⟨hsV1, hsV2⟩ := hsV
 clear hO hchV hcf hbz hhi1 hlt7 f0 f1 f2 f3 f4
 generalize setN wz lo7 0 [.string m.name, .int .i64 m.stage, .slice A1 m.x.length c1, .string b, .string s, .int .i64 0, .string pS, .string (roundsS m.stage), .slice none 0 0] = V at *
 have hst : m.stage.toNat ≤ 8 := by omega
 go_wp2_with fail
 go_loopw [6] (fun i wr => ∃ (p : Nat) (v : Value), 1 ≤ p ∧ (p : Int) ≤ m.stage + 1 ∧ i = .int .i64 p ∧ Hid (Cells wr lo7 9 (upd (fun i => ([Value.string m.name, .int .i64 m.stage, .slice A1 m.x.length c1, .string b, .string s, .int .i64 0, .string pS, .string (roundsS m.stage), .slice none 0 0] : List Value).getD i undef) 8 v)) ∧ Hid (Grow wr V.heap.size 76 2 Rgr.enc v (newRs (p - 1))) ∧ Hid (Chg lo7 (lo7 + 1) V wr)) (fun i _ => 10 - (intOf i).toNat)
 case atStart => exact ⟨1, .slice none 0 0, by omega, by omega, by rfl, Lib.hid (hcv.out.congr fun i hi => by unfold upd; split <;> simp_all), Lib.hid Grow.nil, Lib.hid (Chg.refl _ _ _)⟩
 case round =>
  obtain ⟨p, v, hp1, hp2, rfl, hcl, hg, hch⟩ := hrel
  have hgs := hch.out.size
  have g1 : wr.cell? ⟨w.heap.size, 1, none⟩ = some (.int .i64 m.stage) := (hch.out.cell (p := ⟨w.heap.size, 1, none⟩) (show w.heap.size < V.heap.size by omega) (.inl (show w.heap.size < lo7 by omega))).trans ((hbV.out.cell (p := ⟨w.heap.size, 1, none⟩) (show w.heap.size < W.heap.size by omega)).trans u1)
  have c8 := hcl.out.cell (i := 8) (by omega)
  have c8f := hcl.out.free (i := 8) (by omega)
  rw [upd_same] at c8
  by_cases hlt : (p : Int) ≤ m.stage
  ·have hlen : (newRs (p - 1)).length ≤ 8 := by rw [newRs_len]; omega
   have hone := Lib.hid (show ∀ u ∈ flat Rgr.enc [(⟨(p : Int), false⟩ : Rgr)], u.oneCell' = true by simp [flat, Rgr.enc, Value.oneCell'])
   go_wp2_with (at_builtin; refine wpList_push rfl (.tmp 24) (.tmp 27) 34 rfl V.heap.size 76 _ 2 16 Rgr.enc rfl Ringer_info rfl (by omega) v (newRs (p - 1)) [⟨(p : Int), false⟩] 1 rfl rfl (by first | rfl | simp) hg.out rfl Rgr_enc_len hone.out (by simp only [List.length_singleton]; omega) (by omega) (by first | omega | (simp; omega)) ?_; intro v' w9 hg9 hb9 _; have hv9 : ∃ A9 n9 c9, v' = .slice A9 n9 c9 := (by obtain ⟨A9, c9, hv9, _⟩ := hg9.own Rgr_enc_len; exact ⟨_, _, _, hv9⟩); obtain ⟨A9, n9, c9, rfl⟩ := hv9; have c8' := (hb9.cell (p := ⟨lo7, 8, none⟩) (show lo7 < V.heap.size by omega)).trans c8; have c8f' := (hb9.frozen (p := ⟨lo7, 8, none⟩) (show lo7 < V.heap.size by omega)).trans c8f)
   go_roundw
   case rel =>
    refine ⟨p + 1, .slice A9 n9 c9, by omega, by omega, by go_num, Lib.hid ?_, Lib.hid ?_, Lib.hid ?_⟩
    ·refine ((hcl.out.below hb9 (by omega)).set (i := 8) (by omega) _).congr fun i hi => ?_
     unfold upd; split <;> simp_all
    ·rw [show p + 1 - 1 = (p - 1) + 1 by omega, newRs_succ, show ((p - 1 : Nat) : Int) + 1 = (p : Int) by omega]
     exact hg9.set (p := ⟨lo7, 8, none⟩) (show lo7 < V.heap.size by omega) _
    ·exact (hch.out.then_below hb9).setCell (p := ⟨lo7, 8, none⟩) (Nat.le_refl _) (Nat.lt_succ_self _) _
   case measure => simp [intOf]; omega
  ·have hpe : p - 1 = m.stage.toNat := by omega
   have hg' := hg.out
   rw [hpe] at hg'
   obtain ⟨A3, c3, hv3, ho3⟩ := hg'.own Rgr_enc_len
   subst hv3
   have HO3 := Lib.hid ho3
   have hCr := (hC.out.below hbV.out (by omega)).chg hch.out (.inl (show w.heap.size + 2 < lo7 by omega))
   have b0 : wr.cell? ⟨lo7, 0, none⟩ = some (.string m.name) := hcl.out.cell (i := 0) (by omega)
   have b1 : wr.cell? ⟨lo7, 1, none⟩ = some (.int .i64 m.stage) := hcl.out.cell (i := 1) (by omega)
   have b2 : wr.cell? ⟨lo7, 2, none⟩ = some (.slice A1 m.x.length c1) := hcl.out.cell (i := 2) (by omega)
   have b3 : wr.cell? ⟨lo7, 3, none⟩ = some (.string b) := hcl.out.cell (i := 3) (by omega)
   have b4 : wr.cell? ⟨lo7, 4, none⟩ = some (.string s) := hcl.out.cell (i := 4) (by omega)
   have b5 : wr.cell? ⟨lo7, 5, none⟩ = some (.int .i64 0) := hcl.out.cell (i := 5) (by omega)
   have b6 : wr.cell? ⟨lo7, 6, none⟩ = some (.string pS) := hcl.out.cell (i := 6) (by omega)
   have b7 : wr.cell? ⟨lo7, 7, none⟩ = some (.string (roundsS m.stage)) := hcl.out.cell (i := 7) (by omega)
   have b8 : wr.cell? ⟨lo7, 8, none⟩ = some (.slice A3 (newRs m.stage.toNat).length c3) := hcl.out.cell (i := 8) (by omega)
   have r0 := hCr.cell (i := 0) (by omega)
   have rf0 := hCr.free (i := 0) (by omega)
   have r1 := hCr.cell (i := 1) (by omega)
   have rf1 := hCr.free (i := 1) (by omega)
   have r2 := hCr.cell (i := 2) (by omega)
   have rf2 := hCr.free (i := 2) (by omega)
   have r3 := hCr.cell (i := 3) (by omega)
   have rf3 := hCr.free (i := 3) (by omega)
   have r4 := hCr.cell (i := 4) (by omega)
   have rf4 := hCr.free (i := 4) (by omega)
   have r5 := hCr.cell (i := 5) (by omega)
   have rf5 := hCr.free (i := 5) (by omega)
   have r6 := hCr.cell (i := 6) (by omega)
   have rf6 := hCr.free (i := 6) (by omega)
   have r7 := hCr.cell (i := 7) (by omega)
   have rf7 := hCr.free (i := 7) (by omega)
   have r8 := hCr.cell (i := 8) (by omega)
   have rf8 := hCr.free (i := 8) (by omega)
   clear c8 c8f hCr ho3 hg' hpe
   go_wp2
   refine bodyPost_ret (v := .agg #[.string m.name, .int .i64 m.stage, .slice A1 m.x.length c1, .string b, .string s, .int .i64 0, .string pS, .string (roundsS m.stage), .slice A3 (newRs m.stage.toNat).length c3]) (by simp [results, Tryz.results59, go_sem, r0, r1, r2, r3, r4, r5, r6, r7, r8, rf0, rf1, rf2, rf3, rf4, rf5, rf6, rf7, rf8]) rfl ?_
   have kk : Chg (w.heap.size + 1 + 1) (w.heap.size + 1 + 1 + 1) wr (setN wr (w.heap.size + 1 + 1) 0 [.string m.name, .int .i64 m.stage, .slice A1 m.x.length c1, .string b, .string s, .int .i64 0, .string pS, .string (roundsS m.stage), .slice A3 (newRs m.stage.toNat).length c3]) := Chg.setN (Nat.le_refl _) (Nat.lt_succ_self _) _ (Chg.refl _ _ wr)
   have hO1 := ((hOV.out.chg hch.out (by omega)).chg kk (.inr (by omega))).mono (show w.heap.size ≤ lo by omega) hsV2
   have hO3 := (HO3.out.chg kk (.inr (by omega))).mono (Nat.le_refl _) kk.size
   have hBB := Below.chg (Below.chg (hWb.out.trans (hbV.out.mono (by omega))) hch.out (by omega) (by have := hbV.out.size; omega)) kk (by omega) (by omega)
   exact ⟨A1, c1, A3, c3, V.heap.size, rfl, by have := hbV.out.size; omega, Nat.le_trans hgs kk.size, hO1, hO3, hBB⟩
end Go.Proofs.YtkegbbndmfnolaaGreatDoor

/-
 A band as a result: what it holds, where its slices lie; marks on it; NewBand of both sides.
-/
namespace Go.Proofs.YtkegbbndmfnolaaGreatDoor
open Go.RowKit
set_option linter.unusedVariables false
set_option linter.unusedSimpArgs false
set_option maxRecDepth 100000

/-- What a band holds. -/
structure Bd where
 name : ByteArray
 stage : Int
 x : List ByteArray
 bob : ByteArray
 sing : ByteArray
 step : Int
 call : ByteArray
 tru : ByteArray
 rx : List Rgr
def Bd.zero : Bd := ⟨⟨#[]⟩, 0, [], ⟨#[]⟩, ⟨#[]⟩, 0, ⟨#[]⟩, ⟨#[]⟩, []⟩
/-- The value is that band; its slices lie in two ranges of blocks. -/
def BdAt (d : Bd) (v : Value) (lo hi : Nat) (w : World) : Prop :=
 ∃ A1 c1 A3 c3 gs, v = .agg #[.string d.name, .int .i64 d.stage, .slice A1 d.x.length c1, .string d.bob, .string d.sing, .int .i64 d.step, .string d.call, .string d.tru, .slice A3 d.rx.length c3] ∧ lo ≤ gs ∧ gs ≤ hi ∧ OwnL w lo gs A1 1 encString d.x ∧ OwnL w gs hi A3 2 Rgr.enc d.rx
theorem loc_bd (d : Bd) (v : Value) (lo hi : Nat) : GLoc ⟨lo, hi, fun w => BdAt d v lo hi w, true⟩ :=
 loc_ex fun _ => loc_ex fun _ => loc_ex fun _ => loc_ex fun _ => loc_ex fun gs => loc_imp fun _ => loc_imp fun h1 => loc_imp fun h2 => loc_and (loc_own (Nat.le_refl _) h2) (loc_own h1 (Nat.le_refl _))
theorem BdAt.later {d : Bd} {v : Value} {lo hi : Nat} {w w' : World} (h : BdAt d v lo hi w) (hb : Below w.heap.size w w') : BdAt d v lo hi w' := by
 obtain ⟨A1, c1, A3, c3, gs, hv, h1, h2, o1, o3⟩ := h
 exact ⟨A1, c1, A3, c3, gs, hv, h1, h2, o1.later hb, o3.later hb⟩
theorem BdAt.chg {d : Bd} {v : Value} {lo hi b c : Nat} {w w' : World} (h : BdAt d v lo hi w) (k : Chg b c w w') (hr : hi ≤ b ∨ c ≤ lo) : BdAt d v lo hi w' := by
 obtain ⟨A1, c1, A3, c3, gs, hv, h1, h2, o1, o3⟩ := h
 exact ⟨A1, c1, A3, c3, gs, hv, h1, h2, o1.chg k (by omega), o3.chg k (by omega)⟩
theorem BdAt.open {d : Bd} {A1 A3 : Option Addr} {c1 c3 lo hi : Nat} {w : World} (h : BdAt d (.agg #[.string d.name, .int .i64 d.stage, .slice A1 d.x.length c1, .string d.bob, .string d.sing, .int .i64 d.step, .string d.call, .string d.tru, .slice A3 d.rx.length c3]) lo hi w) : ∃ gs, lo ≤ gs ∧ gs ≤ hi ∧ OwnL w lo gs A1 1 encString d.x ∧ OwnL w gs hi A3 2 Rgr.enc d.rx := by
 obtain ⟨A1', c1', A3', c3', gs, hv, h1, h2, o1, o3⟩ := h
 obtain ⟨⟨rfl, rfl⟩, rfl, rfl⟩ : (A1 = A1' ∧ c1 = c1') ∧ A3 = A3' ∧ c3 = c3' := by simpa using hv
 exact ⟨gs, h1, h2, o1, o3⟩
def BdRet (d : Bd) (ok : Bool) (w : World) (e : Ending) (w' : World) : Prop := ∃ v, e = .returned (.tuple #[v, .bool ok]) ∧ BdAt d v w.heap.size w'.heap.size w' ∧ Below w.heap.size w w'
def BdOne (d : Bd) (w : World) (e : Ending) (w' : World) : Prop := ∃ v, e = .returned v ∧ BdAt d v w.heap.size w'.heap.size w' ∧ Below w.heap.size w w'
theorem BdAt.zero (lo hi : Nat) (w : World) (h : lo ≤ hi) : BdAt Bd.zero (.agg #[.string ⟨#[]⟩, .int .i64 0, .slice none 0 0, .string ⟨#[]⟩, .string ⟨#[]⟩, .int .i64 0, .string ⟨#[]⟩, .string ⟨#[]⟩, .slice none 0 0]) lo hi w :=
 ⟨none, 0, none, 0, lo, rfl, Nat.le_refl _, h, .inl rfl, .inl rfl⟩


end Go.Proofs.YtkegbbndmfnolaaGreatDoor
