import Derived.Test.YtkegbbndmfnolaaGreatDoorMBandsL27
/-
 Any band of the reader; the drawn bands.
-/
namespace Go.Proofs.YtkegbbndmfnolaaGreatDoor
open Go.RowKit
set_option linter.unusedVariables false
set_option linter.unusedSimpArgs false
set_option maxRecDepth 100000



/-- A list without its last element reads at the same place; without its first two cells on. -/
theorem RdL.tailR {w : World} {b g : Nat} {l : List Rgr} (h : RdL w b (some ⟨g, 0, none⟩) 2 Rgr.enc l) : RdL w b (some ⟨g, 2, none⟩) 2 Rgr.enc l.tail := by
 cases l with
 | nil => exact .inl rfl
 | cons y l =>
  rcases h with h | ⟨g', off, hA, hg, hc⟩
  ·cases h
  ·injection hA with hA; injection hA with h1 h2
   subst h1 h2
   refine .inr ⟨g, 2, rfl, hg, fun i hi j u hu => ?_⟩
   have := hc (i + 1) (by simpa using hi) j u (by simpa using hu)
   rw [show 2 + (i * 2 + j) = 0 + ((i + 1) * 2 + j) by omega]
   exact this
set_option maxHeartbeats 6400000 in
theorem anyBand_any (g K : Nat) (w0 w : World) (h : Cur w g K) (hK : K ≤ 10000) (htab : Tab w0) (hw0 : Below w0.heap.size w0 w) (hg0 : w0.heap.size ≤ g) :
  Calls Tryz.prog 75 #[.pointer (some ⟨g, 0, none⟩)] w fun e w' => ∃ b : Bnd, e = .returned (.agg #[.string b.m.name, .int .i64 b.m.stage, .slice b.m.A b.m.x.length b.m.c, .string b.bob, .string b.sing, .int .i64 b.step, .string b.call, .string b.tru, .slice b.RA b.rx.length b.rc]) ∧ (∀ W', Chg 0 w.heap.size w' W' → b.Ok W') ∧ Cur w' g (K + 1300) ∧ Turn g w w' := by
 have H := Lib.hid h
 have hgw := h.lt
 obtain ⟨W0, hWe, hWs, hWb, hZ⟩ : ∃ W0 : World, Hid (w.alloc (.cells #[Value.string ⟨#[]⟩, .int .i64 0, .slice none 0 0, .string ⟨#[]⟩, .string ⟨#[]⟩, .int .i64 0, .string ⟨#[]⟩, .string ⟨#[]⟩, .slice none 0 0] 36) = W0) ∧ Hid (W0.heap.size = w.heap.size + 1) ∧ Hid (Below w.heap.size w W0) ∧ Hid (Cells W0 w.heap.size 9 (fun i => (#[Value.string ⟨#[]⟩, .int .i64 0, .slice none 0 0, .string ⟨#[]⟩, .string ⟨#[]⟩, .int .i64 0, .string ⟨#[]⟩, .string ⟨#[]⟩, .slice none 0 0] : Array Value).getD i undef)) :=
  ⟨_, Lib.hid rfl, Lib.hid (by simp), Lib.hid ((Below.refl _ _).alloc (Nat.le_refl _) _), Lib.hid (Cells.newD _ #[Value.string ⟨#[]⟩, .int .i64 0, .slice none 0 0, .string ⟨#[]⟩, .string ⟨#[]⟩, .int .i64 0, .string ⟨#[]⟩, .string ⟨#[]⟩, .slice none 0 0] _)⟩
 have hWs1 : w.heap.size + 1 = W0.heap.size := hWs.out.symm
 have HB := Lib.hid (band_any g K w0 W0 (h.later hWb.out) hK htab (hw0.trans (hWb.out.mono hw0.size)) hg0)
 clear h htab hw0
 go_enter Tryz.func75, Tryz.ntmps75
 go_upto_region 1 with fail
 rw [hWe.out]
 clear hWe
 go_upto_region 2 with (first | (go_at_call 128; refine HB.out.mono ?_; rintro e w1 ⟨d, v, rfl, hbd, hdp', hx12, hc1, ht1⟩; obtain ⟨A1, c1, A3, c3, gs, rfl, hg1, hg2, o1, o3⟩ := hbd; have hdp := Lib.hid hdp'; have HO1 := Lib.hid o1; have HO3 := Lib.hid o3; have HC1 := Lib.hid hc1; have HT1 := Lib.hid ht1; have hz1 := ht1.size; clear o1 o3 hc1 ht1 hdp'))
 obtain ⟨bx, hbx⟩ : ∃ bx, Hid (w1.heap.size = bx) := ⟨_, Lib.hid rfl⟩
 have hbe := hbx.out
 obtain ⟨V, hVe, hVb, hCV⟩ : ∃ V : World, Hid (w1.alloc (.cells #[.string d.name, .int .i64 d.stage, .slice A1 d.x.length c1, .string d.bob, .string d.sing, .int .i64 d.step, .string d.call, .string d.tru, .slice A3 d.rx.length c3] 36) = V) ∧ Hid (Below w1.heap.size w1 V) ∧ Hid (Cells V bx 9 (fun i => ([Value.string d.name, .int .i64 d.stage, .slice A1 d.x.length c1, .string d.bob, .string d.sing, .int .i64 d.step, .string d.call, .string d.tru, .slice A3 d.rx.length c3] : List Value).getD i undef)) :=
  ⟨_, Lib.hid rfl, Lib.hid ((Below.refl _ _).alloc (Nat.le_refl _) _), Lib.hid (by rw [← hbx.out]; exact (Cells.newD _ #[.string d.name, .int .i64 d.stage, .slice A1 d.x.length c1, .string d.bob, .string d.sing, .int .i64 d.step, .string d.call, .string d.tru, .slice A3 d.rx.length c3] _).congr fun i _ => getD_toArray _ i)⟩
 rw [hVe.out, hbx.out]
 clear hVe
 have hzV := hVb.out.size
 have HCV := Lib.hid (HC1.out.later hVb.out)
 go_upto_region 3 with (first | (go_at_call 53; refine (pick_any g (K + 1200) 25 V HCV.out (by omega) (by omega)).mono ?_; rintro e w2 ⟨x, rfl, hx0, hx1, hc2, ht2⟩; have HCu2 := Lib.hid hc2; have HTu2 := Lib.hid ((Turn.of hWb.out).trans ((HT1.out.then hVb.out).trans ht2)); have HC2 := Lib.hid (hCV.out.turn ht2 (.inr (show g + 1 ≤ bx by omega))); have HZ2 := Lib.hid (((hZ.out.turn HT1.out (.inr (show g + 1 ≤ w.heap.size by omega))).later hVb.out).turn ht2 (.inr (show g + 1 ≤ w.heap.size by omega))); have hO1 := Lib.hid ((HO1.out.later hVb.out).turn ht2 (.inr (by omega))); have hO3 := Lib.hid ((HO3.out.later hVb.out).turn ht2 (.inr (by omega))); have hz2 := ht2.size; clear hc2 ht2))
 have hbx2 : bx < w2.heap.size := HC2.out.lt
 clear HC1 HT1 HO1 HO3 HCV hCV hZ HB
 have hst3 : 3 ≤ d.rx.length := by have := hdp.out.2.2.2.2.1; have e : (d.rx.length : Int) = d.stage := this; have := hdp.out.1.1.2.stage.1; have e2 : 3 ≤ d.stage := this; omega
 have hst8 : d.rx.length ≤ 8 := by have := hdp.out.2.2.2.2.1; have e : (d.rx.length : Int) = d.stage := this; have := hdp.out.1.1.2.stage.2; have e2 : d.stage ≤ 8 := this; omega
 obtain ⟨g3, hA3, hg31, hg32, hg33⟩ := hO3.out.someRgr (by omega)
 subst hA3
 by_cases x0 : x = 0
 ·have d0 : (x == (0 : Int)) = true := by simpa using x0
  have HBl : Hid (Below w2.heap.size w2 (w2.alloc (.cells #[.int .i64 (-1), .int .i64 40, .int .i64 0] 3))) := Lib.hid ((Below.refl _ _).alloc (Nat.le_refl _) _)
  go_upto_region 11 with (first | (go_at_call 77; refine (among_any g (K + 1202) w2.heap.size 3 3 _ (fun s => True) _ (HCu2.out.later ((Below.refl _ _).alloc (Nat.le_refl _) _)) (by omega) (by omega) (by omega) (Cells.lit w2 _ _ 3 rfl) (by have := HCu2.out.lt; omega) (by intro k hk; rcases k with _ | _ | _ | k <;> first | exact ⟨_, rfl, trivial⟩ | omega)).mono ?_; rintro e w3 ⟨z, rfl, _, hc3, ht3⟩; have HCu3 := Lib.hid hc3; have hT3 := (Turn.of ((Below.refl _ _).alloc (Nat.le_refl _) _)).trans ht3; have HT3 := Lib.hid hT3; have HTu3 := Lib.hid (HTu2.out.trans hT3); have HC3 := Lib.hid (HC2.out.turn hT3 (.inr (show g + 1 ≤ bx by omega))); have hz3 := hT3.size; have s5 := HC3.out.cell (i := 5) (by omega); have sf5 := HC3.out.free (i := 5) (by omega); clear hc3 ht3 hT3))
  obtain ⟨Q, hQe, HCQ, hQk⟩ : ∃ Q : World, Hid (w3.setCell ⟨bx, 5, none⟩ (.int .i64 z) = Q) ∧ Hid (Cells Q bx 9 (fun i => ([Value.string d.name, .int .i64 d.stage, .slice A1 d.x.length c1, .string d.bob, .string d.sing, .int .i64 z, .string d.call, .string d.tru, .slice (some ⟨g3, 0, none⟩) d.rx.length c3] : List Value).getD i undef)) ∧ Hid (Chg bx (bx + 1) w3 Q) := ⟨_, Lib.hid rfl, Lib.hid ((HC3.out.set (i := 5) (by omega) (.int .i64 z)).congr (fun i hi => by match i, hi with | 0, _ => rfl | 1, _ => rfl | 2, _ => rfl | 3, _ => rfl | 4, _ => rfl | 5, _ => rfl | 6, _ => rfl | 7, _ => rfl | 8, _ => rfl)), Lib.hid ((Chg.refl _ _ w3).setCell (p := ⟨bx, 5, none⟩) (Nat.le_refl _) (Nat.lt_succ_self _) _)⟩
  rw [hQe.out]
  clear hQe s5 sf5
  have hzQ := hQk.out.size
  have HZQ := Lib.hid ((HZ2.out.turn HT3.out (.inr (show g + 1 ≤ w.heap.size by omega))).chg hQk.out (by omega))
  have HO1Q := Lib.hid ((hO1.out.turn HT3.out (.inr (by omega))).chg hQk.out (by omega))
  have HO3Q := Lib.hid ((hO3.out.turn HT3.out (.inr (by omega))).chg hQk.out (by omega))
  have kQ : Below w.heap.size w3 Q := Below.chg (Below.refl _ _) hQk.out (by omega) (by omega)
  have HCuQ := Lib.hid (HCu3.out.keep kQ hgw)
  have HTuQ := Lib.hid (HTu3.out.thenB kQ)
  clear kQ
  have q0 := (HCQ.out).cell (i := 0) (by omega)
  have q1 := (HCQ.out).cell (i := 1) (by omega)
  have q2 := (HCQ.out).cell (i := 2) (by omega)
  have q3 := (HCQ.out).cell (i := 3) (by omega)
  have q4 := (HCQ.out).cell (i := 4) (by omega)
  have q5 := (HCQ.out).cell (i := 5) (by omega)
  have q6 := (HCQ.out).cell (i := 6) (by omega)
  have q7 := (HCQ.out).cell (i := 7) (by omega)
  have q8 := (HCQ.out).cell (i := 8) (by omega)
  have p0 := (HZQ.out).cell (i := 0) (by omega)
  have p1 := (HZQ.out).cell (i := 1) (by omega)
  have p2 := (HZQ.out).cell (i := 2) (by omega)
  have p3 := (HZQ.out).cell (i := 3) (by omega)
  have p4 := (HZQ.out).cell (i := 4) (by omega)
  have p5 := (HZQ.out).cell (i := 5) (by omega)
  have p6 := (HZQ.out).cell (i := 6) (by omega)
  have p7 := (HZQ.out).cell (i := 7) (by omega)
  have p8 := (HZQ.out).cell (i := 8) (by omega)
  have f0 := (HZQ.out).free (i := 0) (by omega)
  have f1 := (HZQ.out).free (i := 1) (by omega)
  have f2 := (HZQ.out).free (i := 2) (by omega)
  have f3 := (HZQ.out).free (i := 3) (by omega)
  have f4 := (HZQ.out).free (i := 4) (by omega)
  have f5 := (HZQ.out).free (i := 5) (by omega)
  have f6 := (HZQ.out).free (i := 6) (by omega)
  have f7 := (HZQ.out).free (i := 7) (by omega)
  have f8 := (HZQ.out).free (i := 8) (by omega)
  go_wp2
  refine bodyPost_ret (v := .agg #[.string d.name, .int .i64 d.stage, .slice A1 d.x.length c1, .string d.bob, .string d.sing, .int .i64 z, .string d.call, .string d.tru, .slice (some ⟨g3, 0, none⟩) d.rx.length c3]) (by simp [results, Tryz.results75, go_sem, p0, p1, p2, p3, p4, p5, p6, p7, p8, f0, f1, f2, f3, f4, f5, f6, f7, f8]) rfl ?_
  have kk : Chg w.heap.size (w.heap.size + 1) Q (setN Q w.heap.size 0 [Value.string d.name, .int .i64 d.stage, .slice A1 d.x.length c1, .string d.bob, .string d.sing, .int .i64 z, .string d.call, .string d.tru, .slice (some ⟨g3, 0, none⟩) d.rx.length c3]) := Chg.setN (Nat.le_refl _) (Nat.lt_succ_self _) _ (Chg.refl _ _ Q)
  have kb : Below w.heap.size Q (setN Q w.heap.size 0 [Value.string d.name, .int .i64 d.stage, .slice A1 d.x.length c1, .string d.bob, .string d.sing, .int .i64 z, .string d.call, .string d.tru, .slice (some ⟨g3, 0, none⟩) d.rx.length c3]) := Below.chg (Below.refl _ _) kk (Nat.le_refl _) (by omega)
  have hok := Bnd.ok_of (c1 := c1) (c3 := c3) hdp.out (w := w2) (hO1.out.rd encString_len) (hO3.out.rd Rgr_enc_len)
  have hrob : ∀ W' : World, Chg 0 w.heap.size (setN Q w.heap.size 0 [Value.string d.name, .int .i64 d.stage, .slice A1 d.x.length c1, .string d.bob, .string d.sing, .int .i64 z, .string d.call, .string d.tru, .slice (some ⟨g3, 0, none⟩) d.rx.length c3]) W' → Bnd.Ok ⟨⟨d.name, d.stage, d.x, A1, c1⟩, d.bob, d.sing, z, d.call, d.tru, d.rx, some ⟨g3, 0, none⟩, c3⟩ W' := fun W' kW => by
   have hP1 := ((HO1Q.out.chg kk (.inr (by omega))).chg kW (.inr (by omega))).rd encString_len
   have hP3 := ((HO3Q.out.chg kk (.inr (by omega))).chg kW (.inr (by omega))).rd Rgr_enc_len
   exact ⟨hP1, hP3, hok.nm, hok.cl, hok.cs, hok.bs, hok.ss, hok.ks, hok.ts, hok.rl⟩
  exact ⟨⟨⟨d.name, d.stage, d.x, A1, c1⟩, d.bob, d.sing, z, d.call, d.tru, d.rx, some ⟨g3, 0, none⟩, c3⟩, rfl, hrob, (HCuQ.out.keep kb hgw).more (by omega), (HTuQ.out).thenB kb⟩
 have d0 : (x == (0 : Int)) = false := by simpa using x0
 by_cases x1 : x = 1
 ·have d1 : (x == (1 : Int)) = true := by simpa using x1
  have s5 := HC2.out.cell (i := 8) (by omega)
  have sf5 := HC2.out.free (i := 8) (by omega)
  by_cases hc31 : c3 = 1
  ·subst hc31
   go_upto_region 11 with fail
   obtain ⟨Q, hQe, HCQ, hQk⟩ : ∃ Q : World, Hid (w2.setCell ⟨bx, 8, none⟩ (.slice (some ⟨g3, 0, none⟩) (d.rx.length - 1) 0) = Q) ∧ Hid (Cells Q bx 9 (fun i => ([Value.string d.name, .int .i64 d.stage, .slice A1 d.x.length c1, .string d.bob, .string d.sing, .int .i64 d.step, .string d.call, .string d.tru, .slice (some ⟨g3, 0, none⟩) (d.rx.length - 1) 0] : List Value).getD i undef)) ∧ Hid (Chg bx (bx + 1) w2 Q) := ⟨_, Lib.hid rfl, Lib.hid ((HC2.out.set (i := 8) (by omega) (.slice (some ⟨g3, 0, none⟩) (d.rx.length - 1) 0)).congr (fun i hi => by match i, hi with | 0, _ => rfl | 1, _ => rfl | 2, _ => rfl | 3, _ => rfl | 4, _ => rfl | 5, _ => rfl | 6, _ => rfl | 7, _ => rfl | 8, _ => rfl)), Lib.hid ((Chg.refl _ _ w2).setCell (p := ⟨bx, 8, none⟩) (Nat.le_refl _) (Nat.lt_succ_self _) _)⟩
   rw [hQe.out]
   clear hQe s5 sf5
   have hzQ := hQk.out.size
   have HZQ := Lib.hid (HZ2.out.chg hQk.out (by omega))
   have HO1Q := Lib.hid (hO1.out.chg hQk.out (by omega))
   have HO3Q := Lib.hid (hO3.out.chg hQk.out (by omega))
   have kQ : Below w.heap.size w2 Q := Below.chg (Below.refl _ _) hQk.out (by omega) (by omega)
   have HCuQ := Lib.hid (HCu2.out.keep kQ hgw)
   have HTuQ := Lib.hid (HTu2.out.thenB kQ)
   clear kQ
   have q0 := (HCQ.out).cell (i := 0) (by omega)
   have q1 := (HCQ.out).cell (i := 1) (by omega)
   have q2 := (HCQ.out).cell (i := 2) (by omega)
   have q3 := (HCQ.out).cell (i := 3) (by omega)
   have q4 := (HCQ.out).cell (i := 4) (by omega)
   have q5 := (HCQ.out).cell (i := 5) (by omega)
   have q6 := (HCQ.out).cell (i := 6) (by omega)
   have q7 := (HCQ.out).cell (i := 7) (by omega)
   have q8 := (HCQ.out).cell (i := 8) (by omega)
   have p0 := (HZQ.out).cell (i := 0) (by omega)
   have p1 := (HZQ.out).cell (i := 1) (by omega)
   have p2 := (HZQ.out).cell (i := 2) (by omega)
   have p3 := (HZQ.out).cell (i := 3) (by omega)
   have p4 := (HZQ.out).cell (i := 4) (by omega)
   have p5 := (HZQ.out).cell (i := 5) (by omega)
   have p6 := (HZQ.out).cell (i := 6) (by omega)
   have p7 := (HZQ.out).cell (i := 7) (by omega)
   have p8 := (HZQ.out).cell (i := 8) (by omega)
   have f0 := (HZQ.out).free (i := 0) (by omega)
   have f1 := (HZQ.out).free (i := 1) (by omega)
   have f2 := (HZQ.out).free (i := 2) (by omega)
   have f3 := (HZQ.out).free (i := 3) (by omega)
   have f4 := (HZQ.out).free (i := 4) (by omega)
   have f5 := (HZQ.out).free (i := 5) (by omega)
   have f6 := (HZQ.out).free (i := 6) (by omega)
   have f7 := (HZQ.out).free (i := 7) (by omega)
   have f8 := (HZQ.out).free (i := 8) (by omega)
   go_wp2
   refine bodyPost_ret (v := .agg #[.string d.name, .int .i64 d.stage, .slice A1 d.x.length c1, .string d.bob, .string d.sing, .int .i64 d.step, .string d.call, .string d.tru, .slice (some ⟨g3, 0, none⟩) (d.rx.length - 1) 0]) (by simp [results, Tryz.results75, go_sem, p0, p1, p2, p3, p4, p5, p6, p7, p8, f0, f1, f2, f3, f4, f5, f6, f7, f8]) rfl ?_
   have kk : Chg w.heap.size (w.heap.size + 1) Q (setN Q w.heap.size 0 [Value.string d.name, .int .i64 d.stage, .slice A1 d.x.length c1, .string d.bob, .string d.sing, .int .i64 d.step, .string d.call, .string d.tru, .slice (some ⟨g3, 0, none⟩) (d.rx.length - 1) 0]) := Chg.setN (Nat.le_refl _) (Nat.lt_succ_self _) _ (Chg.refl _ _ Q)
   have kb : Below w.heap.size Q (setN Q w.heap.size 0 [Value.string d.name, .int .i64 d.stage, .slice A1 d.x.length c1, .string d.bob, .string d.sing, .int .i64 d.step, .string d.call, .string d.tru, .slice (some ⟨g3, 0, none⟩) (d.rx.length - 1) 0]) := Below.chg (Below.refl _ _) kk (Nat.le_refl _) (by omega)
   have hok := Bnd.ok_of (c1 := c1) (c3 := 1) hdp.out (w := w2) (hO1.out.rd encString_len) (hO3.out.rd Rgr_enc_len)
   have hrob : ∀ W' : World, Chg 0 w.heap.size (setN Q w.heap.size 0 [Value.string d.name, .int .i64 d.stage, .slice A1 d.x.length c1, .string d.bob, .string d.sing, .int .i64 d.step, .string d.call, .string d.tru, .slice (some ⟨g3, 0, none⟩) (d.rx.length - 1) 0]) W' → Bnd.Ok ⟨⟨d.name, d.stage, d.x, A1, c1⟩, d.bob, d.sing, d.step, d.call, d.tru, d.rx.take (d.rx.length - 1), some ⟨g3, 0, none⟩, 0⟩ W' := fun W' kW => by
    have hP1 := ((HO1Q.out.chg kk (.inr (by omega))).chg kW (.inr (by omega))).rd encString_len
    have hP3 := ((HO3Q.out.chg kk (.inr (by omega))).chg kW (.inr (by omega))).rd Rgr_enc_len
    exact ⟨hP1, (hP3.take (d.rx.length - 1)), hok.nm, hok.cl, hok.cs, hok.bs, hok.ss, hok.ks, hok.ts, (by simp; omega)⟩
   have e9 : (d.rx.take (d.rx.length - 1)).length = d.rx.length - 1 := by simp
   exact ⟨⟨⟨d.name, d.stage, d.x, A1, c1⟩, d.bob, d.sing, d.step, d.call, d.tru, d.rx.take (d.rx.length - 1), some ⟨g3, 0, none⟩, 0⟩, by simp only [e9], hrob, (HCuQ.out.keep kb hgw).more (by omega), (HTuQ.out).thenB kb⟩
  ·have hc32 : ¬ (1 : Nat) = c3 := fun x => hc31 x.symm
   go_upto_region 11 with fail
   obtain ⟨Q, hQe, HCQ, hQk⟩ : ∃ Q : World, Hid (w2.setCell ⟨bx, 8, none⟩ (.slice (some ⟨g3, 2, none⟩) (d.rx.length - 1) (c3 - 1)) = Q) ∧ Hid (Cells Q bx 9 (fun i => ([Value.string d.name, .int .i64 d.stage, .slice A1 d.x.length c1, .string d.bob, .string d.sing, .int .i64 d.step, .string d.call, .string d.tru, .slice (some ⟨g3, 2, none⟩) (d.rx.length - 1) (c3 - 1)] : List Value).getD i undef)) ∧ Hid (Chg bx (bx + 1) w2 Q) := ⟨_, Lib.hid rfl, Lib.hid ((HC2.out.set (i := 8) (by omega) (.slice (some ⟨g3, 2, none⟩) (d.rx.length - 1) (c3 - 1))).congr (fun i hi => by match i, hi with | 0, _ => rfl | 1, _ => rfl | 2, _ => rfl | 3, _ => rfl | 4, _ => rfl | 5, _ => rfl | 6, _ => rfl | 7, _ => rfl | 8, _ => rfl)), Lib.hid ((Chg.refl _ _ w2).setCell (p := ⟨bx, 8, none⟩) (Nat.le_refl _) (Nat.lt_succ_self _) _)⟩
   rw [hQe.out]
   clear hQe s5 sf5
   have hzQ := hQk.out.size
   have HZQ := Lib.hid (HZ2.out.chg hQk.out (by omega))
   have HO1Q := Lib.hid (hO1.out.chg hQk.out (by omega))
   have HO3Q := Lib.hid (hO3.out.chg hQk.out (by omega))
   have kQ : Below w.heap.size w2 Q := Below.chg (Below.refl _ _) hQk.out (by omega) (by omega)
   have HCuQ := Lib.hid (HCu2.out.keep kQ hgw)
   have HTuQ := Lib.hid (HTu2.out.thenB kQ)
   clear kQ
   have q0 := (HCQ.out).cell (i := 0) (by omega)
   have q1 := (HCQ.out).cell (i := 1) (by omega)
   have q2 := (HCQ.out).cell (i := 2) (by omega)
   have q3 := (HCQ.out).cell (i := 3) (by omega)
   have q4 := (HCQ.out).cell (i := 4) (by omega)
   have q5 := (HCQ.out).cell (i := 5) (by omega)
   have q6 := (HCQ.out).cell (i := 6) (by omega)
   have q7 := (HCQ.out).cell (i := 7) (by omega)
   have q8 := (HCQ.out).cell (i := 8) (by omega)
   have p0 := (HZQ.out).cell (i := 0) (by omega)
   have p1 := (HZQ.out).cell (i := 1) (by omega)
   have p2 := (HZQ.out).cell (i := 2) (by omega)
   have p3 := (HZQ.out).cell (i := 3) (by omega)
   have p4 := (HZQ.out).cell (i := 4) (by omega)
   have p5 := (HZQ.out).cell (i := 5) (by omega)
   have p6 := (HZQ.out).cell (i := 6) (by omega)
   have p7 := (HZQ.out).cell (i := 7) (by omega)
   have p8 := (HZQ.out).cell (i := 8) (by omega)
   have f0 := (HZQ.out).free (i := 0) (by omega)
   have f1 := (HZQ.out).free (i := 1) (by omega)
   have f2 := (HZQ.out).free (i := 2) (by omega)
   have f3 := (HZQ.out).free (i := 3) (by omega)
   have f4 := (HZQ.out).free (i := 4) (by omega)
   have f5 := (HZQ.out).free (i := 5) (by omega)
   have f6 := (HZQ.out).free (i := 6) (by omega)
   have f7 := (HZQ.out).free (i := 7) (by omega)
   have f8 := (HZQ.out).free (i := 8) (by omega)
   go_wp2
   refine bodyPost_ret (v := .agg #[.string d.name, .int .i64 d.stage, .slice A1 d.x.length c1, .string d.bob, .string d.sing, .int .i64 d.step, .string d.call, .string d.tru, .slice (some ⟨g3, 2, none⟩) (d.rx.length - 1) (c3 - 1)]) (by simp [results, Tryz.results75, go_sem, p0, p1, p2, p3, p4, p5, p6, p7, p8, f0, f1, f2, f3, f4, f5, f6, f7, f8]) rfl ?_
   have kk : Chg w.heap.size (w.heap.size + 1) Q (setN Q w.heap.size 0 [Value.string d.name, .int .i64 d.stage, .slice A1 d.x.length c1, .string d.bob, .string d.sing, .int .i64 d.step, .string d.call, .string d.tru, .slice (some ⟨g3, 2, none⟩) (d.rx.length - 1) (c3 - 1)]) := Chg.setN (Nat.le_refl _) (Nat.lt_succ_self _) _ (Chg.refl _ _ Q)
   have kb : Below w.heap.size Q (setN Q w.heap.size 0 [Value.string d.name, .int .i64 d.stage, .slice A1 d.x.length c1, .string d.bob, .string d.sing, .int .i64 d.step, .string d.call, .string d.tru, .slice (some ⟨g3, 2, none⟩) (d.rx.length - 1) (c3 - 1)]) := Below.chg (Below.refl _ _) kk (Nat.le_refl _) (by omega)
   have hok := Bnd.ok_of (c1 := c1) (c3 := c3) hdp.out (w := w2) (hO1.out.rd encString_len) (hO3.out.rd Rgr_enc_len)
   have hrob : ∀ W' : World, Chg 0 w.heap.size (setN Q w.heap.size 0 [Value.string d.name, .int .i64 d.stage, .slice A1 d.x.length c1, .string d.bob, .string d.sing, .int .i64 d.step, .string d.call, .string d.tru, .slice (some ⟨g3, 2, none⟩) (d.rx.length - 1) (c3 - 1)]) W' → Bnd.Ok ⟨⟨d.name, d.stage, d.x, A1, c1⟩, d.bob, d.sing, d.step, d.call, d.tru, d.rx.tail, some ⟨g3, 2, none⟩, c3 - 1⟩ W' := fun W' kW => by
    have hP1 := ((HO1Q.out.chg kk (.inr (by omega))).chg kW (.inr (by omega))).rd encString_len
    have hP3 := ((HO3Q.out.chg kk (.inr (by omega))).chg kW (.inr (by omega))).rd Rgr_enc_len
    exact ⟨hP1, hP3.tailR, hok.nm, hok.cl, hok.cs, hok.bs, hok.ss, hok.ks, hok.ts, (by simp; omega)⟩
   have e9 : d.rx.tail.length = d.rx.length - 1 := by simp
   exact ⟨⟨⟨d.name, d.stage, d.x, A1, c1⟩, d.bob, d.sing, d.step, d.call, d.tru, d.rx.tail, some ⟨g3, 2, none⟩, c3 - 1⟩, by simp only [e9], hrob, (HCuQ.out.keep kb hgw).more (by omega), (HTuQ.out).thenB kb⟩
 have d1 : (x == (1 : Int)) = false := by simpa using x1
 by_cases x2 : x = 2
 ·have d2 : (x == (2 : Int)) = true := by simpa using x2
  go_upto_region 11 with (first | (go_at_call 129; refine (anyRow_any g (K + 1202) w2 HCu2.out (by omega)).mono ?_; rintro e w3 ⟨rw9, rfl, hrw, hc3, hT3⟩; have Hrw := Lib.hid hrw; have HCu3 := Lib.hid hc3; have HT3 := Lib.hid hT3; have HTu3 := Lib.hid (HTu2.out.trans hT3); have HC3 := Lib.hid (HC2.out.turn hT3 (.inr (show g + 1 ≤ bx by omega))); have hz3 := hT3.size; have s5 := HC3.out.cell (i := 7) (by omega); have sf5 := HC3.out.free (i := 7) (by omega); clear hc3 hT3 hrw))
  obtain ⟨Q, hQe, HCQ, hQk⟩ : ∃ Q : World, Hid (w3.setCell ⟨bx, 7, none⟩ (.string rw9) = Q) ∧ Hid (Cells Q bx 9 (fun i => ([Value.string d.name, .int .i64 d.stage, .slice A1 d.x.length c1, .string d.bob, .string d.sing, .int .i64 d.step, .string d.call, .string rw9, .slice (some ⟨g3, 0, none⟩) d.rx.length c3] : List Value).getD i undef)) ∧ Hid (Chg bx (bx + 1) w3 Q) := ⟨_, Lib.hid rfl, Lib.hid ((HC3.out.set (i := 7) (by omega) (.string rw9)).congr (fun i hi => by match i, hi with | 0, _ => rfl | 1, _ => rfl | 2, _ => rfl | 3, _ => rfl | 4, _ => rfl | 5, _ => rfl | 6, _ => rfl | 7, _ => rfl | 8, _ => rfl)), Lib.hid ((Chg.refl _ _ w3).setCell (p := ⟨bx, 7, none⟩) (Nat.le_refl _) (Nat.lt_succ_self _) _)⟩
  rw [hQe.out]
  clear hQe s5 sf5
  have hzQ := hQk.out.size
  have HZQ := Lib.hid ((HZ2.out.turn HT3.out (.inr (show g + 1 ≤ w.heap.size by omega))).chg hQk.out (by omega))
  have HO1Q := Lib.hid ((hO1.out.turn HT3.out (.inr (by omega))).chg hQk.out (by omega))
  have HO3Q := Lib.hid ((hO3.out.turn HT3.out (.inr (by omega))).chg hQk.out (by omega))
  have kQ : Below w.heap.size w3 Q := Below.chg (Below.refl _ _) hQk.out (by omega) (by omega)
  have HCuQ := Lib.hid (HCu3.out.keep kQ hgw)
  have HTuQ := Lib.hid (HTu3.out.thenB kQ)
  clear kQ
  have q0 := (HCQ.out).cell (i := 0) (by omega)
  have q1 := (HCQ.out).cell (i := 1) (by omega)
  have q2 := (HCQ.out).cell (i := 2) (by omega)
  have q3 := (HCQ.out).cell (i := 3) (by omega)
  have q4 := (HCQ.out).cell (i := 4) (by omega)
  have q5 := (HCQ.out).cell (i := 5) (by omega)
  have q6 := (HCQ.out).cell (i := 6) (by omega)
  have q7 := (HCQ.out).cell (i := 7) (by omega)
  have q8 := (HCQ.out).cell (i := 8) (by omega)
  have p0 := (HZQ.out).cell (i := 0) (by omega)
  have p1 := (HZQ.out).cell (i := 1) (by omega)
  have p2 := (HZQ.out).cell (i := 2) (by omega)
  have p3 := (HZQ.out).cell (i := 3) (by omega)
  have p4 := (HZQ.out).cell (i := 4) (by omega)
  have p5 := (HZQ.out).cell (i := 5) (by omega)
  have p6 := (HZQ.out).cell (i := 6) (by omega)
  have p7 := (HZQ.out).cell (i := 7) (by omega)
  have p8 := (HZQ.out).cell (i := 8) (by omega)
  have f0 := (HZQ.out).free (i := 0) (by omega)
  have f1 := (HZQ.out).free (i := 1) (by omega)
  have f2 := (HZQ.out).free (i := 2) (by omega)
  have f3 := (HZQ.out).free (i := 3) (by omega)
  have f4 := (HZQ.out).free (i := 4) (by omega)
  have f5 := (HZQ.out).free (i := 5) (by omega)
  have f6 := (HZQ.out).free (i := 6) (by omega)
  have f7 := (HZQ.out).free (i := 7) (by omega)
  have f8 := (HZQ.out).free (i := 8) (by omega)
  go_wp2
  refine bodyPost_ret (v := .agg #[.string d.name, .int .i64 d.stage, .slice A1 d.x.length c1, .string d.bob, .string d.sing, .int .i64 d.step, .string d.call, .string rw9, .slice (some ⟨g3, 0, none⟩) d.rx.length c3]) (by simp [results, Tryz.results75, go_sem, p0, p1, p2, p3, p4, p5, p6, p7, p8, f0, f1, f2, f3, f4, f5, f6, f7, f8]) rfl ?_
  have kk : Chg w.heap.size (w.heap.size + 1) Q (setN Q w.heap.size 0 [Value.string d.name, .int .i64 d.stage, .slice A1 d.x.length c1, .string d.bob, .string d.sing, .int .i64 d.step, .string d.call, .string rw9, .slice (some ⟨g3, 0, none⟩) d.rx.length c3]) := Chg.setN (Nat.le_refl _) (Nat.lt_succ_self _) _ (Chg.refl _ _ Q)
  have kb : Below w.heap.size Q (setN Q w.heap.size 0 [Value.string d.name, .int .i64 d.stage, .slice A1 d.x.length c1, .string d.bob, .string d.sing, .int .i64 d.step, .string d.call, .string rw9, .slice (some ⟨g3, 0, none⟩) d.rx.length c3]) := Below.chg (Below.refl _ _) kk (Nat.le_refl _) (by omega)
  have hok := Bnd.ok_of (c1 := c1) (c3 := c3) hdp.out (w := w2) (hO1.out.rd encString_len) (hO3.out.rd Rgr_enc_len)
  have hrob : ∀ W' : World, Chg 0 w.heap.size (setN Q w.heap.size 0 [Value.string d.name, .int .i64 d.stage, .slice A1 d.x.length c1, .string d.bob, .string d.sing, .int .i64 d.step, .string d.call, .string rw9, .slice (some ⟨g3, 0, none⟩) d.rx.length c3]) W' → Bnd.Ok ⟨⟨d.name, d.stage, d.x, A1, c1⟩, d.bob, d.sing, d.step, d.call, rw9, d.rx, some ⟨g3, 0, none⟩, c3⟩ W' := fun W' kW => by
   have hP1 := ((HO1Q.out.chg kk (.inr (by omega))).chg kW (.inr (by omega))).rd encString_len
   have hP3 := ((HO3Q.out.chg kk (.inr (by omega))).chg kW (.inr (by omega))).rd Rgr_enc_len
   exact ⟨hP1, hP3, hok.nm, hok.cl, hok.cs, hok.bs, hok.ss, hok.ks, (by have := Hrw.out; show rw9.size ≤ _; omega), hok.rl⟩
  exact ⟨⟨⟨d.name, d.stage, d.x, A1, c1⟩, d.bob, d.sing, d.step, d.call, rw9, d.rx, some ⟨g3, 0, none⟩, c3⟩, rfl, hrob, (HCuQ.out.keep kb hgw).more (by omega), (HTuQ.out).thenB kb⟩
 have d2 : (x == (2 : Int)) = false := by simpa using x2
 by_cases x3 : x = 3
 ·have d3 : (x == (3 : Int)) = true := by simpa using x3
  have HPk : Hid (∀ W, Below w2.heap.size w2 W → Calls Tryz.prog 53 #[.pointer (some ⟨g, 0, none⟩), .int .i64 10] W fun e w' => ∃ v, e = .returned v ∧ ∃ y : Int, v = .int .i64 y ∧ Cur w' g (K + 1204) ∧ Turn g w2 w') := Lib.hid (fun W hb => (pick_any g (K + 1202) 10 W (HCu2.out.later hb) (by omega) (by omega)).mono fun e w' ⟨y, he, _, _, hc, ht⟩ => ⟨_, he, y, rfl, hc, (Turn.of hb).trans ht⟩)
  have s8 := HC2.out.cell (i := 8) (by omega)
  have hidx : (0 : Int) < (d.rx.length : Int) := by omega
  have hidx2 : 0 < d.rx.length := by omega
  go_upto_region 10 with fail
  go_region_law (first
   | (refine step_callsX (by rfl) 53 (by rfl) #[.pointer (some ⟨g, 0, none⟩), .int .i64 10] (by go_simp) (HPk.out _ (by repeat (first | exact Below.refl _ _ | refine Below.drew ?_ | refine Below.alloc ?_ (Nat.le_refl _) _))) ?_; rintro v w3 ⟨y, rfl, hc3, hT3⟩; have HCu3 := Lib.hid hc3; have HT3 := Lib.hid hT3; have HTu3 := Lib.hid (HTu2.out.trans hT3); have HC3 := Lib.hid (HC2.out.turn hT3 (.inr (show g + 1 ≤ bx by omega))); have hz3 := hT3.size; have r8 := HC3.out.cell (i := 8) (by omega); have HO33 := Lib.hid (hO3.out.turn hT3 (.inr (by omega))); have t0 : w3.cell? ⟨g3, 0, none⟩ = some (.int .i64 d.rx[0].place) := (by have := (HO33.out.cellRgr 0 (by omega)).1; simpa using this); have tf0 : w3.frozen? ⟨g3, 0, none⟩ = false := (by have := (HO33.out.cellRgr 0 (by omega)).2.1; simpa using this); clear hc3 hT3))
  all_goals
   go_upto_region 11 with fail
   obtain ⟨Q, hQe, hQk, HO3Q⟩ : ∃ Q : World, Hid (w3.setCell ⟨g3, 0, none⟩ (.int .i64 y) = Q) ∧ Hid (Chg g3 (g3 + 1) w3 Q) ∧ Hid (OwnL Q gs w1.heap.size (some ⟨g3, 0, none⟩) 2 Rgr.enc (d.rx.set 0 ⟨y, d.rx[0].deaf⟩)) := ⟨_, Lib.hid rfl, Lib.hid ((Chg.refl _ _ w3).setCell (p := ⟨g3, 0, none⟩) (Nat.le_refl _) (Nat.lt_succ_self _) _), Lib.hid (by have := HO33.out.setRgr 0 (by omega) 0 (by omega) (.int .i64 y) ⟨y, d.rx[0].deaf⟩ rfl; simpa using this)⟩
   rw [hQe.out]
   clear hQe t0 tf0 r8
   have hzQ := hQk.out.size
   have HCQ := Lib.hid (HC3.out.chg hQk.out (by omega))
   have HZQ := Lib.hid ((HZ2.out.turn HT3.out (.inr (show g + 1 ≤ w.heap.size by omega))).chg hQk.out (by omega))
   have HO1Q := Lib.hid ((hO1.out.turn HT3.out (.inr (by omega))).chg hQk.out (by omega))
   have kQ : Below w.heap.size w3 Q := Below.chg (Below.refl _ _) hQk.out (by omega) (by omega)
   have HCuQ := Lib.hid (HCu3.out.keep kQ hgw)
   have HTuQ := Lib.hid (HTu3.out.thenB kQ)
   clear kQ
   have q0 := (HCQ.out).cell (i := 0) (by omega)
   have q1 := (HCQ.out).cell (i := 1) (by omega)
   have q2 := (HCQ.out).cell (i := 2) (by omega)
   have q3 := (HCQ.out).cell (i := 3) (by omega)
   have q4 := (HCQ.out).cell (i := 4) (by omega)
   have q5 := (HCQ.out).cell (i := 5) (by omega)
   have q6 := (HCQ.out).cell (i := 6) (by omega)
   have q7 := (HCQ.out).cell (i := 7) (by omega)
   have q8 := (HCQ.out).cell (i := 8) (by omega)
   have p0 := (HZQ.out).cell (i := 0) (by omega)
   have p1 := (HZQ.out).cell (i := 1) (by omega)
   have p2 := (HZQ.out).cell (i := 2) (by omega)
   have p3 := (HZQ.out).cell (i := 3) (by omega)
   have p4 := (HZQ.out).cell (i := 4) (by omega)
   have p5 := (HZQ.out).cell (i := 5) (by omega)
   have p6 := (HZQ.out).cell (i := 6) (by omega)
   have p7 := (HZQ.out).cell (i := 7) (by omega)
   have p8 := (HZQ.out).cell (i := 8) (by omega)
   have f0 := (HZQ.out).free (i := 0) (by omega)
   have f1 := (HZQ.out).free (i := 1) (by omega)
   have f2 := (HZQ.out).free (i := 2) (by omega)
   have f3 := (HZQ.out).free (i := 3) (by omega)
   have f4 := (HZQ.out).free (i := 4) (by omega)
   have f5 := (HZQ.out).free (i := 5) (by omega)
   have f6 := (HZQ.out).free (i := 6) (by omega)
   have f7 := (HZQ.out).free (i := 7) (by omega)
   have f8 := (HZQ.out).free (i := 8) (by omega)
   go_wp2
   refine bodyPost_ret (v := .agg #[.string d.name, .int .i64 d.stage, .slice A1 d.x.length c1, .string d.bob, .string d.sing, .int .i64 d.step, .string d.call, .string d.tru, .slice (some ⟨g3, 0, none⟩) d.rx.length c3]) (by simp [results, Tryz.results75, go_sem, p0, p1, p2, p3, p4, p5, p6, p7, p8, f0, f1, f2, f3, f4, f5, f6, f7, f8]) rfl ?_
   have kk : Chg w.heap.size (w.heap.size + 1) Q (setN Q w.heap.size 0 [Value.string d.name, .int .i64 d.stage, .slice A1 d.x.length c1, .string d.bob, .string d.sing, .int .i64 d.step, .string d.call, .string d.tru, .slice (some ⟨g3, 0, none⟩) d.rx.length c3]) := Chg.setN (Nat.le_refl _) (Nat.lt_succ_self _) _ (Chg.refl _ _ Q)
   have kb : Below w.heap.size Q (setN Q w.heap.size 0 [Value.string d.name, .int .i64 d.stage, .slice A1 d.x.length c1, .string d.bob, .string d.sing, .int .i64 d.step, .string d.call, .string d.tru, .slice (some ⟨g3, 0, none⟩) d.rx.length c3]) := Below.chg (Below.refl _ _) kk (Nat.le_refl _) (by omega)
   have hok := Bnd.ok_of (c1 := c1) (c3 := c3) hdp.out (w := w2) (hO1.out.rd encString_len) (hO3.out.rd Rgr_enc_len)
   have hrob : ∀ W' : World, Chg 0 w.heap.size (setN Q w.heap.size 0 [Value.string d.name, .int .i64 d.stage, .slice A1 d.x.length c1, .string d.bob, .string d.sing, .int .i64 d.step, .string d.call, .string d.tru, .slice (some ⟨g3, 0, none⟩) d.rx.length c3]) W' → Bnd.Ok ⟨⟨d.name, d.stage, d.x, A1, c1⟩, d.bob, d.sing, d.step, d.call, d.tru, d.rx.set 0 ⟨y, d.rx[0].deaf⟩, some ⟨g3, 0, none⟩, c3⟩ W' := fun W' kW => by
    have hP1 := ((HO1Q.out.chg kk (.inr (by omega))).chg kW (.inr (by omega))).rd encString_len
    have hP3 := ((HO3Q.out.chg kk (.inr (by omega))).chg kW (.inr (by omega))).rd Rgr_enc_len
    exact ⟨hP1, hP3, hok.nm, hok.cl, hok.cs, hok.bs, hok.ss, hok.ks, hok.ts, (by simp; omega)⟩
   have e9 : (d.rx.set 0 ⟨y, d.rx[0].deaf⟩).length = d.rx.length := by simp
   exact ⟨⟨⟨d.name, d.stage, d.x, A1, c1⟩, d.bob, d.sing, d.step, d.call, d.tru, d.rx.set 0 ⟨y, d.rx[0].deaf⟩, some ⟨g3, 0, none⟩, c3⟩, by simp only [e9], hrob, (HCuQ.out.keep kb hgw).more (by omega), (HTuQ.out).thenB kb⟩
 have d3 : (x == (3 : Int)) = false := by simpa using x3
 have HCQ := HC2
 have HZQ := HZ2
 have HO1Q := hO1
 have HO3Q := hO3
 have HCuQ := HCu2
 have HTuQ := HTu2
 have q0 := (HCQ.out).cell (i := 0) (by omega)
 have q1 := (HCQ.out).cell (i := 1) (by omega)
 have q2 := (HCQ.out).cell (i := 2) (by omega)
 have q3 := (HCQ.out).cell (i := 3) (by omega)
 have q4 := (HCQ.out).cell (i := 4) (by omega)
 have q5 := (HCQ.out).cell (i := 5) (by omega)
 have q6 := (HCQ.out).cell (i := 6) (by omega)
 have q7 := (HCQ.out).cell (i := 7) (by omega)
 have q8 := (HCQ.out).cell (i := 8) (by omega)
 have p0 := (HZQ.out).cell (i := 0) (by omega)
 have p1 := (HZQ.out).cell (i := 1) (by omega)
 have p2 := (HZQ.out).cell (i := 2) (by omega)
 have p3 := (HZQ.out).cell (i := 3) (by omega)
 have p4 := (HZQ.out).cell (i := 4) (by omega)
 have p5 := (HZQ.out).cell (i := 5) (by omega)
 have p6 := (HZQ.out).cell (i := 6) (by omega)
 have p7 := (HZQ.out).cell (i := 7) (by omega)
 have p8 := (HZQ.out).cell (i := 8) (by omega)
 have f0 := (HZQ.out).free (i := 0) (by omega)
 have f1 := (HZQ.out).free (i := 1) (by omega)
 have f2 := (HZQ.out).free (i := 2) (by omega)
 have f3 := (HZQ.out).free (i := 3) (by omega)
 have f4 := (HZQ.out).free (i := 4) (by omega)
 have f5 := (HZQ.out).free (i := 5) (by omega)
 have f6 := (HZQ.out).free (i := 6) (by omega)
 have f7 := (HZQ.out).free (i := 7) (by omega)
 have f8 := (HZQ.out).free (i := 8) (by omega)
 go_wp2
 refine bodyPost_ret (v := .agg #[.string d.name, .int .i64 d.stage, .slice A1 d.x.length c1, .string d.bob, .string d.sing, .int .i64 d.step, .string d.call, .string d.tru, .slice (some ⟨g3, 0, none⟩) d.rx.length c3]) (by simp [results, Tryz.results75, go_sem, p0, p1, p2, p3, p4, p5, p6, p7, p8, f0, f1, f2, f3, f4, f5, f6, f7, f8]) rfl ?_
 have kk : Chg w.heap.size (w.heap.size + 1) w2 (setN w2 w.heap.size 0 [Value.string d.name, .int .i64 d.stage, .slice A1 d.x.length c1, .string d.bob, .string d.sing, .int .i64 d.step, .string d.call, .string d.tru, .slice (some ⟨g3, 0, none⟩) d.rx.length c3]) := Chg.setN (Nat.le_refl _) (Nat.lt_succ_self _) _ (Chg.refl _ _ w2)
 have kb : Below w.heap.size w2 (setN w2 w.heap.size 0 [Value.string d.name, .int .i64 d.stage, .slice A1 d.x.length c1, .string d.bob, .string d.sing, .int .i64 d.step, .string d.call, .string d.tru, .slice (some ⟨g3, 0, none⟩) d.rx.length c3]) := Below.chg (Below.refl _ _) kk (Nat.le_refl _) (by omega)
 have hok := Bnd.ok_of (c1 := c1) (c3 := c3) hdp.out (w := w2) (hO1.out.rd encString_len) (hO3.out.rd Rgr_enc_len)
 have hrob : ∀ W' : World, Chg 0 w.heap.size (setN w2 w.heap.size 0 [Value.string d.name, .int .i64 d.stage, .slice A1 d.x.length c1, .string d.bob, .string d.sing, .int .i64 d.step, .string d.call, .string d.tru, .slice (some ⟨g3, 0, none⟩) d.rx.length c3]) W' → Bnd.Ok ⟨⟨d.name, d.stage, d.x, A1, c1⟩, d.bob, d.sing, d.step, d.call, d.tru, d.rx, some ⟨g3, 0, none⟩, c3⟩ W' := fun W' kW => by
  have hP1 := ((HO1Q.out.chg kk (.inr (by omega))).chg kW (.inr (by omega))).rd encString_len
  have hP3 := ((HO3Q.out.chg kk (.inr (by omega))).chg kW (.inr (by omega))).rd Rgr_enc_len
  exact ⟨hP1, hP3, hok.nm, hok.cl, hok.cs, hok.bs, hok.ss, hok.ks, hok.ts, hok.rl⟩
 exact ⟨⟨⟨d.name, d.stage, d.x, A1, c1⟩, d.bob, d.sing, d.step, d.call, d.tru, d.rx, some ⟨g3, 0, none⟩, c3⟩, rfl, hrob, (HCuQ.out.keep kb hgw).more (by omega), (HTuQ.out).thenB kb⟩
end Go.Proofs.YtkegbbndmfnolaaGreatDoor

/-
 The drawn bands of the laws.
-/
namespace Go.Proofs.YtkegbbndmfnolaaGreatDoor
open Go.RowKit
set_option linter.unusedVariables false
set_option linter.unusedSimpArgs false
set_option maxRecDepth 100000



/-- A drawn band as a result: it stays where blocks from lo on stay. -/
def BdDrawn (w : World) (e : Ending) (w' : World) : Prop := ∃ b : Bnd, e = .returned (.agg #[.string b.m.name, .int .i64 b.m.stage, .slice b.m.A b.m.x.length b.m.c, .string b.bob, .string b.sing, .int .i64 b.step, .string b.call, .string b.tru, .slice b.RA b.rx.length b.rc]) ∧ (∀ W', Chg 0 w.heap.size w' W' → b.Ok W') ∧ Below w.heap.size w w'

set_option maxHeartbeats 1600000 in
theorem drawGoodBand_any (A : Option Addr) (c : Nat) (l : List Int) (w : World) (h : RdL w w.heap.size A 1 encByte l) (hb : ∀ x ∈ l, 0 ≤ x ∧ x < 256) (hl : l.length ≤ 9223372036854775807) (htab : Tab w) : Calls Tryz.prog 80 #[.slice A l.length c] w fun e w' => BdDrawn w e w' := by
 obtain ⟨W0, hWe, hWs, hWb, hZ, HC0⟩ : ∃ W0 : World, Hid (((w.alloc (.cells #[Value.string ⟨#[]⟩, .int .i64 0, .slice none 0 0, .string ⟨#[]⟩, .string ⟨#[]⟩, .int .i64 0, .string ⟨#[]⟩, .string ⟨#[]⟩, .slice none 0 0] 36)).alloc (.cells #[.slice A l.length c, .int .i64 0, .int .u64 0] 84)) = W0) ∧ Hid (W0.heap.size = w.heap.size + 2) ∧ Hid (Below w.heap.size w W0) ∧ Hid (Cells W0 w.heap.size 9 (fun i => (#[Value.string ⟨#[]⟩, .int .i64 0, .slice none 0 0, .string ⟨#[]⟩, .string ⟨#[]⟩, .int .i64 0, .string ⟨#[]⟩, .string ⟨#[]⟩, .slice none 0 0] : Array Value).getD i undef)) ∧ Hid (Cur W0 (w.heap.size + 1) 0) := by
  have z1 : (w.alloc (.cells #[Value.string ⟨#[]⟩, .int .i64 0, .slice none 0 0, .string ⟨#[]⟩, .string ⟨#[]⟩, .int .i64 0, .string ⟨#[]⟩, .string ⟨#[]⟩, .slice none 0 0] 36)).heap.size = w.heap.size + 1 := by simp
  have hB1 : Below w.heap.size w (w.alloc (.cells #[Value.string ⟨#[]⟩, .int .i64 0, .slice none 0 0, .string ⟨#[]⟩, .string ⟨#[]⟩, .int .i64 0, .string ⟨#[]⟩, .string ⟨#[]⟩, .slice none 0 0] 36)) := (Below.refl _ _).alloc (Nat.le_refl _) _
  refine ⟨_, Lib.hid rfl, Lib.hid (by simp), Lib.hid (hB1.alloc (by simp) _), Lib.hid ((Cells.newD _ #[Value.string ⟨#[]⟩, .int .i64 0, .slice none 0 0, .string ⟨#[]⟩, .string ⟨#[]⟩, .int .i64 0, .string ⟨#[]⟩, .string ⟨#[]⟩, .slice none 0 0] _).alloc _), Lib.hid ?_⟩
  have := Cur.new (c := c) ((h.below hB1 (Nat.le_refl _)).more hB1.size) hb hl 84
  rw [z1] at this
  exact this
 have hWs1 : w.heap.size + 2 = W0.heap.size := hWs.out.symm
 have HB := Lib.hid (anyBand_any (w.heap.size + 1) 0 w W0 HC0.out (by omega) htab hWb.out (by omega))
 clear h hb htab
 go_enter Tryz.func80, Tryz.ntmps80
 go_upto_region 2 with fail
 rw [hWe.out]
 clear hWe
 go_wp2_with (first | (go_at_call 75; refine HB.out.mono ?_; rintro e w1 ⟨b, rfl, hrob, hc1, ht1⟩; have HRob := Lib.hid hrob; have HT1 := Lib.hid ht1; have hz1 := ht1.size; have hZ1 := hZ.out.turn ht1 (.inl (by omega)); have p0 := (hZ1).cell (i := 0) (by omega); have p1 := (hZ1).cell (i := 1) (by omega); have p2 := (hZ1).cell (i := 2) (by omega); have p3 := (hZ1).cell (i := 3) (by omega); have p4 := (hZ1).cell (i := 4) (by omega); have p5 := (hZ1).cell (i := 5) (by omega); have p6 := (hZ1).cell (i := 6) (by omega); have p7 := (hZ1).cell (i := 7) (by omega); have p8 := (hZ1).cell (i := 8) (by omega); have f0 := (hZ1).free (i := 0) (by omega); have f1 := (hZ1).free (i := 1) (by omega); have f2 := (hZ1).free (i := 2) (by omega); have f3 := (hZ1).free (i := 3) (by omega); have f4 := (hZ1).free (i := 4) (by omega); have f5 := (hZ1).free (i := 5) (by omega); have f6 := (hZ1).free (i := 6) (by omega); have f7 := (hZ1).free (i := 7) (by omega); have f8 := (hZ1).free (i := 8) (by omega); clear hrob hc1 ht1 hZ1))
 refine bodyPost_ret (v := .agg #[.string b.m.name, .int .i64 b.m.stage, .slice b.m.A b.m.x.length b.m.c, .string b.bob, .string b.sing, .int .i64 b.step, .string b.call, .string b.tru, .slice b.RA b.rx.length b.rc]) (by simp [results, Tryz.results80, go_sem, p0, p1, p2, p3, p4, p5, p6, p7, p8, f0, f1, f2, f3, f4, f5, f6, f7, f8]) rfl ?_
 have kk : Chg w.heap.size (w.heap.size + 1) w1 (setN w1 w.heap.size 0 [Value.string b.m.name, .int .i64 b.m.stage, .slice b.m.A b.m.x.length b.m.c, .string b.bob, .string b.sing, .int .i64 b.step, .string b.call, .string b.tru, .slice b.RA b.rx.length b.rc]) := Chg.setN (Nat.le_refl _) (Nat.lt_succ_self _) _ (Chg.refl _ _ w1)
 exact ⟨b, rfl, fun W' kW => HRob.out W' ((kk.mono (Nat.zero_le _) (by omega)).trans (kW.mono (Nat.le_refl _) (by omega))), Below.chg (Below.chg hWb.out HT1.out (by omega) (by omega)) kk (Nat.le_refl _) (by omega)⟩

set_option maxHeartbeats 1600000 in
theorem drawStepBand_any (A : Option Addr) (c : Nat) (l : List Int) (w : World) (h : RdL w w.heap.size A 1 encByte l) (hb : ∀ x ∈ l, 0 ≤ x ∧ x < 256) (hl : l.length ≤ 9223372036854775807) (htab : Tab w) : Calls Tryz.prog 20 #[.slice A l.length c] w fun e w' => BdDrawn w e w' := by
 obtain ⟨W0, hWe, hWs, hWb, hZ⟩ : ∃ W0 : World, Hid (w.alloc (.cells #[Value.string ⟨#[]⟩, .int .i64 0, .slice none 0 0, .string ⟨#[]⟩, .string ⟨#[]⟩, .int .i64 0, .string ⟨#[]⟩, .string ⟨#[]⟩, .slice none 0 0] 36) = W0) ∧ Hid (W0.heap.size = w.heap.size + 1) ∧ Hid (Below w.heap.size w W0) ∧ Hid (Cells W0 w.heap.size 9 (fun i => (#[Value.string ⟨#[]⟩, .int .i64 0, .slice none 0 0, .string ⟨#[]⟩, .string ⟨#[]⟩, .int .i64 0, .string ⟨#[]⟩, .string ⟨#[]⟩, .slice none 0 0] : Array Value).getD i undef)) :=
  ⟨_, Lib.hid rfl, Lib.hid (by simp), Lib.hid ((Below.refl _ _).alloc (Nat.le_refl _) _), Lib.hid (Cells.newD _ #[Value.string ⟨#[]⟩, .int .i64 0, .slice none 0 0, .string ⟨#[]⟩, .string ⟨#[]⟩, .int .i64 0, .string ⟨#[]⟩, .string ⟨#[]⟩, .slice none 0 0] _)⟩
 have hWs1 : w.heap.size + 1 = W0.heap.size := hWs.out.symm
 have HB := Lib.hid (drawGoodBand_any A c l W0 ((h.below hWb.out (Nat.le_refl _)).more hWb.out.size) hb hl (htab.later hWb.out))
 clear h hb htab
 go_enter Tryz.func20, Tryz.ntmps20
 go_upto_region 1 with fail
 rw [hWe.out]
 clear hWe
 go_wp2_with (first | (go_at_call 80; refine HB.out.mono ?_; rintro e w1 ⟨b, rfl, hrob, hb1⟩; have HRob := Lib.hid hrob; have HB1 := Lib.hid hb1; have hz1 := hb1.size; have hZ1 := hZ.out.later hb1; have p0 := (hZ1).cell (i := 0) (by omega); have p1 := (hZ1).cell (i := 1) (by omega); have p2 := (hZ1).cell (i := 2) (by omega); have p3 := (hZ1).cell (i := 3) (by omega); have p4 := (hZ1).cell (i := 4) (by omega); have p5 := (hZ1).cell (i := 5) (by omega); have p6 := (hZ1).cell (i := 6) (by omega); have p7 := (hZ1).cell (i := 7) (by omega); have p8 := (hZ1).cell (i := 8) (by omega); have f0 := (hZ1).free (i := 0) (by omega); have f1 := (hZ1).free (i := 1) (by omega); have f2 := (hZ1).free (i := 2) (by omega); have f3 := (hZ1).free (i := 3) (by omega); have f4 := (hZ1).free (i := 4) (by omega); have f5 := (hZ1).free (i := 5) (by omega); have f6 := (hZ1).free (i := 6) (by omega); have f7 := (hZ1).free (i := 7) (by omega); have f8 := (hZ1).free (i := 8) (by omega); clear hrob hb1 hZ1))
 refine bodyPost_ret (v := .agg #[.string b.m.name, .int .i64 b.m.stage, .slice b.m.A b.m.x.length b.m.c, .string b.bob, .string b.sing, .int .i64 b.step, .string b.call, .string b.tru, .slice b.RA b.rx.length b.rc]) (by simp [results, Tryz.results20, go_sem, p0, p1, p2, p3, p4, p5, p6, p7, p8, f0, f1, f2, f3, f4, f5, f6, f7, f8]) rfl ?_
 have kk : Chg w.heap.size (w.heap.size + 1) w1 (setN w1 w.heap.size 0 [Value.string b.m.name, .int .i64 b.m.stage, .slice b.m.A b.m.x.length b.m.c, .string b.bob, .string b.sing, .int .i64 b.step, .string b.call, .string b.tru, .slice b.RA b.rx.length b.rc]) := Chg.setN (Nat.le_refl _) (Nat.lt_succ_self _) _ (Chg.refl _ _ w1)
 exact ⟨b, rfl, fun W' kW => HRob.out W' ((kk.mono (Nat.zero_le _) (by omega)).trans (kW.mono (Nat.le_refl _) (by omega))), Below.chg (hWb.out.trans (HB1.out.mono (by omega))) kk (Nat.le_refl _) (by omega)⟩
end Go.Proofs.YtkegbbndmfnolaaGreatDoor
