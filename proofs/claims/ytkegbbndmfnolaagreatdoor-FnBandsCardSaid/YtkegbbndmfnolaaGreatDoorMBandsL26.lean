import Derived.Test.YtkegbbndmfnolaaGreatDoorMBandsL15
import Derived.Test.YtkegbbndmfnolaaGreatDoorMBandsL14
import Derived.Test.YtkegbbndmfnolaaGreatDoorMBandsL24
import Derived.Test.YtkegbbndmfnolaaGreatDoorMBandsL25
import Derived.Test.YtkegbbndmfnolaaGreatDoorMBandsL02
import Derived.Test.YtkegbbndmfnolaaGreatDoorMBandsL09
import Derived.Test.YtkegbbndmfnolaaGreatDoorMBandsL04
import Derived.Deep.CutRange
/-
 Drawn bands and actions.
-/
namespace Go.Proofs.YtkegbbndmfnolaaGreatDoor
open Go.RowKit
set_option linter.unusedVariables false
set_option linter.unusedSimpArgs false
set_option maxRecDepth 100000

theorem Cells.turn {g n gc : Nat} {f : Nat → Value} {w w' : World} (h : Cells w gc n f) (ht : Turn g w w') (hne : gc < g ∨ g + 1 ≤ gc) : Cells w' gc n f := h.chg ht hne
theorem OwnL.turn {α : Type} {enc : α → List Value} {w w' : World} {lo hi g size : Nat} {A : Option Addr} {l : List α} (h : OwnL w lo hi A size enc l) (ht : Turn g w w') (hne : hi ≤ g ∨ g + 1 ≤ lo) : OwnL w' lo hi A size enc l := h.chg ht (by omega)
theorem BdAt.turn {d : Bd} {v : Value} {lo hi g : Nat} {w w' : World} (h : BdAt d v lo hi w) (ht : Turn g w w') (hne : hi ≤ g ∨ g + 1 ≤ lo) : BdAt d v lo hi w' := h.chg ht hne





set_option maxHeartbeats 16000000 in
theorem called_any (g K : Nat) (w : World) (h : Cur w g K) (hK : K ≤ 1000000) :
  Calls Tryz.prog 52 #[.pointer (some ⟨g, 0, none⟩)] w fun e w' => ∃ nm n x A c b s, e = .returned (.tuple #[.agg #[Value.string nm, .int .i64 n, .slice A x.length c], .agg #[.string b, .string s]]) ∧ MthOk nm n x ∧ x.length ≤ c ∧ changeP n b ∧ changeP n s ∧ OwnL w' w.heap.size w'.heap.size A 1 encString x ∧ Cur w' g (K + 110) ∧ Turn g w w' := by
 have H := Lib.hid h
 have hgw := h.lt
 clear h
 obtain ⟨W0, hWe, hWs, hWb, hR, hQ⟩ : ∃ W0 : World, Hid (((w.alloc (.cells #[Value.string ⟨#[]⟩, .int .i64 0, .slice none 0 0] 26)).alloc (.cells #[Value.string ⟨#[]⟩, .string ⟨#[]⟩] 28)) = W0) ∧ Hid (W0.heap.size = w.heap.size + 2) ∧ Hid (Below w.heap.size w W0) ∧ Hid (Cells W0 w.heap.size 3 (fun i => (#[Value.string ⟨#[]⟩, .int .i64 0, .slice none 0 0] : Array Value).getD i undef)) ∧ Hid (Cells W0 (w.heap.size + 1) 2 (fun i => (#[Value.string ⟨#[]⟩, .string ⟨#[]⟩] : Array Value).getD i undef)) := by
  have z1 : w.heap.size + 1 = (w.alloc (.cells #[Value.string ⟨#[]⟩, .int .i64 0, .slice none 0 0] 26)).heap.size := by simp
  refine ⟨_, Lib.hid rfl, Lib.hid (by simp), Lib.hid (((Below.refl _ _).alloc (Nat.le_refl _) _).alloc (by simp) _), Lib.hid ?_, Lib.hid ?_⟩
  ·exact (Cells.newD _ #[Value.string ⟨#[]⟩, .int .i64 0, .slice none 0 0] _).alloc _
  ·rw [z1]; exact Cells.newD _ #[Value.string ⟨#[]⟩, .string ⟨#[]⟩] _
 have hWs1 : w.heap.size + 2 = W0.heap.size := hWs.out.symm
 have HC0 := Lib.hid (H.out.later hWb.out)
 go_enter Tryz.func52, Tryz.ntmps52
 go_upto_region 1 with fail
 rw [hWe.out]
 clear hWe
 go_upto_region 2 with (go_at_call 106; refine (method_any g K W0 HC0.out (by omega)).mono ?_; rintro e w1 ⟨nm, n, x, A, c, rfl, hok, hxc, ho, hc, ht⟩; have HOK := Lib.hid hok; have HO1 := Lib.hid ho; have HC1 := Lib.hid hc; have HT1 := Lib.hid ht; have hz1 := ht.size; clear hok ho hc ht)
 have hn3 := HOK.out.n3
 have hn6 := HOK.out.n6
 obtain ⟨V, hVe, hVb, m0, m1, m2, hVs⟩ : ∃ V : World, Hid (w1.alloc (.cells #[Value.string nm, .int .i64 n, .slice A x.length c] 26) = V) ∧ Hid (Below w1.heap.size w1 V) ∧ V.cell? ⟨w1.heap.size, 0, none⟩ = some (.string nm) ∧ V.cell? ⟨w1.heap.size, 1, none⟩ = some (.int .i64 n) ∧ V.cell? ⟨w1.heap.size, 2, none⟩ = some (.slice A x.length c) ∧ w1.heap.size < V.heap.size :=
  ⟨_, Lib.hid rfl, Lib.hid ((Below.refl _ _).alloc (Nat.le_refl _) _), by rw [World.cell?_alloc_new]; rfl, by rw [World.cell?_alloc_new]; rfl, by rw [World.cell?_alloc_new]; rfl, by simp⟩
 rw [hVe.out]
 clear hVe
 obtain ⟨bm, hbm⟩ : ∃ bm, Hid (w1.heap.size = bm) := ⟨_, Lib.hid rfl⟩
 rw [hbm.out] at m0 m1 m2 hVs ⊢
 have hgm : g < bm := by have := hbm.out; omega
 have hbe := hbm.out
 have HCV := Lib.hid (HC1.out.later hVb.out)
 have HTV := Lib.hid (HT1.out.then hVb.out)
 have HOV := Lib.hid (HO1.out.later hVb.out)
 have HRV := Lib.hid ((hR.out.turn HT1.out (by omega)).later hVb.out)
 have HQV := Lib.hid ((hQ.out.turn HT1.out (by omega)).later hVb.out)
 have HX : Hid (∀ (W0 W : World) (K' : Nat), Cur W0 g K' → K' ≤ 10000000 → Below W0.heap.size W0 W → Calls Tryz.prog 107 #[.pointer (some ⟨g, 0, none⟩), .int .i64 n] W fun e w' => ∃ v, e = .returned v ∧ ∃ s : ByteArray, v = .string s ∧ changeP n s ∧ Cur w' g (K' + 2) ∧ Turn g W0 w') := Lib.hid (fun W0 W K' hc hk hb => by
  have hca := change_any g K' n.toNat W (hc.later hb) (by omega) (by omega) (by omega)
  rw [show ((n.toNat : Nat) : Int) = n by omega] at hca
  exact hca.mono fun e w' ⟨s, he, hs, hc, ht⟩ => ⟨_, he, s, rfl, hs, hc, (Turn.of hb).trans ht⟩)
 have HX1 := Lib.hid (fun W hb => HX.out V W (K + 100) HCV.out (by omega) hb)
 clear HC1 HO1 HC0
 go_region_law (first
  | (refine step_callsX (by rfl) 107 (by rfl) #[.pointer (some ⟨g, 0, none⟩), .int .i64 n] (by go_simp) (HX1.out _ (by repeat (first | exact Below.refl _ _ | refine Below.drew ?_ | refine Below.alloc ?_ (Nat.le_refl _) _))) ?_; rintro v wA ⟨s1, rfl, hs1, hcA, htA⟩; have Hs1 := Lib.hid hs1; have HCA := Lib.hid hcA; have HTA := Lib.hid htA; have hzA := htA.size; have hsA : bm < wA.heap.size := (by omega); have n0 := (htA.cell (p := ⟨bm, 0, none⟩) hVs (by simp; omega)).trans m0; have n1 := (htA.cell (p := ⟨bm, 1, none⟩) hVs (by simp; omega)).trans m1; have n2 := (htA.cell (p := ⟨bm, 2, none⟩) hVs (by simp; omega)).trans m2; have HX2 := Lib.hid (fun W hb => HX.out wA W (K + 102) hcA (by omega) hb); clear hs1 hcA htA HX1)
  | (refine step_callsX (by rfl) 107 (by rfl) #[.pointer (some ⟨g, 0, none⟩), .int .i64 n] (by go_simp) (HX2.out _ (by repeat (first | exact Below.refl _ _ | refine Below.drew ?_ | refine Below.alloc ?_ (Nat.le_refl _) _))) ?_; rintro v wB ⟨s2, rfl, hs2, hcB, htB⟩; have Hs2 := Lib.hid hs2; have HCB := Lib.hid hcB; have HTB := Lib.hid htB; have hzB := htB.size; have hsB : bm < wB.heap.size := (by omega); have k0 := (htB.cell (p := ⟨bm, 0, none⟩) hsA (by simp; omega)).trans n0; have k1 := (htB.cell (p := ⟨bm, 1, none⟩) hsA (by simp; omega)).trans n1; have k2 := (htB.cell (p := ⟨bm, 2, none⟩) hsA (by simp; omega)).trans n2; have hRB := (HRV.out.turn HTA.out (by omega)).turn htB (by omega); have hQB := (HQV.out.turn HTA.out (by omega)).turn htB (by omega); have r0 := hRB.cell (i := 0) (by omega); have r1 := hRB.cell (i := 1) (by omega); have r2 := hRB.cell (i := 2) (by omega); have rf0 := hRB.free (i := 0) (by omega); have rf1 := hRB.free (i := 1) (by omega); have rf2 := hRB.free (i := 2) (by omega); have q0 := hQB.cell (i := 0) (by omega); have q1 := hQB.cell (i := 1) (by omega); have qf0 := hQB.free (i := 0) (by omega); have qf1 := hQB.free (i := 1) (by omega); clear hs2 hcB htB HX2 hRB hQB))
 all_goals
  clear m0 m1 m2 n0 n1 n2
  go_wp2
  refine bodyPost_ret (v := .tuple #[.agg #[Value.string nm, .int .i64 n, .slice A x.length c], .agg #[.string s1, .string s2]]) (by simp [results, Tryz.results52, go_sem, r0, r1, r2, rf0, rf1, rf2, q0, q1, qf0, qf1]) rfl ?_
  refine ⟨nm, n, x, A, c, s1, s2, rfl, HOK.out, hxc, Hs1.out, Hs2.out, ?_⟩
  clear r0 r1 r2 rf0 rf1 rf2 q0 q1 qf0 qf1 k0 k1 k2
  have kk : ∀ w9, Chg w.heap.size (w.heap.size + 2) wB w9 → OwnL w9 w.heap.size w9.heap.size A 1 encString x ∧ Cur w9 g (K + 110) ∧ Turn g w w9 := fun w9 kc => by
   have kb : Below w.heap.size wB w9 := Below.chg (Below.refl _ _) kc (Nat.le_refl _) (by omega)
   refine ⟨((((HOV.out.turn HTA.out (by omega)).turn HTB.out (by omega)).chg kc (.inr (by omega))).mono (by omega) (Nat.le_trans (by omega) kc.size)), (HCB.out.keep kb hgw).more (by omega), ((((Turn.of hWb.out).trans HTV.out).trans HTA.out).trans HTB.out).thenB kb⟩
  refine kk _ ?_
  repeat (first | (with_reducible exact Chg.refl _ _ _) | (with_reducible refine Chg.setCell ?_ (by simp) (by simp) _))



set_option maxHeartbeats 3200000 in
theorem ringAct_any (g K n : Nat) (w : World) (h : Cur w g K) (hK : K ≤ 1000000) (hn : 3 ≤ n ∧ n ≤ 8) :
  Calls Tryz.prog 76 #[.pointer (some ⟨g, 0, none⟩), .int .i64 (n : Int)] w fun e w' => ∃ a : Act_, e = .returned (.agg #[.int .i64 a.kind, .int .i64 a.bell, .int .i64 a.by_, .string a.call]) ∧ Cur w' g (K + 8) ∧ Turn g w w' := by
 have H := Lib.hid h
 have hgw := h.lt
 clear h
 obtain ⟨hn3, hn8⟩ := hn
 obtain ⟨W0, hWe, hWs, hWb, hR⟩ : ∃ W0 : World, Hid (w.alloc (.cells #[Value.int .i64 0, .int .i64 0, .int .i64 0, .string ⟨#[]⟩] 45) = W0) ∧ Hid (W0.heap.size = w.heap.size + 1) ∧ Hid (Below w.heap.size w W0) ∧ Hid (Cells W0 w.heap.size 4 (fun i => (#[Value.int .i64 0, .int .i64 0, .int .i64 0, .string ⟨#[]⟩] : Array Value).getD i undef)) :=
  ⟨_, Lib.hid rfl, Lib.hid (by simp), Lib.hid ((Below.refl _ _).alloc (Nat.le_refl _) _), Lib.hid (Cells.newD _ #[Value.int .i64 0, .int .i64 0, .int .i64 0, .string ⟨#[]⟩] _)⟩
 have hWs1 : w.heap.size + 1 = W0.heap.size := hWs.out.symm
 have HC0 := Lib.hid (H.out.later hWb.out)
 have wn : IntKind.i64.wrap ((n : Int) + 1) = (n : Int) + 1 := IntWalk.i64_in _ (by omega)
 go_enter Tryz.func76, Tryz.ntmps76
 go_upto_region 1 with fail
 rw [hWe.out]
 clear hWe
 go_upto_region 2 with (go_at_call 53; refine (pick_any g K 12 W0 HC0.out (by omega) (by omega)).mono ?_; rintro e w1 ⟨x, rfl, hx0, hx1, hc1, ht1⟩; have HC1 := Lib.hid hc1; have HT1 := Lib.hid ht1; have hz1 := ht1.size; clear hc1 ht1)
 by_cases x0 : x = 0
 ·have d0 : (x == (0 : Int)) = true := by simpa using x0
  have HBl : Hid (Below w1.heap.size w1 (w1.alloc (.cells #[.string ⟨#[112]⟩, .string ⟨#[98]⟩, .string ⟨#[115]⟩, .string ⟨#[98]⟩, .string ⟨#[120]⟩] 9))) := Lib.hid ((Below.refl _ _).alloc (Nat.le_refl _) _)
  go_wp2_with (go_at_call 54; refine (of_any g (K + 2) w1.heap.size 5 5 _ (fun s => True) _ (HC1.out.later ((Below.refl _ _).alloc (Nat.le_refl _) _)) (by omega) (by omega) (by omega) (Cells.lit w1 _ _ 5 rfl) (by have := HC1.out.lt; omega) (by intro k hk; rcases k with _ | _ | _ | _ | _ | k <;> first | exact ⟨_, rfl, trivial⟩ | omega)).mono ?_; rintro e w2 ⟨s, rfl, _, hc2, ht2⟩; have HC2 := Lib.hid hc2; have HT2 := Lib.hid ((HT1.out.then ((Below.refl _ _).alloc (Nat.le_refl _) _)).trans ht2); have hz2 := ht2.size; clear hc2 ht2; have hRx := hR.out.turn HT2.out (by omega); have r0 := hRx.cell (i := 0) (by omega); have r1 := hRx.cell (i := 1) (by omega); have r2 := hRx.cell (i := 2) (by omega); have r3 := hRx.cell (i := 3) (by omega); have rf0 := hRx.free (i := 0) (by omega); have rf1 := hRx.free (i := 1) (by omega); have rf2 := hRx.free (i := 2) (by omega); have rf3 := hRx.free (i := 3) (by omega); clear hRx)
  have hz2' := HT2.out.size
  have kk : Chg w.heap.size (w.heap.size + 1) w2 (setN w2 w.heap.size 0 [Value.int .i64 2, .int .i64 0, .int .i64 0, .string s]) := Chg.setN (Nat.le_refl _) (Nat.lt_succ_self _) _ (Chg.refl _ _ w2)
  have kb : Below w.heap.size w2 (setN w2 w.heap.size 0 [Value.int .i64 2, .int .i64 0, .int .i64 0, .string s]) := Below.chg (Below.refl _ _) kk (Nat.le_refl _) (by omega)
  refine bodyPost_ret (v := .agg #[.int .i64 2, .int .i64 0, .int .i64 0, .string s]) (by simp [results, Tryz.results76, go_sem, r0, r1, r2, r3, rf0, rf1, rf2, rf3]) rfl ?_
  exact ⟨⟨2, 0, 0, s⟩, rfl, (HC2.out.keep kb hgw).more (by omega), ((Turn.of hWb.out).trans HT2.out).thenB kb⟩
 have d0 : (x == (0 : Int)) = false := by simpa using x0
 by_cases x1 : x = 1
 ·have d1 : (x == (1 : Int)) = true := by simpa using x1
  go_wp2_with (go_at_call 53; refine (pick_any g (K + 2) ((n : Int)) w1 HC1.out (by omega) (by omega)).mono ?_; rintro e w2 ⟨y, rfl, hy0, hy1, hc2, ht2⟩; have HC2 := Lib.hid hc2; have HT2 := Lib.hid (HT1.out.trans ht2); have hz2 := ht2.size; have wy : IntKind.i64.wrap ((1 : Int) + y) = 1 + y := IntWalk.i64_in _ (by omega); clear hc2 ht2; have hRx := hR.out.turn HT2.out (by omega); have r0 := hRx.cell (i := 0) (by omega); have r1 := hRx.cell (i := 1) (by omega); have r2 := hRx.cell (i := 2) (by omega); have r3 := hRx.cell (i := 3) (by omega); have rf0 := hRx.free (i := 0) (by omega); have rf1 := hRx.free (i := 1) (by omega); have rf2 := hRx.free (i := 2) (by omega); have rf3 := hRx.free (i := 3) (by omega); clear hRx)
  have kk : Chg w.heap.size (w.heap.size + 1) w2 (setN w2 w.heap.size 0 [Value.int .i64 3, .int .i64 (1 + y), .int .i64 0, .string ⟨#[]⟩]) := Chg.setN (Nat.le_refl _) (Nat.lt_succ_self _) _ (Chg.refl _ _ w2)
  have kb : Below w.heap.size w2 (setN w2 w.heap.size 0 [Value.int .i64 3, .int .i64 (1 + y), .int .i64 0, .string ⟨#[]⟩]) := Below.chg (Below.refl _ _) kk (Nat.le_refl _) (by omega)
  refine bodyPost_ret (v := .agg #[.int .i64 3, .int .i64 (1 + y), .int .i64 0, .string ⟨#[]⟩]) (by simp [results, Tryz.results76, go_sem, r0, r1, r2, r3, rf0, rf1, rf2, rf3]) rfl ?_
  exact ⟨⟨3, (1 + y), 0, ⟨#[]⟩⟩, rfl, (HC2.out.keep kb hgw).more (by omega), ((Turn.of hWb.out).trans HT2.out).thenB kb⟩
 have d1 : (x == (1 : Int)) = false := by simpa using x1
 by_cases x2 : x = 2
 ·have d2 : (x == (2 : Int)) = true := by simpa using x2
  go_wp2_with (first
   | (go_at_call 53; refine (pick_any g (K + 2) ((n : Int)) w1 HC1.out (by omega) (by omega)).mono ?_; rintro e w2 ⟨y, rfl, hy0, hy1, hc2, ht2⟩; have HC2 := Lib.hid hc2; have HT2 := Lib.hid (HT1.out.trans ht2); have hz2 := ht2.size; have wy : IntKind.i64.wrap ((1 : Int) + y) = 1 + y := IntWalk.i64_in _ (by omega); clear hc2 ht2; skip)
   | (go_at_call 77; refine (among_any g (K + 4) w2.heap.size 5 5 _ (fun s => True) _ (HC2.out.later ((Below.refl _ _).alloc (Nat.le_refl _) _)) (by omega) (by omega) (by omega) (Cells.lit w2 _ _ 5 rfl) (by have := HC2.out.lt; omega) (by intro k hk; rcases k with _ | _ | _ | _ | _ | k <;> first | exact ⟨_, rfl, trivial⟩ | omega)).mono ?_; rintro e w3 ⟨z, rfl, _, hc3, ht3⟩; have HC3 := Lib.hid hc3; have HT3 := Lib.hid ((HT2.out.then ((Below.refl _ _).alloc (Nat.le_refl _) _)).trans ht3); have hz3 := ht3.size; clear hc3 ht3; have hRx := hR.out.turn HT3.out (by omega); have r0 := hRx.cell (i := 0) (by omega); have r1 := hRx.cell (i := 1) (by omega); have r2 := hRx.cell (i := 2) (by omega); have r3 := hRx.cell (i := 3) (by omega); have rf0 := hRx.free (i := 0) (by omega); have rf1 := hRx.free (i := 1) (by omega); have rf2 := hRx.free (i := 2) (by omega); have rf3 := hRx.free (i := 3) (by omega); clear hRx))
  have hz3' := HT3.out.size
  have kk : Chg w.heap.size (w.heap.size + 1) w3 (setN w3 w.heap.size 0 [Value.int .i64 4, .int .i64 (1 + y), .int .i64 z, .string ⟨#[]⟩]) := Chg.setN (Nat.le_refl _) (Nat.lt_succ_self _) _ (Chg.refl _ _ w3)
  have kb : Below w.heap.size w3 (setN w3 w.heap.size 0 [Value.int .i64 4, .int .i64 (1 + y), .int .i64 z, .string ⟨#[]⟩]) := Below.chg (Below.refl _ _) kk (Nat.le_refl _) (by omega)
  refine bodyPost_ret (v := .agg #[.int .i64 4, .int .i64 (1 + y), .int .i64 z, .string ⟨#[]⟩]) (by simp [results, Tryz.results76, go_sem, r0, r1, r2, r3, rf0, rf1, rf2, rf3]) rfl ?_
  exact ⟨⟨4, (1 + y), z, ⟨#[]⟩⟩, rfl, (HC3.out.keep kb hgw).more (by omega), ((Turn.of hWb.out).trans HT3.out).thenB kb⟩
 have d2 : (x == (2 : Int)) = false := by simpa using x2
 by_cases x3 : x = 3
 ·have d3 : (x == (3 : Int)) = true := by simpa using x3
  go_wp2_with (go_at_call 53; refine (pick_any g (K + 2) (((n : Int) + 1)) w1 HC1.out (by omega) (by omega)).mono ?_; rintro e w2 ⟨y, rfl, hy0, hy1, hc2, ht2⟩; have HC2 := Lib.hid hc2; have HT2 := Lib.hid (HT1.out.trans ht2); have hz2 := ht2.size; have wy : IntKind.i64.wrap ((1 : Int) + y) = 1 + y := IntWalk.i64_in _ (by omega); clear hc2 ht2; have hRx := hR.out.turn HT2.out (by omega); have r0 := hRx.cell (i := 0) (by omega); have r1 := hRx.cell (i := 1) (by omega); have r2 := hRx.cell (i := 2) (by omega); have r3 := hRx.cell (i := 3) (by omega); have rf0 := hRx.free (i := 0) (by omega); have rf1 := hRx.free (i := 1) (by omega); have rf2 := hRx.free (i := 2) (by omega); have rf3 := hRx.free (i := 3) (by omega); clear hRx)
  have kk : Chg w.heap.size (w.heap.size + 1) w2 (setN w2 w.heap.size 0 [Value.int .i64 5, .int .i64 y, .int .i64 0, .string ⟨#[]⟩]) := Chg.setN (Nat.le_refl _) (Nat.lt_succ_self _) _ (Chg.refl _ _ w2)
  have kb : Below w.heap.size w2 (setN w2 w.heap.size 0 [Value.int .i64 5, .int .i64 y, .int .i64 0, .string ⟨#[]⟩]) := Below.chg (Below.refl _ _) kk (Nat.le_refl _) (by omega)
  refine bodyPost_ret (v := .agg #[.int .i64 5, .int .i64 y, .int .i64 0, .string ⟨#[]⟩]) (by simp [results, Tryz.results76, go_sem, r0, r1, r2, r3, rf0, rf1, rf2, rf3]) rfl ?_
  exact ⟨⟨5, y, 0, ⟨#[]⟩⟩, rfl, (HC2.out.keep kb hgw).more (by omega), ((Turn.of hWb.out).trans HT2.out).thenB kb⟩
 have d3 : (x == (3 : Int)) = false := by simpa using x3
 have hRx := hR.out.turn HT1.out (by omega); have r0 := hRx.cell (i := 0) (by omega); have r1 := hRx.cell (i := 1) (by omega); have r2 := hRx.cell (i := 2) (by omega); have r3 := hRx.cell (i := 3) (by omega); have rf0 := hRx.free (i := 0) (by omega); have rf1 := hRx.free (i := 1) (by omega); have rf2 := hRx.free (i := 2) (by omega); have rf3 := hRx.free (i := 3) (by omega); clear hRx
 go_wp2
 have kk : Chg w.heap.size (w.heap.size + 1) w1 (setN w1 w.heap.size 0 [Value.int .i64 1, .int .i64 0, .int .i64 0, .string ⟨#[]⟩]) := Chg.setN (Nat.le_refl _) (Nat.lt_succ_self _) _ (Chg.refl _ _ w1)
 have kb : Below w.heap.size w1 (setN w1 w.heap.size 0 [Value.int .i64 1, .int .i64 0, .int .i64 0, .string ⟨#[]⟩]) := Below.chg (Below.refl _ _) kk (Nat.le_refl _) (by omega)
 refine bodyPost_ret (v := .agg #[.int .i64 1, .int .i64 0, .int .i64 0, .string ⟨#[]⟩]) (by simp [results, Tryz.results76, go_sem, r0, r1, r2, r3, rf0, rf1, rf2, rf3]) rfl ?_
 exact ⟨⟨1, 0, 0, ⟨#[]⟩⟩, rfl, (HC1.out.keep kb hgw).more (by omega), ((Turn.of hWb.out).trans HT1.out).thenB kb⟩
set_option maxHeartbeats 3200000 in
theorem ringActs_any (g K n m : Nat) (w : World) (h : Cur w g K) (hK : K ≤ 100000) (hn : 3 ≤ n ∧ n ≤ 8) (hm : m ≤ 60) :
  Calls Tryz.prog 67 #[.pointer (some ⟨g, 0, none⟩), .int .i64 (n : Int), .int .i64 (m : Int)] w fun e w' => ∃ (l : List Act_) (A : Option Addr) (c : Nat), e = .returned (.slice A l.length c) ∧ l.length ≤ m ∧ OwnL w' w.heap.size w'.heap.size A 4 Act_.enc l ∧ Cur w' g (K + 1000) ∧ Turn g w w' := by
 have H := Lib.hid h
 have hgw := h.lt
 have Hone : Hid (∀ (a b d : Int) (s : ByteArray), ∀ u ∈ [Value.int .i64 a, .int .i64 b, .int .i64 d, .string s], u.oneCell' = true) := Lib.hid (by intro a b d s u hu; simp at hu; rcases hu with rfl | rfl | rfl | rfl <;> rfl)
 clear h
 have wm : IntKind.i64.wrap ((m : Int) + 1) = (m : Int) + 1 := IntWalk.i64_in _ (by omega)
 obtain ⟨g0, hg0⟩ : ∃ g0, Hid (w.heap.size = g0) := ⟨_, Lib.hid rfl⟩
 have hg0e := hg0.out
 go_enter Tryz.func67, Tryz.ntmps67
 go_upto_region 3 with (go_at_call 53; refine (pick_any g K ((m : Int) + 1) w H.out (by omega) (by omega)).mono ?_; rintro e w1 ⟨x, rfl, hx0, hx1, hc1, ht1⟩; have HC1 := Lib.hid hc1; have HT1 := Lib.hid ht1; have hz1 := ht1.size; clear hc1 ht1; obtain ⟨q, rfl⟩ : ∃ q : Nat, x = (q : Int) := ⟨x.toNat, by omega⟩)
 go_loopw [7, 8] (fun v i wr => ∃ (j : Nat) (l : List Act_), i = .int .i64 (j : Int) ∧ l.length + j ≤ m ∧ Grow wr g0 45 4 Act_.enc v l ∧ Cur wr g (K + 2 + 8 * l.length) ∧ Turn g w wr) (fun _ i _ => (intOf i).toNat)
 case atStart => exact ⟨q, [], rfl, by simp; omega, Grow.nil, HC1.out.more (by simp), HT1.out⟩
 case round =>
  obtain ⟨j, l, rfl, hj, hgr, hcu, htu⟩ := hrel
  have HG := Lib.hid hgr
  have HCu := Lib.hid hcu
  have HTu := Lib.hid htu
  have hzr := htu.size
  clear hgr hcu htu
  by_cases hlt : 0 < j
  ·go_wp2_with (first
    | (go_at_call 76; refine (ringAct_any g _ n wr HCu.out (by omega) ⟨hn.1, hn.2⟩).mono ?_; rintro e w4 ⟨a, rfl, hc4, ht4⟩; have HC4 := Lib.hid hc4; have HT4 := Lib.hid (HTu.out.trans ht4); have hz4 := ht4.size; have HG4 := Lib.hid (HG.out.turn ht4 (by omega)); clear hc4 ht4)
    | (at_builtin; refine wpList_push rfl (.tmp 17) (.tmp 21) 37 rfl g0 45 _ 4 40 Act_.enc rfl RingAct_info rfl (by omega) _ l [a] 1 rfl rfl (by simp) HG4.out rfl Act__enc_len (Hone.out _ _ _ _) (by simp only [List.length_singleton]; omega) (by omega) (by omega) ?_; intro v5 w5 g5 b5 gb5; have HG5 := Lib.hid g5; have HB5 := Lib.hid b5; clear g5 b5 gb5))
   go_roundw
   case rel => exact ⟨j - 1, l ++ [a], by go_num, by simp; omega, HG5.out, (HC4.out.keep HB5.out (by omega)).more (by simp; omega), HT4.out.thenB (HB5.out.mono (by omega))⟩
   case measure => simp [intOf]; omega
  ·obtain rfl : j = 0 := by omega
   obtain ⟨A5, c5, rfl, ho5⟩ := HG.out.own Act__enc_len
   have HO5 := Lib.hid ho5
   clear ho5
   go_wp2
   go_ret
   exact ⟨l, A5, c5, rfl, by omega, HO5.out.mono (by omega) (Nat.le_refl _), HCu.out.more (by omega), HTu.out⟩
end Go.Proofs.YtkegbbndmfnolaaGreatDoor

/-
 The reader of choices: rows, texts that are spoilt.
-/
namespace Go.Proofs.YtkegbbndmfnolaaGreatDoor
open Go.RowKit
set_option linter.unusedVariables false
set_option linter.unusedSimpArgs false
set_option maxRecDepth 100000

def fct : Nat → Nat
 | 0 => 1
 | n + 1 => (n + 1) * fct n
theorem fct_pos : ∀ n, 1 ≤ fct n
 | 0 => Nat.le_refl _
 | n + 1 => by
  have := fct_pos n
  show 1 ≤ (n + 1) * fct n
  exact Nat.le_trans (show 1 ≤ 1 * 1 by omega) (Nat.mul_le_mul (by omega) this)
theorem fct_mono {m n : Nat} (h : m ≤ n) : fct m ≤ fct n := by
 induction n with
 | zero =>
  obtain rfl : m = 0 := by omega
  exact Nat.le_refl _
 | succ n ih =>
  by_cases e : m = n + 1
  ·rw [e]; exact Nat.le_refl _
  ·refine Nat.le_trans (ih (by omega)) ?_
   show fct n ≤ (n + 1) * fct n
   exact Nat.le_mul_of_pos_left _ (by omega)
theorem fct_8 : fct 8 = 40320 := rfl
set_option maxHeartbeats 1600000 in
theorem l1Fact_any (n : Nat) (w : World) (hn : n ≤ 8) :
  Calls Tryz.prog 183 #[.int .i64 (n : Int)] w fun e w' => e = .returned (.int .i64 (fct n : Int)) ∧ w = w' := by
 have h8 := fct_mono hn
 rw [fct_8] at h8
 go_enter Tryz.func183, Tryz.ntmps183
 go_wp2
 go_loopw [0, 3] (fun a b wr => ∃ j c : Nat, j ≤ n ∧ a = .int .i64 j ∧ b = .int .i64 c ∧ c * fct j = fct n ∧ w = wr) (fun a _ _ => (intOf a).toNat)
 case atStart => exact ⟨n, 1, Nat.le_refl _, by rfl, by rfl, by omega, rfl⟩
 case round =>
  obtain ⟨j, c, hj, rfl, rfl, hc, rfl⟩ := hrel
  have hcf : c ≤ fct n := by rw [← hc]; exact Nat.le_mul_of_pos_right _ (fct_pos j)
  have Hc := Lib.hid hc
  clear hc
  by_cases h1 : 1 < j
  ·obtain ⟨m, rfl⟩ : ∃ m, j = m + 1 := ⟨j - 1, by omega⟩
   have hd : decide ((1 : Int) < (m : Int) + 1) = true := by simp; omega
   have hcm : c * (m + 1) ≤ 40320 := by
    have := Hc.out
    have h2 : c * (m + 1) ≤ c * fct (m + 1) := Nat.mul_le_mul_left _ (by show m + 1 ≤ (m + 1) * fct m; exact Nat.le_mul_of_pos_right _ (fct_pos m))
    omega
   have hcmi : ((c : Int) * ((m : Int) + 1)) = ((c * (m + 1) : Nat) : Int) := by simp
   obtain ⟨d, hd2⟩ : ∃ d : Nat, Hid (c * (m + 1) = d) := ⟨_, Lib.hid rfl⟩
   have hcmi2 : ((c : Int) * ((m : Int) + 1)) = (d : Int) := by rw [hcmi, hd2.out]
   rw [hd2.out] at hcm
   clear hcmi
   go_wp2
   go_roundw
   case rel => exact ⟨m, d, by omega, by go_num, by rfl, by rw [← hd2.out, ← Hc.out, Nat.mul_assoc]; rfl, by first | rfl | trivial⟩
   case measure => simp [intOf]
  ·have hd : decide ((1 : Int) < (j : Int)) = false := by simp; omega
   have hf : Hid (c = fct n) := Lib.hid (by
    have := Hc.out
    rcases (show j = 0 ∨ j = 1 by omega) with rfl | rfl
    ·simpa [fct] using this
    ·simpa [fct] using this)
   go_wp2
   go_ret
   exact ⟨by rw [hf.out]; rfl, rfl⟩
def strLen : Value → Nat
 | .string s => s.size
 | _ => 0
set_option maxHeartbeats 3200000 in
theorem rowOf_any (n k : Nat) (w : World) (h3 : 3 ≤ n) (h8 : n ≤ 8) (hk : k < fct n) :
  Calls Tryz.prog 182 #[.int .i64 (n : Int), .int .i64 (k : Int)] w fun e w' => ∃ s : ByteArray, e = .returned (.tuple #[.string s, .bool true]) ∧ s.size = n ∧ Below w.heap.size w w' := by
 have hf8 := fct_mono h8
 rw [fct_8] at hf8
 have e1 := B_t (show inB (n : Int) 3 8 from ⟨by omega, by omega⟩)
 have e2 := B_t (show inB (k : Int) 0 ((fct n : Int) - 1) from ⟨by omega, by omega⟩)
 have hr := roundsS_size (n := (n : Int)) (by omega) (by omega)
 go_enter Tryz.func182, Tryz.ntmps182
 go_wp2_with (first | (go_at_call 99; refine (l1In_any _ _ _ _).mono ?_; rintro e w' ⟨rfl, rfl⟩) | (go_at_call 183; refine (l1Fact_any n _ h8).mono ?_; rintro e w' ⟨rfl, rfl⟩) | (go_at_call 120; refine (l1Rounds_any (n : Int) _ (by omega) (by omega)).mono ?_; rintro e w' ⟨rfl, rfl⟩))
 obtain ⟨R, hR⟩ : ∃ R, Hid (roundsS (n : Int) = R) := ⟨_, Lib.hid rfl⟩
 rw [hR.out] at hr ⊢
 have HR := Lib.hid (show R.size = n by omega)
 clear hr e1 e2
 go_loopw [1, 6, 7] (fun a r o wr => ∃ (j k : Nat) (rr oo : ByteArray), j ≤ n ∧ k < fct j ∧ a = .int .i64 k ∧ r = .string rr ∧ o = .string oo ∧ rr.size = j ∧ oo.size + j = n ∧ Below w.heap.size w wr) (fun _ r _ _ => strLen r)
 case atStart => exact ⟨n, k, R, ⟨#[]⟩, Nat.le_refl _, hk, by rfl, by rfl, by rfl, HR.out, by show 0 + n = n; omega, Below.refl _ _⟩
 case round =>
  obtain ⟨j, k, rr, oo, hj, hk, rfl, rfl, rfl, hrr, hoo, hbl⟩ := hrel
  have Hb := Lib.hid hbl
  have Hoo := Lib.hid hoo
  clear hbl hoo HR
  by_cases h1 : 0 < rr.size
  ·obtain ⟨m, rfl⟩ : ∃ m, j = m + 1 := ⟨j - 1, by omega⟩
   have Hrr := Lib.hid hrr
   have hd : decide (0 < rr.size) = true := decide_eq_true h1
   have hm7 : m ≤ 7 := by omega
   have hf1 := fct_pos m
   have hfm := fct_mono (show m ≤ 8 by omega)
   rw [fct_8] at hfm
   have hkk : k < (m + 1) * fct m := hk
   have hq : k / fct m < m + 1 := Nat.div_lt_of_lt_mul (by rw [Nat.mul_comm]; exact hkk)
   have hmod : k % fct m < fct m := Nat.mod_lt _ (by omega)
   have hfct : Hid (∀ W : World, Calls Tryz.prog 183 #[.int .i64 (m : Int)] W fun e w' => e = .returned (.int .i64 (fct m : Int)) ∧ W = w') := Lib.hid (fun W => l1Fact_any m W (by omega))
   obtain ⟨F, hF⟩ : ∃ F, Hid (fct m = F) := ⟨_, Lib.hid rfl⟩
   rw [hF.out] at hf1 hfm hq hmod hfct
   have hszi : (rr.size : Int) - 1 = (m : Int) := by omega
   obtain ⟨q, hqe⟩ : ∃ q, Hid (k / F = q) := ⟨_, Lib.hid rfl⟩
   rw [hqe.out] at hq
   have he : (k : Int) / (F : Int) = (q : Int) := by rw [← hqe.out]; simp
   obtain ⟨km, hkm⟩ : ∃ km, Hid (k % F = km) := ⟨_, Lib.hid rfl⟩
   have hem : (k : Int) % (F : Int) = (km : Int) := by rw [← hkm.out]; simp
   have hmod' : Hid (km < fct m) := Lib.hid (by rw [← hkm.out, hF.out]; exact hmod)
   have hqs : (q : Int) + 1 ≤ (rr.size : Int) := by omega
   have hqs0 : (q : Int) ≤ (rr.size : Int) := by omega
   have hqn : q + 1 ≤ rr.size := by omega
   have hse : (rr.extract q (q + 1)).size = 1 := by simp only [size_ext]; omega
   have hse2 : (rr.extract 0 q).size = q := by simp only [size_ext]; omega
   have hse3 : (rr.extract (q + 1) rr.size).size = rr.size - (q + 1) := by simp only [size_ext]; omega
   have hos : oo.size ≤ 8 := by have := Hoo.out; omega
   have hrs : rr.size ≤ 8 := by omega
   clear hk hkk hrr hmod
   go_wp2_with (go_at_call 183; refine (hfct.out _).mono ?_; rintro e w' ⟨rfl, rfl⟩)
   go_quiet (fail)
   go_wp2
   go_roundw
   case rel =>
    refine ⟨m, km, _, _, by omega, hmod'.out, by rw [hem], by rfl, by rfl, ?_, ?_, below_drewN Hb.out _⟩
    ·simp only [size_app, size_ext]; omega
    ·have := Hoo.out; simp only [size_app, size_ext]; omega
   case measure => simp only [strLen, size_app, size_ext]; omega
  ·have hd : decide (0 < rr.size) = false := decide_eq_false h1
   have Hoo' : Hid (oo.size = n) := Lib.hid (by have := Hoo.out; omega)
   go_wp2
   go_ret2
   exact ⟨_, rfl, Hoo'.out, Hb.out⟩
set_option maxHeartbeats 1600000 in
theorem row_any (g K n : Nat) (w : World) (h : Cur w g K) (hK : K ≤ 100000000) (h3 : 3 ≤ n) (h8 : n ≤ 8) :
  Calls Tryz.prog 160 #[.pointer (some ⟨g, 0, none⟩), .int .i64 (n : Int)] w fun e w' => ∃ s : ByteArray, e = .returned (.string s) ∧ s.size = n ∧ Cur w' g (K + 2) ∧ Turn g w w' := by
 have H := Lib.hid h
 clear h
 have hf8 := fct_mono h8
 rw [fct_8] at hf8
 have hf1 := fct_pos n
 have hfct : Hid (∀ W : World, Calls Tryz.prog 183 #[.int .i64 (n : Int)] W fun e w' => e = .returned (.int .i64 (fct n : Int)) ∧ W = w') := Lib.hid (fun W => l1Fact_any n W (by omega))
 go_enter Tryz.func160, Tryz.ntmps160
 go_wp2_with (first | (go_at_call 183; refine (hfct.out _).mono ?_; rintro e w' ⟨rfl, rfl⟩) | (go_at_call 53; refine (pick_any g K (fct n : Int) _ H.out (by omega) (by omega)).mono ?_; rintro e w1 ⟨x, rfl, hx0, hx1, hc, ht⟩; have HC := Lib.hid hc; have HT := Lib.hid ht; clear hc ht; obtain ⟨k, rfl⟩ : ∃ k : Nat, x = (k : Int) := ⟨x.toNat, by omega⟩; have hk : k < fct n := (by omega)) | (go_at_call 182; refine (rowOf_any n k _ h3 h8 hk).mono ?_; rintro e w2 ⟨s, rfl, hs, hb⟩; have HS := Lib.hid hs; have HB := Lib.hid hb; clear hs hb))
 go_ret
 exact ⟨_, rfl, HS.out, HC.out.later HB.out, HT.out.then HB.out⟩
set_option maxHeartbeats 3200000 in
theorem spoilt_any (g K : Nat) (t wi : ByteArray) (w : World) (h : Cur w g K) (hK : K ≤ 10000000) (ht : t.size ≤ 900000) (hw0 : 0 < wi.size) (hw : wi.size ≤ 1000) :
  Calls Tryz.prog 88 #[.pointer (some ⟨g, 0, none⟩), .string t, .string wi] w fun e w' => ∃ s : ByteArray, e = .returned (.string s) ∧ s.size ≤ t.size + 2 ∧ Cur w' g (K + 30) ∧ Turn g w w' := by
 have H := Lib.hid h
 clear h
 go_enter Tryz.func88, Tryz.ntmps88
 go_wp2_with (go_at_call 53; refine (pick_any g K 2 _ H.out (by omega) (by omega)).mono ?_; rintro e w1 ⟨x, rfl, hx0, hx1, hc, ht⟩; have HC := Lib.hid hc; have HT := Lib.hid ht; clear hc ht; obtain ⟨k0, rfl⟩ : ∃ k : Nat, x = (k : Int) := ⟨x.toNat, by omega⟩; have hk0 : k0 ≤ 1 := (by omega); have hk0e : (1 : Int) + (k0 : Int) = ((k0 + 1 : Nat) : Int) := (by omega))
 go_loopw [1, 7, 8, 9] (fun a b _ _ wr => ∃ (q : Nat) (tt : ByteArray), q ≤ 2 ∧ a = .string tt ∧ b = .int .i64 q ∧ tt.size + q ≤ t.size + 2 ∧ Cur wr g (K + 20 - 8 * q) ∧ Turn g w wr) (fun _ b _ _ _ => (intOf b).toNat)
 case atStart => exact ⟨k0 + 1, t, by omega, by rfl, by go_num, by omega, HC.out.more (by omega), HT.out⟩
 case round =>
  obtain ⟨q, tt, hq, rfl, rfl, hts, hcur, htn⟩ := hrel
  have Hc := Lib.hid hcur
  have Ht := Lib.hid htn
  clear hcur htn HC HT
  by_cases h1 : 0 < q
  ·obtain ⟨p, rfl⟩ : ∃ p, q = p + 1 := ⟨q - 1, by omega⟩
   have hd1 : decide (0 < (p : Int) + 1) = true := decide_eq_true (by omega)
   by_cases h2 : 0 < tt.size
   ·have hd2 : decide (0 < tt.size) = true := decide_eq_true h2
    have hlt := Hc.out.lt
    go_upto_region 5 with (go_at_call 53; refine (pick_any g _ (tt.size : Int) _ Hc.out (by omega) (by omega)).mono ?_; rintro e w2 ⟨x2, rfl, hx20, hx21, hc, ht⟩; have HC2 := Lib.hid hc; have HT2 := Lib.hid (Ht.out.trans ht); clear hc ht)
    obtain ⟨i, rfl⟩ : ∃ i : Nat, x2 = (i : Int) := ⟨x2.toNat, by omega⟩
    have hi : i < tt.size := by omega
    have hii : (i : Int) < (tt.size : Int) := by omega
    go_upto_region 6 with (go_at_call 53; refine (pick_any g _ (wi.size : Int) _ HC2.out (by omega) (by omega)).mono ?_; rintro e w3 ⟨x3, rfl, hx30, hx31, hc, ht⟩; have HC3 := Lib.hid hc; have HT3 := Lib.hid (HT2.out.trans ht); clear hc ht; obtain ⟨i3, rfl⟩ : ∃ i : Nat, x3 = (i : Int) := ⟨x3.toNat, by omega⟩; have hi3 : i3 < wi.size := (by omega); have hi3i : (i3 : Int) < (wi.size : Int) := (by omega))
    have hb3 : Below w3.heap.size w3 (w3.alloc (.cells #[.int .u8 (bat wi i3)] 5)) := (Below.refl _ _).alloc (Nat.le_refl _) _
    have HC4 := Lib.hid (HC3.out.later hb3)
    have HT4 := Lib.hid (HT3.out.then hb3)
    generalize w3.alloc (.cells #[.int .u8 (bat wi i3)] 5) = w4 at *
    obtain ⟨W1, hW1⟩ : ∃ W1, Hid (mkS [bat wi i3] = W1) := ⟨_, Lib.hid rfl⟩
    have hW1s : W1.size = 1 := by rw [← hW1.out, size_mkS]; rfl
    rw [hW1.out]
    have hse1 : (tt.extract 0 i).size = i := by simp only [size_ext]; omega
    have hse2 : (tt.extract i tt.size).size = tt.size - i := by simp only [size_ext]; omega
    have hse3 : (tt.extract (i + 1) tt.size).size = tt.size - (i + 1) := by simp only [size_ext]; omega
    have hi1 : (i : Int) + 1 ≤ (tt.size : Int) := by omega
    have hi0 : (i : Int) ≤ (tt.size : Int) := by omega
    have hts9 : tt.size ≤ 900002 := by omega
    clear HC2 HC3 HT2 HT3
    go_upto_region 8 with (go_at_call 53; refine (pick_any g _ 3 _ HC4.out (by omega) (by omega)).mono ?_; rintro e w5 ⟨x5, rfl, hx50, hx51, hc, ht⟩; have HC5 := Lib.hid hc; have HT5 := Lib.hid (HT4.out.trans ht); clear hc ht)
    by_cases e0 : x5 = 0
    ·have d0 : (x5 == 0) = true := beq_iff_eq.2 e0
     clear e0
     go_wp2
     go_quiet (fail)
     go_wp2
     go_roundw
     case rel => exact ⟨p, _, by omega, by rfl, by go_num, by simp only [size_app, hse1, hse2, hW1s]; omega, (HC5.out.later (below_drewN (Below.refl _ _) _)).more (by omega), HT5.out.then (below_drewN (Below.refl _ _) _)⟩
     case measure => simp [intOf]
    ·have d0 : (x5 == 0) = false := beq_eq_false_iff_ne.2 e0
     by_cases e1 : x5 = 1
     ·have d1 : (x5 == 1) = true := beq_iff_eq.2 e1
      clear e0 e1
      go_wp2
      go_quiet (fail)
      go_wp2
      go_roundw
      case rel => exact ⟨p, _, by omega, by rfl, by go_num, by simp only [size_app, hse1, hse3, hW1s]; omega, (HC5.out.later (below_drewN (Below.refl _ _) _)).more (by omega), HT5.out.then (below_drewN (Below.refl _ _) _)⟩
      case measure => simp [intOf]
     ·have d1 : (x5 == 1) = false := beq_eq_false_iff_ne.2 e1
      clear e0 e1
      go_wp2
      go_quiet (fail)
      go_wp2
      go_roundw
      case rel => exact ⟨p, _, by omega, by rfl, by go_num, by simp only [size_app, hse1, hse3]; omega, (HC5.out.later (below_drewN (Below.refl _ _) _)).more (by omega), HT5.out.then (below_drewN (Below.refl _ _) _)⟩
      case measure => simp [intOf]
   ·have hd2 : decide (0 < tt.size) = false := decide_eq_false h2
    go_wp2
    go_ret
    exact ⟨tt, rfl, by omega, Hc.out.more (by omega), Ht.out⟩
  ·obtain rfl : q = 0 := by omega
   go_wp2
   go_ret
   exact ⟨tt, rfl, by omega, Hc.out.more (by omega), Ht.out⟩
set_option maxHeartbeats 1600000 in
theorem anyRow_any (g K : Nat) (w : World) (h : Cur w g K) (hK : K ≤ 1000000) :
  Calls Tryz.prog 129 #[.pointer (some ⟨g, 0, none⟩)] w fun e w' => ∃ s : ByteArray, e = .returned (.string s) ∧ s.size ≤ 10 ∧ Cur w' g (K + 40) ∧ Turn g w w' := by
 have H := Lib.hid h
 clear h
 go_enter Tryz.func129, Tryz.ntmps129
 go_upto_region 2 with (first | (go_at_call 161; refine (stage_any g K _ H.out (by omega)).mono ?_; rintro e w1 ⟨x, rfl, hx, hc, ht⟩; have HC := Lib.hid hc; have HT := Lib.hid ht; clear hc ht; obtain ⟨n, rfl⟩ : ∃ k : Nat, x = (k : Int) := ⟨x.toNat, by omega⟩; have hn3 : 3 ≤ n := (by omega); have hn8 : n ≤ 8 := (by omega)) | (go_at_call 160; refine (row_any g (K + 2) n _ HC.out (by omega) hn3 hn8).mono ?_; rintro e w2 ⟨s, rfl, hs, hc, ht⟩; have HC2 := Lib.hid hc; have HT2 := Lib.hid (HT.out.trans ht); have HS := Lib.hid hs; clear hc ht hs))
 have hsz : s.size ≤ 8 := by have := HS.out; omega
 go_upto_region 3 with (go_at_call 55; refine (one_any g _ 12 _ HC2.out (by omega) (by omega)).mono ?_; rintro e w3 ⟨b, rfl, hc, ht⟩; have HC3 := Lib.hid hc; have HT3 := Lib.hid (HT2.out.trans ht); clear hc ht; cases b)
 ·go_wp2
  go_ret
  exact ⟨s, rfl, by omega, HC3.out.more (by omega), HT3.out⟩
 ·go_wp2_with (go_at_call 88; refine (spoilt_any g _ s _ _ HC3.out (by omega) (by omega) (by decide) (by decide)).mono ?_; rintro e w4 ⟨s2, rfl, hs2, hc, ht⟩)
  go_ret
  exact ⟨s2, rfl, by omega, hc.more (by omega), HT3.out.trans ht⟩
end Go.Proofs.YtkegbbndmfnolaaGreatDoor
