import Derived.Test.YtkegbbndmfnolaaGreatDoorMHeardL14
import Derived.Test.YtkegbbndmfnolaaGreatDoorMHeardL06
import Derived.Test.YtkegbbndmfnolaaGreatDoorMHeardL11
import Derived.Test.YtkegbbndmfnolaaGreatDoorMHeardL00
/-
  Drawn calls and a drawn touch.
-/
namespace Go.Proofs.YtkegbbndmfnolaaGreatDoor
open Go.RowKit
set_option linter.unusedVariables false
set_option linter.unusedSimpArgs false
set_option maxRecDepth 100000









set_option maxHeartbeats 3200000 in
theorem calls_any (g K : Nat) (nm : ByteArray) (n : Int) (A : Option Addr) (len c : Nat) (w : World) (h : Cur w g K) (hK : K ≤ 10000000) (hn : 3 ≤ n ∧ n ≤ 6) :
    Calls Tryz.prog 196 #[.pointer (some ⟨g, 0, none⟩), .agg #[.string nm, .int .i64 n, .slice A len c]] w fun e w' => ∃ b s, e = .returned (.agg #[.string b, .string s]) ∧ changeP n b ∧ changeP n s ∧ Cur w' g (K + 20) ∧ Turn g w w' := by
  have H := Lib.hid h
  have hgw := h.lt
  clear h
  have HCH : Hid (∀ (W : World) (K' : Nat), Cur W g K' → K' ≤ 100000000 → Calls Tryz.prog 107 #[.pointer (some ⟨g, 0, none⟩), .int .i64 n] W fun e w' => ∃ s : ByteArray, e = .returned (.string s) ∧ changeP n s ∧ Cur w' g (K' + 2) ∧ Turn g W w') := Lib.hid (fun W K' hc hk => by
    have hca := change_any g K' n.toNat W hc hk (by omega) (by omega)
    rw [show ((n.toNat : Nat) : Int) = n by omega] at hca
    exact hca)
  obtain ⟨W0, hWe, hWs, hWb, m1, hR⟩ : ∃ W0 : World, Hid (((w.alloc (.cells #[.string nm, .int .i64 n, .slice A len c] 26)).alloc (.cells #[.string ⟨#[]⟩, .string ⟨#[]⟩] 28)) = W0) ∧ Hid (W0.heap.size = w.heap.size + 2) ∧ Hid (Below w.heap.size w W0) ∧ W0.cell? ⟨w.heap.size, 1, none⟩ = some (.int .i64 n) ∧ Hid (Cells W0 (w.heap.size + 1) 2 (fun i => (#[Value.string ⟨#[]⟩, .string ⟨#[]⟩] : Array Value).getD i undef)) :=
    ⟨_, Lib.hid rfl, Lib.hid (by simp), Lib.hid (((Below.refl _ _).alloc (Nat.le_refl _) _).alloc (by simp) _), by rw [World.cell?_alloc_lt _ _ _ (by simp), World.cell?_alloc_new]; rfl, Lib.hid (by have := Cells.lit (w.alloc (.cells #[.string nm, .int .i64 n, .slice A len c] 26)) #[.string ⟨#[]⟩, .string ⟨#[]⟩] 28 2 rfl; simpa using this)⟩
  have hWs1 : w.heap.size + 2 ≤ W0.heap.size := by have := hWs.out; omega
  have HC0 := Lib.hid (H.out.later hWb.out)
  go_enter Tryz.func196, Tryz.ntmps196
  go_upto_region 1 with fail
  rw [hWe.out]
  clear hWe
  go_upto_region 3 with (first
    | (go_at_call 107; refine (HCH.out W0 K HC0.out (by omega)).mono ?_; rintro e w1 ⟨s1, rfl, hs1, hc, ht⟩; have h1 := Lib.hid hs1; have HC1 := Lib.hid hc; have HT1 := Lib.hid ht; clear hc ht hs1; have hz1 := HT1.out.size)
    | (go_at_call 107; refine (HCH.out w1 (K + 2) HC1.out (by omega)).mono ?_; rintro e w2 ⟨s2, rfl, hs2, hc, ht⟩; have h2 := Lib.hid hs2; have HC2 := Lib.hid hc; have HT2 := Lib.hid (HT1.out.trans ht); clear hc ht hs2; have hz2 := HT2.out.size))
  obtain ⟨bk, hbk⟩ : ∃ bk, Hid (w2.heap.size = bk) := ⟨_, Lib.hid rfl⟩
  rw [hbk.out]
  have hbz : W0.heap.size ≤ bk := by have := hbk.out; omega
  have hgx : g < bk := by omega
  obtain ⟨W5, hW5, D0, D1, E0, E1, HC5, HT5, hs5⟩ : ∃ W5 : World, Hid (w2.alloc (.cells #[.string s1, .string s2] 28) = W5) ∧ Hid (W5.cell? ⟨bk, 0, none⟩ = some (.string s1)) ∧ Hid (W5.cell? ⟨bk, 1, none⟩ = some (.string s2)) ∧ Hid (W5.frozen? ⟨bk, 0, none⟩ = false) ∧ Hid (W5.frozen? ⟨bk, 1, none⟩ = false) ∧ Hid (Cur W5 g (K + 4)) ∧ Hid (Turn g W0 W5) ∧ bk < W5.heap.size :=
    ⟨_, Lib.hid rfl, Lib.hid (by rw [← hbk.out, World.cell?_alloc_new]; rfl), Lib.hid (by rw [← hbk.out, World.cell?_alloc_new]; rfl), Lib.hid (by rw [← hbk.out]; exact frozen_of_row _ _ _ _ _ (heap_alloc_new w2 _)), Lib.hid (by rw [← hbk.out]; exact frozen_of_row _ _ _ _ _ (heap_alloc_new w2 _)), Lib.hid (HC2.out.later ((Below.refl _ _).alloc (Nat.le_refl _) _)), Lib.hid (HT2.out.then ((Below.refl _ _).alloc (Nat.le_refl _) _)), by rw [← hbk.out]; simp⟩
  rw [hW5.out]
  clear hW5 HC2 HT2 HC1 HT1 HC0 m1
  have hsw : w.heap.size + 1 < W5.heap.size := by omega
  have hne1 : ¬ bk = w.heap.size + 1 := by omega
  have hne2 : ¬ w.heap.size + 1 = bk := by omega
  rcases (show n = 3 ∨ n = 4 ∨ n = 5 ∨ n = 6 by omega) with rfl | rfl | rfl | rfl
  · have d0 := D0.out
    have d1 := D1.out
    (have hcr := hR.out.chg HT5.out (.inr (by omega)); have r0 : (W5).cell? ⟨w.heap.size + 1, 0, none⟩ = some (.string ⟨#[]⟩) := hcr.cell (i := 0) (by omega); have r1 : (W5).cell? ⟨w.heap.size + 1, 1, none⟩ = some (.string ⟨#[]⟩) := hcr.cell (i := 1) (by omega); have rf0 := hcr.free (i := 0) (by omega); have rf1 := hcr.free (i := 1) (by omega); clear hcr)
    go_wp2
    refine bodyPost_ret (v := .agg #[.string s1, .string s2]) (by simp [results, Tryz.results196, go_sem, r0, r1, rf0, rf1]) rfl ?_
    have kk : Chg (w.heap.size + 1) (w.heap.size + 2) W5 (setN W5 (w.heap.size + 1) 0 [Value.string s1, .string s2]) := Chg.setN (Nat.le_refl _) (Nat.lt_succ_self _) _ (Chg.refl _ _ W5)
    have kb : Below w.heap.size W5 (setN W5 (w.heap.size + 1) 0 [Value.string s1, .string s2]) := Below.chg (Below.refl _ _) kk (Nat.le_succ _) (by omega)
    exact ⟨s1, s2, rfl, h1.out, h2.out, (HC5.out.keep kb hgw).more (by omega), ((Turn.of hWb.out).trans HT5.out).thenB kb⟩
  · go_upto_region 6 with (go_at_call 55; refine (one_any g (K + 4) 4 W5 HC5.out (by omega) (by omega)).mono ?_; rintro e w6 ⟨b6, rfl, hc6, ht6⟩; have HC6 := Lib.hid hc6; have HT6 := Lib.hid (HT5.out.trans ht6); have hz6 := ht6.size; have hs6 : bk < w6.heap.size := (by omega); have d0 := (ht6.cell (p := ⟨bk, 0, none⟩) hs5 (by simp; omega)).trans D0.out; have d1 := (ht6.cell (p := ⟨bk, 1, none⟩) hs5 (by simp; omega)).trans D1.out; have e0 := (frozen_of_turn ht6 hs5 (by omega) 0).trans E0.out; have e1 := (frozen_of_turn ht6 hs5 (by omega) 1).trans E1.out; clear hc6 ht6; (have hcr := hR.out.chg HT6.out (.inr (by omega)); have r0 : (w6).cell? ⟨w.heap.size + 1, 0, none⟩ = some (.string ⟨#[]⟩) := hcr.cell (i := 0) (by omega); have r1 : (w6).cell? ⟨w.heap.size + 1, 1, none⟩ = some (.string ⟨#[]⟩) := hcr.cell (i := 1) (by omega); have rf0 := hcr.free (i := 0) (by omega); have rf1 := hcr.free (i := 1) (by omega); clear hcr); cases b6)
    · have kB : Below bk w6 ((w6.setCell ⟨bk, 0, none⟩ (.string (⟨#[49, 52]⟩ : ByteArray))).setCell ⟨bk, 1, none⟩ (.string (⟨#[49, 50, 51, 52]⟩ : ByteArray))) := ((Below.refl _ _).setCell (p := ⟨bk, 0, none⟩) (Nat.le_refl _) _).setCell (p := ⟨bk, 1, none⟩) (Nat.le_refl _) _
      have HB8 := Lib.hid kB
      have HC8 := Lib.hid (HC6.out.keep kB hgx)
      have HT8 := Lib.hid (HT6.out.thenB (kB.mono hbz))
      have hz8 := kB.size
      clear kB
      have d0' : ((w6.setCell ⟨bk, 0, none⟩ (.string (⟨#[49, 52]⟩ : ByteArray))).setCell ⟨bk, 1, none⟩ (.string (⟨#[49, 50, 51, 52]⟩ : ByteArray))).cell? ⟨bk, 0, none⟩ = some (.string (⟨#[49, 52]⟩ : ByteArray)) := by rw [World.cell?_setCell_other _ _ _ _ (fun e => by injection e with _ e; omega)]; exact World.cell?_setCell_same _ _ _ d0
      have d1' : ((w6.setCell ⟨bk, 0, none⟩ (.string (⟨#[49, 52]⟩ : ByteArray))).setCell ⟨bk, 1, none⟩ (.string (⟨#[49, 50, 51, 52]⟩ : ByteArray))).cell? ⟨bk, 1, none⟩ = some (.string (⟨#[49, 50, 51, 52]⟩ : ByteArray)) := World.cell?_setCell_same _ _ _ ((World.cell?_setCell_other _ _ _ _ (fun e => by injection e with _ e; omega)).trans d1)
      have e0' : ((w6.setCell ⟨bk, 0, none⟩ (.string (⟨#[49, 52]⟩ : ByteArray))).setCell ⟨bk, 1, none⟩ (.string (⟨#[49, 50, 51, 52]⟩ : ByteArray))).frozen? ⟨bk, 0, none⟩ = false := by rw [World.frozen?_setCell, World.frozen?_setCell]; exact e0
      have e1' : ((w6.setCell ⟨bk, 0, none⟩ (.string (⟨#[49, 52]⟩ : ByteArray))).setCell ⟨bk, 1, none⟩ (.string (⟨#[49, 50, 51, 52]⟩ : ByteArray))).frozen? ⟨bk, 1, none⟩ = false := by rw [World.frozen?_setCell, World.frozen?_setCell]; exact e1
      clear d0 d1 e0 e1 r0 r1 rf0 rf1 HC6 HT6
      generalize ((w6.setCell ⟨bk, 0, none⟩ (.string (⟨#[49, 52]⟩ : ByteArray))).setCell ⟨bk, 1, none⟩ (.string (⟨#[49, 50, 51, 52]⟩ : ByteArray))) = w7 at *
      have HC6 := HC8
      have HT6 := HT8
      clear HB8 HC8 HT8
      obtain ⟨wo, rfl⟩ : ∃ wo, wo = w7 := ⟨w7, rfl⟩
      (have hcr := hR.out.chg HT6.out (.inr (by omega)); have r0 : (wo).cell? ⟨w.heap.size + 1, 0, none⟩ = some (.string ⟨#[]⟩) := hcr.cell (i := 0) (by omega); have r1 : (wo).cell? ⟨w.heap.size + 1, 1, none⟩ = some (.string ⟨#[]⟩) := hcr.cell (i := 1) (by omega); have rf0 := hcr.free (i := 0) (by omega); have rf1 := hcr.free (i := 1) (by omega); clear hcr)
      have kB : Below bk wo ((wo.setCell ⟨bk, 1, none⟩ (.string (⟨#[49, 50]⟩ : ByteArray))).setCell ⟨bk, 0, none⟩ (.string (⟨#[49, 52]⟩ : ByteArray))) := ((Below.refl _ _).setCell (p := ⟨bk, 1, none⟩) (Nat.le_refl _) _).setCell (p := ⟨bk, 0, none⟩) (Nat.le_refl _) _
      have HC8 := Lib.hid (HC6.out.keep kB hgx)
      have HT8 := Lib.hid (HT6.out.thenB (kB.mono hbz))
      have hz9 := kB.size
      clear kB
      go_wp2
      refine bodyPost_ret (v := .agg #[.string (⟨#[49, 52]⟩ : ByteArray), .string (⟨#[49, 50]⟩ : ByteArray)]) (by simp [results, Tryz.results196, go_sem, r0, r1, rf0, rf1]) rfl ?_
      have kk : Chg (w.heap.size + 1) (w.heap.size + 2) ((wo.setCell ⟨bk, 1, none⟩ (.string (⟨#[49, 50]⟩ : ByteArray))).setCell ⟨bk, 0, none⟩ (.string (⟨#[49, 52]⟩ : ByteArray))) (setN ((wo.setCell ⟨bk, 1, none⟩ (.string (⟨#[49, 50]⟩ : ByteArray))).setCell ⟨bk, 0, none⟩ (.string (⟨#[49, 52]⟩ : ByteArray))) (w.heap.size + 1) 0 [Value.string (⟨#[49, 52]⟩ : ByteArray), .string (⟨#[49, 50]⟩ : ByteArray)]) := Chg.setN (Nat.le_refl _) (Nat.lt_succ_self _) _ (Chg.refl _ _ ((wo.setCell ⟨bk, 1, none⟩ (.string (⟨#[49, 50]⟩ : ByteArray))).setCell ⟨bk, 0, none⟩ (.string (⟨#[49, 52]⟩ : ByteArray))))
      have kb : Below w.heap.size ((wo.setCell ⟨bk, 1, none⟩ (.string (⟨#[49, 50]⟩ : ByteArray))).setCell ⟨bk, 0, none⟩ (.string (⟨#[49, 52]⟩ : ByteArray))) (setN ((wo.setCell ⟨bk, 1, none⟩ (.string (⟨#[49, 50]⟩ : ByteArray))).setCell ⟨bk, 0, none⟩ (.string (⟨#[49, 52]⟩ : ByteArray))) (w.heap.size + 1) 0 [Value.string (⟨#[49, 52]⟩ : ByteArray), .string (⟨#[49, 50]⟩ : ByteArray)]) := Below.chg (Below.refl _ _) kk (Nat.le_succ _) (by omega)
      exact ⟨(⟨#[49, 52]⟩ : ByteArray), (⟨#[49, 50]⟩ : ByteArray), rfl, chB_ok (by decide +kernel), chB_ok (by decide +kernel), (HC8.out.keep kb hgw).more (by omega), ((Turn.of hWb.out).trans HT8.out).thenB kb⟩
    · refine bodyPost_ret (v := .agg #[.string s1, .string s2]) (by simp [results, Tryz.results196, go_sem, r0, r1, rf0, rf1]) rfl ?_
      have kk : Chg (w.heap.size + 1) (w.heap.size + 2) w6 (setN w6 (w.heap.size + 1) 0 [Value.string s1, .string s2]) := Chg.setN (Nat.le_refl _) (Nat.lt_succ_self _) _ (Chg.refl _ _ w6)
      have kb : Below w.heap.size w6 (setN w6 (w.heap.size + 1) 0 [Value.string s1, .string s2]) := Below.chg (Below.refl _ _) kk (Nat.le_succ _) (by omega)
      exact ⟨s1, s2, rfl, h1.out, h2.out, (HC6.out.keep kb hgw).more (by omega), ((Turn.of hWb.out).trans HT6.out).thenB kb⟩
  · go_wp2_with (go_at_call 55; refine (one_any g (K + 4) 4 W5 HC5.out (by omega) (by omega)).mono ?_; rintro e w6 ⟨b6, rfl, hc6, ht6⟩; have HC6 := Lib.hid hc6; have HT6 := Lib.hid (HT5.out.trans ht6); have hz6 := ht6.size; have hs6 : bk < w6.heap.size := (by omega); have d0 := (ht6.cell (p := ⟨bk, 0, none⟩) hs5 (by simp; omega)).trans D0.out; have d1 := (ht6.cell (p := ⟨bk, 1, none⟩) hs5 (by simp; omega)).trans D1.out; have e0 := (frozen_of_turn ht6 hs5 (by omega) 0).trans E0.out; have e1 := (frozen_of_turn ht6 hs5 (by omega) 1).trans E1.out; clear hc6 ht6; (have hcr := hR.out.chg HT6.out (.inr (by omega)); have r0 : (w6).cell? ⟨w.heap.size + 1, 0, none⟩ = some (.string ⟨#[]⟩) := hcr.cell (i := 0) (by omega); have r1 : (w6).cell? ⟨w.heap.size + 1, 1, none⟩ = some (.string ⟨#[]⟩) := hcr.cell (i := 1) (by omega); have rf0 := hcr.free (i := 0) (by omega); have rf1 := hcr.free (i := 1) (by omega); clear hcr); cases b6)
    · have kB : Below bk w6 ((w6.setCell ⟨bk, 0, none⟩ (.string (⟨#[49, 52, 53]⟩ : ByteArray))).setCell ⟨bk, 1, none⟩ (.string (⟨#[49, 50, 51]⟩ : ByteArray))) := ((Below.refl _ _).setCell (p := ⟨bk, 0, none⟩) (Nat.le_refl _) _).setCell (p := ⟨bk, 1, none⟩) (Nat.le_refl _) _
      have HB8 := Lib.hid kB
      have HC8 := Lib.hid (HC6.out.keep kB hgx)
      have HT8 := Lib.hid (HT6.out.thenB (kB.mono hbz))
      have hz8 := kB.size
      clear kB
      refine bodyPost_ret (v := .agg #[.string (⟨#[49, 52, 53]⟩ : ByteArray), .string (⟨#[49, 50, 51]⟩ : ByteArray)]) (by simp [results, Tryz.results196, go_sem, r0, r1, rf0, rf1]) rfl ?_
      have kk : Chg (w.heap.size + 1) (w.heap.size + 2) ((w6.setCell ⟨bk, 0, none⟩ (.string (⟨#[49, 52, 53]⟩ : ByteArray))).setCell ⟨bk, 1, none⟩ (.string (⟨#[49, 50, 51]⟩ : ByteArray))) (setN ((w6.setCell ⟨bk, 0, none⟩ (.string (⟨#[49, 52, 53]⟩ : ByteArray))).setCell ⟨bk, 1, none⟩ (.string (⟨#[49, 50, 51]⟩ : ByteArray))) (w.heap.size + 1) 0 [Value.string (⟨#[49, 52, 53]⟩ : ByteArray), .string (⟨#[49, 50, 51]⟩ : ByteArray)]) := Chg.setN (Nat.le_refl _) (Nat.lt_succ_self _) _ (Chg.refl _ _ ((w6.setCell ⟨bk, 0, none⟩ (.string (⟨#[49, 52, 53]⟩ : ByteArray))).setCell ⟨bk, 1, none⟩ (.string (⟨#[49, 50, 51]⟩ : ByteArray))))
      have kb : Below w.heap.size ((w6.setCell ⟨bk, 0, none⟩ (.string (⟨#[49, 52, 53]⟩ : ByteArray))).setCell ⟨bk, 1, none⟩ (.string (⟨#[49, 50, 51]⟩ : ByteArray))) (setN ((w6.setCell ⟨bk, 0, none⟩ (.string (⟨#[49, 52, 53]⟩ : ByteArray))).setCell ⟨bk, 1, none⟩ (.string (⟨#[49, 50, 51]⟩ : ByteArray))) (w.heap.size + 1) 0 [Value.string (⟨#[49, 52, 53]⟩ : ByteArray), .string (⟨#[49, 50, 51]⟩ : ByteArray)]) := Below.chg (Below.refl _ _) kk (Nat.le_succ _) (by omega)
      exact ⟨(⟨#[49, 52, 53]⟩ : ByteArray), (⟨#[49, 50, 51]⟩ : ByteArray), rfl, chB_ok (by decide +kernel), chB_ok (by decide +kernel), (HC8.out.keep kb hgw).more (by omega), ((Turn.of hWb.out).trans HT8.out).thenB kb⟩
    · refine bodyPost_ret (v := .agg #[.string s1, .string s2]) (by simp [results, Tryz.results196, go_sem, r0, r1, rf0, rf1]) rfl ?_
      have kk : Chg (w.heap.size + 1) (w.heap.size + 2) w6 (setN w6 (w.heap.size + 1) 0 [Value.string s1, .string s2]) := Chg.setN (Nat.le_refl _) (Nat.lt_succ_self _) _ (Chg.refl _ _ w6)
      have kb : Below w.heap.size w6 (setN w6 (w.heap.size + 1) 0 [Value.string s1, .string s2]) := Below.chg (Below.refl _ _) kk (Nat.le_succ _) (by omega)
      exact ⟨s1, s2, rfl, h1.out, h2.out, (HC6.out.keep kb hgw).more (by omega), ((Turn.of hWb.out).trans HT6.out).thenB kb⟩
  · go_wp2_with (go_at_call 55; refine (one_any g (K + 4) 4 W5 HC5.out (by omega) (by omega)).mono ?_; rintro e w6 ⟨b6, rfl, hc6, ht6⟩; have HC6 := Lib.hid hc6; have HT6 := Lib.hid (HT5.out.trans ht6); have hz6 := ht6.size; have hs6 : bk < w6.heap.size := (by omega); have d0 := (ht6.cell (p := ⟨bk, 0, none⟩) hs5 (by simp; omega)).trans D0.out; have d1 := (ht6.cell (p := ⟨bk, 1, none⟩) hs5 (by simp; omega)).trans D1.out; have e0 := (frozen_of_turn ht6 hs5 (by omega) 0).trans E0.out; have e1 := (frozen_of_turn ht6 hs5 (by omega) 1).trans E1.out; clear hc6 ht6; (have hcr := hR.out.chg HT6.out (.inr (by omega)); have r0 : (w6).cell? ⟨w.heap.size + 1, 0, none⟩ = some (.string ⟨#[]⟩) := hcr.cell (i := 0) (by omega); have r1 : (w6).cell? ⟨w.heap.size + 1, 1, none⟩ = some (.string ⟨#[]⟩) := hcr.cell (i := 1) (by omega); have rf0 := hcr.free (i := 0) (by omega); have rf1 := hcr.free (i := 1) (by omega); clear hcr); cases b6)
    · have kB : Below bk w6 ((w6.setCell ⟨bk, 0, none⟩ (.string (⟨#[49, 52]⟩ : ByteArray))).setCell ⟨bk, 1, none⟩ (.string (⟨#[49, 50, 51, 52]⟩ : ByteArray))) := ((Below.refl _ _).setCell (p := ⟨bk, 0, none⟩) (Nat.le_refl _) _).setCell (p := ⟨bk, 1, none⟩) (Nat.le_refl _) _
      have HB8 := Lib.hid kB
      have HC8 := Lib.hid (HC6.out.keep kB hgx)
      have HT8 := Lib.hid (HT6.out.thenB (kB.mono hbz))
      have hz8 := kB.size
      clear kB
      refine bodyPost_ret (v := .agg #[.string (⟨#[49, 52]⟩ : ByteArray), .string (⟨#[49, 50, 51, 52]⟩ : ByteArray)]) (by simp [results, Tryz.results196, go_sem, r0, r1, rf0, rf1]) rfl ?_
      have kk : Chg (w.heap.size + 1) (w.heap.size + 2) ((w6.setCell ⟨bk, 0, none⟩ (.string (⟨#[49, 52]⟩ : ByteArray))).setCell ⟨bk, 1, none⟩ (.string (⟨#[49, 50, 51, 52]⟩ : ByteArray))) (setN ((w6.setCell ⟨bk, 0, none⟩ (.string (⟨#[49, 52]⟩ : ByteArray))).setCell ⟨bk, 1, none⟩ (.string (⟨#[49, 50, 51, 52]⟩ : ByteArray))) (w.heap.size + 1) 0 [Value.string (⟨#[49, 52]⟩ : ByteArray), .string (⟨#[49, 50, 51, 52]⟩ : ByteArray)]) := Chg.setN (Nat.le_refl _) (Nat.lt_succ_self _) _ (Chg.refl _ _ ((w6.setCell ⟨bk, 0, none⟩ (.string (⟨#[49, 52]⟩ : ByteArray))).setCell ⟨bk, 1, none⟩ (.string (⟨#[49, 50, 51, 52]⟩ : ByteArray))))
      have kb : Below w.heap.size ((w6.setCell ⟨bk, 0, none⟩ (.string (⟨#[49, 52]⟩ : ByteArray))).setCell ⟨bk, 1, none⟩ (.string (⟨#[49, 50, 51, 52]⟩ : ByteArray))) (setN ((w6.setCell ⟨bk, 0, none⟩ (.string (⟨#[49, 52]⟩ : ByteArray))).setCell ⟨bk, 1, none⟩ (.string (⟨#[49, 50, 51, 52]⟩ : ByteArray))) (w.heap.size + 1) 0 [Value.string (⟨#[49, 52]⟩ : ByteArray), .string (⟨#[49, 50, 51, 52]⟩ : ByteArray)]) := Below.chg (Below.refl _ _) kk (Nat.le_succ _) (by omega)
      exact ⟨(⟨#[49, 52]⟩ : ByteArray), (⟨#[49, 50, 51, 52]⟩ : ByteArray), rfl, chB_ok (by decide +kernel), chB_ok (by decide +kernel), (HC8.out.keep kb hgw).more (by omega), ((Turn.of hWb.out).trans HT8.out).thenB kb⟩
    · refine bodyPost_ret (v := .agg #[.string s1, .string s2]) (by simp [results, Tryz.results196, go_sem, r0, r1, rf0, rf1]) rfl ?_
      have kk : Chg (w.heap.size + 1) (w.heap.size + 2) w6 (setN w6 (w.heap.size + 1) 0 [Value.string s1, .string s2]) := Chg.setN (Nat.le_refl _) (Nat.lt_succ_self _) _ (Chg.refl _ _ w6)
      have kb : Below w.heap.size w6 (setN w6 (w.heap.size + 1) 0 [Value.string s1, .string s2]) := Below.chg (Below.refl _ _) kk (Nat.le_succ _) (by omega)
      exact ⟨s1, s2, rfl, h1.out, h2.out, (HC6.out.keep kb hgw).more (by omega), ((Turn.of hWb.out).trans HT6.out).thenB kb⟩
end Go.Proofs.YtkegbbndmfnolaaGreatDoor

/-
  A drawn touch.
-/
namespace Go.Proofs.YtkegbbndmfnolaaGreatDoor
open Go.RowKit
set_option linter.unusedVariables false
set_option linter.unusedSimpArgs false
set_option maxRecDepth 100000

theorem calls_app {a b : ByteArray} (ha : areCallsP a) (hb : areCallsP b) : areCallsP (a ++ b) := fun i hi => by
  rw [size_app] at hi
  by_cases h : i < a.size
  · rw [bat_append_l _ _ _ h]; exact ha i h
  · obtain ⟨j, rfl⟩ : ∃ j, i = a.size + j := ⟨i - a.size, by omega⟩
    rw [bat_append_r]; exact hb j (by omega)
def callB (s : ByteArray) : Bool := s.data.toList.all (fun b => decide (b.toNat = 112) || (decide (b.toNat = 98) || decide (b.toNat = 115))) && decide (s.size = 1)
theorem call_lit (s : ByteArray) (h : callB s = true) : areCallsP s ∧ s.size = 1 := by
  unfold callB at h
  simp only [Bool.and_eq_true, Bool.or_eq_true, decide_eq_true_eq, List.all_eq_true] at h
  refine ⟨fun i hi => ?_, h.2⟩
  have hl : i < s.data.toList.length := hi
  have := h.1 _ (List.getElem_mem hl)
  unfold callByte bat
  rw [Int.toNat_natCast, List.getD_eq_getElem?_getD, List.getElem?_eq_getElem hl]
  simp only [Option.getD_some]
  omega
set_option maxHeartbeats 1600000 in
theorem touchD_any (g K m : Nat) (w : World) (h : Cur w g K) (hK : K ≤ 10000000) (hm : 1 ≤ m ∧ m ≤ 9) :
    Calls Tryz.prog 173 #[.pointer (some ⟨g, 0, none⟩), .int .i64 (m : Int)] w fun e w' => ∃ t, e = .returned (.string t) ∧ areCallsP t ∧ 1 ≤ t.size ∧ t.size ≤ 2 * m ∧ Cur w' g (K + 40) ∧ Turn g w w' := by
  have H := Lib.hid h
  have hgw := h.lt
  clear h
  obtain ⟨hm1, hm9⟩ := hm
  go_enter Tryz.func173, Tryz.ntmps173
  go_upto_region 3 with (go_at_call 53; refine (pick_any g K (m : Int) _ H.out (by omega) (by omega)).mono ?_; rintro e w1 ⟨x, rfl, hx0, hx1, hc, ht⟩; have HC1 := Lib.hid hc; have HT1 := Lib.hid ht; clear hc ht; obtain ⟨k, rfl⟩ : ∃ k : Nat, x = (k : Int) := ⟨x.toNat, by omega⟩; have hk : k < m := (by omega))
  go_loopw [5, 6] (fun v i wr => ∃ (j : Nat) (t : ByteArray), i = .int .i64 (j : Int) ∧ v = .string t ∧ t.size + j ≤ m ∧ 1 ≤ t.size + j ∧ Hid (areCallsP t) ∧ Cur wr g (K + 2 + 2 * t.size) ∧ Turn g w wr) (fun _ i _ => (intOf i).toNat)
  case atStart => exact ⟨k + 1, ⟨#[]⟩, by go_num, by rfl, by show 0 + (k + 1) ≤ m; omega, by omega, Lib.hid (fun i hi => by exact absurd hi (Nat.not_lt_zero i)), HC1.out.more (by omega), HT1.out⟩
  case round =>
    obtain ⟨j, t, rfl, rfl, hj1, hj2, hP, hcu, htu⟩ := hrel
    have HCu := Lib.hid hcu
    have HTu := Lib.hid htu
    have hzr := htu.size
    clear hcu htu
    by_cases hlt : 0 < j
    · have k1 : ∀ s : ByteArray, s.size = 1 → ¬ 9223372036854775807 < t.size + s.size := fun s hs => by omega
      go_wp2_with (go_at_call 54; refine (of_any g _ wr.heap.size 5 5 _ (fun s => areCallsP s ∧ s.size = 1) _ (HCu.out.later ((Below.refl _ _).alloc (Nat.le_refl _) _)) (by omega) (by omega) (by omega) (Cells.lit wr _ _ 5 rfl) (by have := HCu.out.lt; omega) (by intro k hk; rcases k with _ | _ | _ | _ | _ | k <;> first | exact ⟨_, rfl, call_lit _ (by decide +kernel)⟩ | omega)).mono ?_; rintro e w4 ⟨s, rfl, ⟨hs1, hs2⟩, hc, ht⟩; have Hs := Lib.hid hs1; have HC4 := Lib.hid hc; have HT4 := Lib.hid (HTu.out.trans ((Turn.of ((Below.refl _ _).alloc (Nat.le_refl _) _)).trans ht)); have k2 := k1 s hs2; have hs2' := Lib.hid hs2; clear hc ht hs1 k1 hs2)
      go_roundw
      case rel => exact ⟨j - 1, t ++ s, by go_num, rfl, by rw [size_app]; have := hs2'.out; omega, by rw [size_app]; have := hs2'.out; omega, Lib.hid (calls_app hP.out Hs.out), HC4.out.more (by rw [size_app]; have := hs2'.out; omega), HT4.out⟩
      case measure => simp [intOf]; omega
    · obtain rfl : j = 0 := by omega
      have k3 : ¬ 9223372036854775807 < t.size + t.size := by omega
      go_wp2_with (go_at_call 55; refine (one_any g _ 3 wr HCu.out (by omega) (by omega)).mono ?_; rintro e w5 ⟨b5, rfl, hc5, ht5⟩; have HC5 := Lib.hid hc5; have HT5 := Lib.hid (HTu.out.trans ht5); clear hc5 ht5; cases b5)
      · go_ret
        exact ⟨t, rfl, hP.out, by omega, by omega, HC5.out.more (by omega), HT5.out⟩
      · go_ret
        exact ⟨t ++ t, rfl, calls_app hP.out hP.out, by rw [size_app]; omega, by rw [size_app]; omega, HC5.out.more (by omega), HT5.out⟩
end Go.Proofs.YtkegbbndmfnolaaGreatDoor

/-
  How often a row is applied until it comes to rounds: plain law (840 serves for up to eight bells), and the contract of l1Order.
-/
namespace Go.Proofs.YtkegbbndmfnolaaGreatDoor
open Go.RowKit
set_option linter.unusedVariables false
set_option linter.unusedSimpArgs false
set_option maxRecDepth 100000

def itF (f : Nat → Nat) : Nat → Nat → Nat
  | 0, i => i
  | k + 1, i => f (itF f k i)
theorem itF_comm (f : Nat → Nat) (i : Nat) : ∀ k, itF f k (f i) = f (itF f k i)
  | 0 => rfl
  | k + 1 => by show f (itF f k (f i)) = f (f (itF f k i)); rw [itF_comm f i k]
theorem itF_add (f : Nat → Nat) (b i : Nat) : ∀ a, itF f (a + b) i = itF f a (itF f b i)
  | 0 => by rw [Nat.zero_add]; rfl
  | a + 1 => by rw [show a + 1 + b = (a + b) + 1 by omega]; show f (itF f (a + b) i) = f (itF f a (itF f b i)); rw [itF_add f b i a]
theorem itF_lt {f : Nat → Nat} {n i : Nat} (hf : ∀ i, i < n → f i < n) (hi : i < n) : ∀ k, itF f k i < n
  | 0 => hi
  | k + 1 => hf _ (itF_lt hf hi k)
theorem itF_cancel {f : Nat → Nat} {n i d : Nat} (hf : ∀ i, i < n → f i < n) (hj : ∀ i j, i < n → j < n → f i = f j → i = j) (hi : i < n) : ∀ a, itF f (a + d) i = itF f a i → itF f d i = i
  | 0, h => by rw [Nat.zero_add] at h; exact h
  | a + 1, h => by
    rw [show a + 1 + d = (a + d) + 1 by omega] at h
    exact itF_cancel hf hj hi a (hj _ _ (itF_lt hf hi _) (itF_lt hf hi _) h)
theorem itF_mul {f : Nat → Nat} {i d : Nat} (h : itF f d i = i) : ∀ m, itF f (m * d) i = i
  | 0 => by rw [Nat.zero_mul]; rfl
  | m + 1 => by rw [Nat.add_mul, Nat.one_mul, itF_add, h]; exact itF_mul h m
theorem itF_orbit {f : Nat → Nat} {n i : Nat} (hf : ∀ i, i < n → f i < n) (hj : ∀ i j, i < n → j < n → f i = f j → i = j) (hi : i < n) : ∃ d, 1 ≤ d ∧ d ≤ n ∧ itF f d i = i := by
  refine Classical.byContradiction fun hn => ?_
  have hnd : ((List.range (n + 1)).map fun k => itF f k i).Nodup := by
    rw [List.Nodup, List.pairwise_iff_getElem]
    intro a b ha hb hab e
    simp only [List.length_map, List.length_range] at ha hb
    simp only [List.getElem_map, List.getElem_range] at e
    refine hn ⟨b - a, by omega, by omega, itF_cancel (d := b - a) hf hj hi a ?_⟩
    rw [show a + (b - a) = b by omega]; exact e.symm
  have := CycT.nodupN_le _ n hnd (fun x hx => by
    obtain ⟨k, _, rfl⟩ := List.mem_map.1 hx
    exact itF_lt hf hi k)
  simp only [List.length_map, List.length_range] at this
  omega
theorem itF_840 {f : Nat → Nat} {n i : Nat} (h8 : n ≤ 8) (hf : ∀ i, i < n → f i < n) (hj : ∀ i j, i < n → j < n → f i = f j → i = j) (hi : i < n) : itF f 840 i = i := by
  obtain ⟨d, h1, h2, h3⟩ := itF_orbit hf hj hi
  have key : ∀ d : Fin 9, 1 ≤ d.val → (840 / d.val) * d.val = 840 := by decide
  have := itF_mul h3 (840 / d)
  rw [key ⟨d, by omega⟩ h1] at this
  exact this
/-- A row applied to itself so often (and once more). -/
def powS (a : ByteArray) : Nat → ByteArray
  | 0 => a
  | k + 1 => timesS (powS a k) a
theorem powS_size (a : ByteArray) : ∀ k, (powS a k).size = a.size
  | 0 => rfl
  | k + 1 => size_times _ _
theorem powS_bat {a : ByteArray} (h : isRow a) : ∀ (k i : Nat), i < a.size → bat (powS a k) i = 49 + ((itF (rowF a) (k + 1) i : Nat) : Int)
  | 0, i, hi => by show bat a i = _; have := rowF_bat h hi; show _ = 49 + ((rowF a i : Nat) : Int); omega
  | k + 1, i, hi => by
    show bat (timesS (powS a k) a) i = _
    rw [bat_times _ _ _ hi]
    have e : bat a i - 49 = ((rowF a i : Nat) : Int) := by have := rowF_bat h hi; omega
    rw [e, powS_bat h k (rowF a i) (rowF_lt h i hi), itF_comm]
    rfl
theorem powS_840 {a : ByteArray} (h : isRow a) : powS a 839 = roundsS (a.size : Int) := by
  have h3 : 3 ≤ a.size := h.1
  have h8 : a.size ≤ 8 := h.2.1
  have hs : (roundsS (a.size : Int)).size = a.size := (row_rounds h3 h8).2
  refine str_ext (by rw [powS_size, hs]) fun i hi => ?_
  rw [powS_size] at hi
  rw [powS_bat h _ _ hi, rounds_bat hi h8, itF_840 h8 (fun i hi => rowF_lt h i hi) (fun i j hi hj e => rowF_inj h i j hi hj e) hi]
set_option maxHeartbeats 1600000 in
theorem l1Order_any (a : ByteArray) (w : World) (h : isRow a) :
    Calls Tryz.prog 197 #[.string a] w fun e w' => ∃ k : Nat, e = .returned (.int .i64 (k : Int)) ∧ 1 ≤ k ∧ k ≤ 840 ∧ Below w.heap.size w w' := by
  have h3 : 3 ≤ a.size := h.1
  have h8 : a.size ≤ 8 := h.2.1
  obtain ⟨R, hR⟩ : ∃ R, Hid (roundsS (a.size : Int) = R) := ⟨_, Lib.hid rfl⟩
  have hE : Hid (powS a 839 = R) := Lib.hid (by rw [← hR.out]; exact powS_840 h)
  have hrn : Hid (∀ w, Calls Tryz.prog 120 #[.int .i64 (a.size : Int)] w fun e w' => e = .returned (.string R) ∧ w = w') := Lib.hid (fun w => by rw [← hR.out]; exact l1Rounds_any (a.size : Int) w (by omega) (by omega))
  have htm : Hid (∀ (k : Nat) (W : World), Calls Tryz.prog 165 #[.string (powS a k), .string a] W fun e w' => e = .returned (.string (powS a (k + 1))) ∧ W = w') := Lib.hid (fun k W => l1Times_any (powS a k) a W (by omega) (by rw [powS_size]; omega) (fun i hi => by have := h.2.2.1 i hi; rw [powS_size]; exact this))
  have hpz : Hid (∀ k, (powS a k).size = a.size) := Lib.hid (powS_size a)
  clear h
  go_enter Tryz.func197, Tryz.ntmps197
  go_wp2
  go_loopw [3, 4] (fun k x wr => ∃ j : Nat, j < 840 ∧ k = .int .i64 ((j : Int) + 1) ∧ x = .string (powS a j) ∧ Below w.heap.size w wr) (fun k _ _ => 841 - (intOf k).toNat)
  case atStart => exact ⟨0, by omega, by go_num, by rfl, Below.refl _ _⟩
  case round =>
    obtain ⟨j, hj, rfl, rfl, hbl⟩ := hrel
    have HB := Lib.hid hbl
    have htm1 := Lib.hid (htm.out j)
    have hps := hpz.out j
    have hlast : Hid (powS a j ≠ R → j ≠ 839) := Lib.hid (fun e e2 => e (by rw [e2]; exact hE.out))
    clear hbl
    obtain ⟨T, hT⟩ : ∃ T, Hid (powS a j = T) := ⟨_, Lib.hid rfl⟩
    rw [hT.out] at htm1 hps hlast ⊢
    by_cases hc : T = R
    · have e2 := eqB_t hc
      clear hc
      go_wp2_with (first | (go_at_call 120; refine (hrn.out _).mono ?_; rintro e w1 ⟨rfl, rfl⟩) | fail)
      go_ret
      exact ⟨j + 1, by go_num, by omega, by omega, HB.out⟩
    · have hj2 := hlast.out hc
      have e2 := eqB_f hc
      clear hc
      go_wp2_with (first | (go_at_call 120; refine (hrn.out _).mono ?_; rintro e w1 ⟨rfl, rfl⟩) | (go_at_call 165; refine (htm1.out _).mono ?_; rintro e w1 ⟨rfl, rfl⟩) | fail)
      go_roundw
      case rel => exact ⟨j + 1, by omega, by go_num, by rfl, HB.out⟩
      case measure => simp [intOf]; omega
end Go.Proofs.YtkegbbndmfnolaaGreatDoor
