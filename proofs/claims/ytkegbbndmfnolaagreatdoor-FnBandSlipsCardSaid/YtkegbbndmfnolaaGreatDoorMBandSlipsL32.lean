import Derived.Test.YtkegbbndmfnolaaGreatDoorMBandSlipsL10
import Derived.Test.YtkegbbndmfnolaaGreatDoorRows
import Derived.Test.YtkegbbndmfnolaaGreatDoorMBandSlipsL01
import Derived.Test.YtkegbbndmfnolaaGreatDoorMBandSlipsL02
/-
  NewBand: contracts of both sides.
-/
namespace Go.Proofs.YtkegbbndmfnolaaGreatDoor
open Go.RowKit
set_option linter.unusedVariables false
set_option linter.unusedSimpArgs false
set_option maxRecDepth 100000

open Classical in
/-- What NewBand answers. -/
noncomputable def newD (m : Mth) (b s : ByteArray) : Bd × Bool := if callsP m b s then (⟨m.name, m.stage, m.x, b, s, 0, pS, roundsS m.stage, newRs m.stage.toNat⟩, true) else (Bd.zero, false)
theorem newD_small {m : Mth} {b s : ByteArray} (h : m.x.length ≤ 1048576) : (newD m b s).1.x.length ≤ 1048576 ∧ (newD m b s).1.rx.length ≤ 1048576 := by
  unfold newD
  split
  · rename_i hp
    have h8 := hp.1.2.stage.2
    simp only [newRs_len]
    exact ⟨h, by omega⟩
  · exact ⟨Nat.zero_le _, Nat.zero_le _⟩











set_option maxHeartbeats 1600000 in
theorem iNewBand_any (m : Mth) (b s : ByteArray) (w : World) (h : RdL w w.heap.size m.A 1 encString m.x) (hn : m.name.size ≤ 1048576) (hl : m.x.length ≤ 1048576) (hs : ∀ x ∈ m.x, String_small 1048576 x) (hb : b.size ≤ 1048576) (hss : s.size ≤ 1048576) : Calls Tryz.prog 47 #[.agg #[.string m.name, .int .i64 m.stage, .slice m.A m.x.length m.c], .agg #[.string b, .string s]] w fun e w' => BdRet (newD m b s).1 (newD m b s).2 w e w' := by
  by_cases c0 : callsP m b s
  · have e0 := B_t c0
    have C0 := Lib.hid c0
    have h0 : 0 < m.x.length := by have := c0.1.2.1.1; omega
    have hst := c0.1.2.stage
    have hs1 : 1 ≤ m.stage := by have := hst.1; omega
    have hs2 : m.stage ≤ 8 := hst.2
    clear c0 hst
    have hW : ∃ W : World, Hid ((((w.alloc (.cells #[.string m.name, .int .i64 m.stage, .slice m.A m.x.length m.c] 26)).alloc (.cells #[.string b, .string s] 28)).alloc (.cells #[Value.string ⟨#[]⟩, .int .i64 0, .slice none 0 0, .string ⟨#[]⟩, .string ⟨#[]⟩, .int .i64 0, .string ⟨#[]⟩, .string ⟨#[]⟩, .slice none 0 0] 36)) = W) ∧ Hid (W.heap.size = w.heap.size + 3) ∧ Hid (Below w.heap.size w W) ∧ Hid (Cells W w.heap.size 3 (fun i => (#[.string m.name, .int .i64 m.stage, .slice m.A m.x.length m.c] : Array Value).getD i undef)) ∧ Hid (Cells W (w.heap.size + 1) 2 (fun i => (#[Value.string b, .string s] : Array Value).getD i undef)) ∧ Hid (Cells W (w.heap.size + 1 + 1) 9 (fun i => (#[Value.string ⟨#[]⟩, .int .i64 0, .slice none 0 0, .string ⟨#[]⟩, .string ⟨#[]⟩, .int .i64 0, .string ⟨#[]⟩, .string ⟨#[]⟩, .slice none 0 0] : Array Value).getD i undef)) := by
      have z1 : w.heap.size + 1 = (w.alloc (.cells #[.string m.name, .int .i64 m.stage, .slice m.A m.x.length m.c] 26)).heap.size := by simp
      have z2 : w.heap.size + 1 + 1 = ((w.alloc (.cells #[.string m.name, .int .i64 m.stage, .slice m.A m.x.length m.c] 26)).alloc (.cells #[.string b, .string s] 28)).heap.size := by simp
      refine ⟨_, Lib.hid rfl, Lib.hid (by simp), Lib.hid ((((Below.refl _ _).alloc (Nat.le_refl _) _).alloc (by simp) _).alloc (by simp; omega) _), Lib.hid ?_, Lib.hid ?_, Lib.hid ?_⟩
      · refine ((Cells.new w _ _ 3 _ (fun i hi => ?_)).alloc _).alloc _
        match i, hi with
        | 0, _ => rfl
        | 1, _ => rfl
        | 2, _ => rfl
      · rw [z1]
        refine (Cells.new _ _ _ 2 _ (fun i hi => ?_)).alloc _
        match i, hi with
        | 0, _ => rfl
        | 1, _ => rfl
      · rw [z2]
        refine Cells.new _ _ _ 9 _ (fun i hi => ?_)
        match i, hi with
        | 0, _ => rfl
        | 1, _ => rfl
        | 2, _ => rfl
        | 3, _ => rfl
        | 4, _ => rfl
        | 5, _ => rfl
        | 6, _ => rfl
        | 7, _ => rfl
        | 8, _ => rfl
    obtain ⟨W, hWe, hWs, hWb, hM, hK, hZ⟩ := hW
    have hWs1 : w.heap.size + 3 ≤ W.heap.size := by have := hWs.out; omega
    have H := Lib.hid (show RdL W W.heap.size m.A 1 encString m.x from (h.below hWb.out (Nat.le_refl _)).more hWb.out.size)
    have Hs := Lib.hid hs
    clear h hs
    have m0 : W.cell? ⟨w.heap.size, 0, none⟩ = some (.string m.name) := hM.out.cell (i := 0) (by omega)
    have m1 : W.cell? ⟨w.heap.size, 1, none⟩ = some (.int .i64 m.stage) := hM.out.cell (i := 1) (by omega)
    have m2 : W.cell? ⟨w.heap.size, 2, none⟩ = some (.slice m.A m.x.length m.c) := hM.out.cell (i := 2) (by omega)
    have k0 : W.cell? ⟨w.heap.size + 1, 0, none⟩ = some (.string b) := hK.out.cell (i := 0) (by omega)
    have k1 : W.cell? ⟨w.heap.size + 1, 1, none⟩ = some (.string s) := hK.out.cell (i := 1) (by omega)
    go_enter Tryz.func47, Tryz.ntmps47
    go_wp2_with fail
    rw [hWe.out]
    clear hWe
    go_wp2_with (first | (go_at_call 70; refine (goodCalls_any m b s _ H.out hn hl Hs.out hb hss).mono ?_; rintro e w1 ⟨rfl, hb1⟩; have hBW : Hid (Below W.heap.size W w1) := Lib.hid hb1; have m0 := (hb1.cell (p := ⟨w.heap.size, 0, none⟩) (show w.heap.size < W.heap.size by omega)).trans m0; have m1 := (hb1.cell (p := ⟨w.heap.size, 1, none⟩) (show w.heap.size < W.heap.size by omega)).trans m1; have m2 := (hb1.cell (p := ⟨w.heap.size, 2, none⟩) (show w.heap.size < W.heap.size by omega)).trans m2; have k0 := (hb1.cell (p := ⟨w.heap.size + 1, 0, none⟩) (show w.heap.size + 1 < W.heap.size by omega)).trans k0; have k1 := (hb1.cell (p := ⟨w.heap.size + 1, 1, none⟩) (show w.heap.size + 1 < W.heap.size by omega)).trans k1) | (go_at_call 59; refine (newBand_any m b s _ ((H.out.below hBW.out (Nat.le_refl _)).more hBW.out.size) hl h0 hs1 hs2).mono ?_; rintro e w2 hbd; obtain ⟨A1, c1, A3, c3, gs, rfl, hg1, hg2, ho1, ho3, hb2⟩ := hbd; have HO1 := Lib.hid ho1; have HO3 := Lib.hid ho3; clear ho1 ho3; have hCr := (hZ.out.later (hBW.out)).later hb2; have r0 := hCr.cell (i := 0) (by omega); have rf0 := hCr.free (i := 0) (by omega); have r1 := hCr.cell (i := 1) (by omega); have rf1 := hCr.free (i := 1) (by omega); have r2 := hCr.cell (i := 2) (by omega); have rf2 := hCr.free (i := 2) (by omega); have r3 := hCr.cell (i := 3) (by omega); have rf3 := hCr.free (i := 3) (by omega); have r4 := hCr.cell (i := 4) (by omega); have rf4 := hCr.free (i := 4) (by omega); have r5 := hCr.cell (i := 5) (by omega); have rf5 := hCr.free (i := 5) (by omega); have r6 := hCr.cell (i := 6) (by omega); have rf6 := hCr.free (i := 6) (by omega); have r7 := hCr.cell (i := 7) (by omega); have rf7 := hCr.free (i := 7) (by omega); have r8 := hCr.cell (i := 8) (by omega); have rf8 := hCr.free (i := 8) (by omega); clear hCr))
    have hsz := hb2.size
    have hWsz := hBW.out.size
    refine bodyPost_ret (v := .tuple #[.agg #[.string m.name, .int .i64 m.stage, .slice A1 m.x.length c1, .string b, .string s, .int .i64 0, .string pS, .string (roundsS m.stage), .slice A3 (newRs m.stage.toNat).length c3], .bool true]) (by simp [results, Tryz.results47, go_sem, r0, r1, r2, r3, r4, r5, r6, r7, r8, rf0, rf1, rf2, rf3, rf4, rf5, rf6, rf7, rf8]) rfl ?_
    have kk : Chg (w.heap.size + 1 + 1) (w.heap.size + 1 + 1 + 1) w2 (setN w2 (w.heap.size + 1 + 1) 0 [.string m.name, .int .i64 m.stage, .slice A1 m.x.length c1, .string b, .string s, .int .i64 0, .string pS, .string (roundsS m.stage), .slice A3 (newRs m.stage.toNat).length c3]) := Chg.setN (Nat.le_refl _) (Nat.lt_succ_self _) _ (Chg.refl _ _ w2)
    have hO1 := (HO1.out.chg kk (.inr (by omega))).mono (show w.heap.size ≤ w1.heap.size by omega) (Nat.le_refl _)
    have hO3 := (HO3.out.chg kk (.inr (by omega))).mono (Nat.le_refl _) kk.size
    have hBB := Below.chg ((hWb.out.trans (hBW.out.mono hWb.out.size)).trans (hb2.mono (by omega))) kk (by omega) (by omega)
    have hks := kk.size
    exact ⟨_, by unfold newD; rw [if_pos C0.out], by unfold newD; rw [if_pos C0.out]; exact ⟨A1, c1, A3, c3, gs, rfl, by omega, Nat.le_trans hg2 kk.size, hO1, hO3⟩, hBB⟩
  · have e0 := B_f c0
    have C0 := Lib.hid c0
    clear c0
    have hW : ∃ W : World, Hid ((((w.alloc (.cells #[.string m.name, .int .i64 m.stage, .slice m.A m.x.length m.c] 26)).alloc (.cells #[.string b, .string s] 28)).alloc (.cells #[Value.string ⟨#[]⟩, .int .i64 0, .slice none 0 0, .string ⟨#[]⟩, .string ⟨#[]⟩, .int .i64 0, .string ⟨#[]⟩, .string ⟨#[]⟩, .slice none 0 0] 36)) = W) ∧ Hid (W.heap.size = w.heap.size + 3) ∧ Hid (Below w.heap.size w W) ∧ Hid (Cells W w.heap.size 3 (fun i => (#[.string m.name, .int .i64 m.stage, .slice m.A m.x.length m.c] : Array Value).getD i undef)) ∧ Hid (Cells W (w.heap.size + 1) 2 (fun i => (#[Value.string b, .string s] : Array Value).getD i undef)) ∧ Hid (Cells W (w.heap.size + 1 + 1) 9 (fun i => (#[Value.string ⟨#[]⟩, .int .i64 0, .slice none 0 0, .string ⟨#[]⟩, .string ⟨#[]⟩, .int .i64 0, .string ⟨#[]⟩, .string ⟨#[]⟩, .slice none 0 0] : Array Value).getD i undef)) := by
      have z1 : w.heap.size + 1 = (w.alloc (.cells #[.string m.name, .int .i64 m.stage, .slice m.A m.x.length m.c] 26)).heap.size := by simp
      have z2 : w.heap.size + 1 + 1 = ((w.alloc (.cells #[.string m.name, .int .i64 m.stage, .slice m.A m.x.length m.c] 26)).alloc (.cells #[.string b, .string s] 28)).heap.size := by simp
      refine ⟨_, Lib.hid rfl, Lib.hid (by simp), Lib.hid ((((Below.refl _ _).alloc (Nat.le_refl _) _).alloc (by simp) _).alloc (by simp; omega) _), Lib.hid ?_, Lib.hid ?_, Lib.hid ?_⟩
      · refine ((Cells.new w _ _ 3 _ (fun i hi => ?_)).alloc _).alloc _
        match i, hi with
        | 0, _ => rfl
        | 1, _ => rfl
        | 2, _ => rfl
      · rw [z1]
        refine (Cells.new _ _ _ 2 _ (fun i hi => ?_)).alloc _
        match i, hi with
        | 0, _ => rfl
        | 1, _ => rfl
      · rw [z2]
        refine Cells.new _ _ _ 9 _ (fun i hi => ?_)
        match i, hi with
        | 0, _ => rfl
        | 1, _ => rfl
        | 2, _ => rfl
        | 3, _ => rfl
        | 4, _ => rfl
        | 5, _ => rfl
        | 6, _ => rfl
        | 7, _ => rfl
        | 8, _ => rfl
    obtain ⟨W, hWe, hWs, hWb, hM, hK, hZ⟩ := hW
    have hWs1 : w.heap.size + 3 ≤ W.heap.size := by have := hWs.out; omega
    have H := Lib.hid (show RdL W W.heap.size m.A 1 encString m.x from (h.below hWb.out (Nat.le_refl _)).more hWb.out.size)
    have Hs := Lib.hid hs
    clear h hs
    have m0 : W.cell? ⟨w.heap.size, 0, none⟩ = some (.string m.name) := hM.out.cell (i := 0) (by omega)
    have m1 : W.cell? ⟨w.heap.size, 1, none⟩ = some (.int .i64 m.stage) := hM.out.cell (i := 1) (by omega)
    have m2 : W.cell? ⟨w.heap.size, 2, none⟩ = some (.slice m.A m.x.length m.c) := hM.out.cell (i := 2) (by omega)
    have k0 : W.cell? ⟨w.heap.size + 1, 0, none⟩ = some (.string b) := hK.out.cell (i := 0) (by omega)
    have k1 : W.cell? ⟨w.heap.size + 1, 1, none⟩ = some (.string s) := hK.out.cell (i := 1) (by omega)
    go_enter Tryz.func47, Tryz.ntmps47
    go_wp2_with fail
    rw [hWe.out]
    clear hWe
    go_wp2_with (go_at_call 70; refine (goodCalls_any m b s _ H.out hn hl Hs.out hb hss).mono ?_; rintro e w1 ⟨rfl, hb1⟩; have hBW : Hid (Below W.heap.size W w1) := Lib.hid hb1; have m0 := (hb1.cell (p := ⟨w.heap.size, 0, none⟩) (show w.heap.size < W.heap.size by omega)).trans m0; have m1 := (hb1.cell (p := ⟨w.heap.size, 1, none⟩) (show w.heap.size < W.heap.size by omega)).trans m1; have m2 := (hb1.cell (p := ⟨w.heap.size, 2, none⟩) (show w.heap.size < W.heap.size by omega)).trans m2; have k0 := (hb1.cell (p := ⟨w.heap.size + 1, 0, none⟩) (show w.heap.size + 1 < W.heap.size by omega)).trans k0; have k1 := (hb1.cell (p := ⟨w.heap.size + 1, 1, none⟩) (show w.heap.size + 1 < W.heap.size by omega)).trans k1; have hCr := hZ.out.later hBW.out; have r0 := hCr.cell (i := 0) (by omega); have rf0 := hCr.free (i := 0) (by omega); have r1 := hCr.cell (i := 1) (by omega); have rf1 := hCr.free (i := 1) (by omega); have r2 := hCr.cell (i := 2) (by omega); have rf2 := hCr.free (i := 2) (by omega); have r3 := hCr.cell (i := 3) (by omega); have rf3 := hCr.free (i := 3) (by omega); have r4 := hCr.cell (i := 4) (by omega); have rf4 := hCr.free (i := 4) (by omega); have r5 := hCr.cell (i := 5) (by omega); have rf5 := hCr.free (i := 5) (by omega); have r6 := hCr.cell (i := 6) (by omega); have rf6 := hCr.free (i := 6) (by omega); have r7 := hCr.cell (i := 7) (by omega); have rf7 := hCr.free (i := 7) (by omega); have r8 := hCr.cell (i := 8) (by omega); have rf8 := hCr.free (i := 8) (by omega); clear hCr)
    have hWsz := hBW.out.size
    refine bodyPost_ret (v := .tuple #[.agg #[Value.string ⟨#[]⟩, .int .i64 0, .slice none 0 0, .string ⟨#[]⟩, .string ⟨#[]⟩, .int .i64 0, .string ⟨#[]⟩, .string ⟨#[]⟩, .slice none 0 0], .bool false]) (by simp [results, Tryz.results47, go_sem, r0, r1, r2, r3, r4, r5, r6, r7, r8, rf0, rf1, rf2, rf3, rf4, rf5, rf6, rf7, rf8]) rfl ?_
    have kk : Chg (w.heap.size + 1 + 1) (w.heap.size + 1 + 1 + 1) w1 (setN w1 (w.heap.size + 1 + 1) 0 [Value.string ⟨#[]⟩, .int .i64 0, .slice none 0 0, .string ⟨#[]⟩, .string ⟨#[]⟩, .int .i64 0, .string ⟨#[]⟩, .string ⟨#[]⟩, .slice none 0 0]) := Chg.setN (Nat.le_refl _) (Nat.lt_succ_self _) _ (Chg.refl _ _ w1)
    have hBB := Below.chg (hWb.out.trans (hBW.out.mono hWb.out.size)) kk (by omega) (by omega)
    exact ⟨_, by unfold newD; rw [if_neg C0.out], by unfold newD; rw [if_neg C0.out]; exact BdAt.zero _ _ _ hBB.size, hBB⟩
set_option maxHeartbeats 1600000 in
theorem sNewBand_any (m : Mth) (b s : ByteArray) (w : World) (h : RdL w w.heap.size m.A 1 encString m.x) (hn : m.name.size ≤ 1048576) (hl : m.x.length ≤ 1048576) (hs : ∀ x ∈ m.x, String_small 1048576 x) (hb : b.size ≤ 1048576) (hss : s.size ≤ 1048576) : Calls Tryz.prog 48 #[.agg #[.string m.name, .int .i64 m.stage, .slice m.A m.x.length m.c], .agg #[.string b, .string s]] w fun e w' => BdRet (newD m b s).1 (newD m b s).2 w e w' := by
  by_cases cm : methP m
  · have em := B_t cm
    by_cases c0 : callsP m b s
    · have e0 := B_t c0
      have C0 := Lib.hid c0
      have h0 : 0 < m.x.length := by have := c0.1.2.1.1; omega
      have hst := c0.1.2.stage
      have hs1 : 1 ≤ m.stage := by have := hst.1; omega
      have hs2 : m.stage ≤ 8 := hst.2
      clear c0 hst cm
      have hW : ∃ W : World, Hid ((((w.alloc (.cells #[.string m.name, .int .i64 m.stage, .slice m.A m.x.length m.c] 26)).alloc (.cells #[.string b, .string s] 28)).alloc (.cells #[Value.string ⟨#[]⟩, .int .i64 0, .slice none 0 0, .string ⟨#[]⟩, .string ⟨#[]⟩, .int .i64 0, .string ⟨#[]⟩, .string ⟨#[]⟩, .slice none 0 0] 36)) = W) ∧ Hid (W.heap.size = w.heap.size + 3) ∧ Hid (Below w.heap.size w W) ∧ Hid (Cells W w.heap.size 3 (fun i => (#[.string m.name, .int .i64 m.stage, .slice m.A m.x.length m.c] : Array Value).getD i undef)) ∧ Hid (Cells W (w.heap.size + 1) 2 (fun i => (#[Value.string b, .string s] : Array Value).getD i undef)) ∧ Hid (Cells W (w.heap.size + 1 + 1) 9 (fun i => (#[Value.string ⟨#[]⟩, .int .i64 0, .slice none 0 0, .string ⟨#[]⟩, .string ⟨#[]⟩, .int .i64 0, .string ⟨#[]⟩, .string ⟨#[]⟩, .slice none 0 0] : Array Value).getD i undef)) := by
        have z1 : w.heap.size + 1 = (w.alloc (.cells #[.string m.name, .int .i64 m.stage, .slice m.A m.x.length m.c] 26)).heap.size := by simp
        have z2 : w.heap.size + 1 + 1 = ((w.alloc (.cells #[.string m.name, .int .i64 m.stage, .slice m.A m.x.length m.c] 26)).alloc (.cells #[.string b, .string s] 28)).heap.size := by simp
        refine ⟨_, Lib.hid rfl, Lib.hid (by simp), Lib.hid ((((Below.refl _ _).alloc (Nat.le_refl _) _).alloc (by simp) _).alloc (by simp; omega) _), Lib.hid ?_, Lib.hid ?_, Lib.hid ?_⟩
        · refine ((Cells.new w _ _ 3 _ (fun i hi => ?_)).alloc _).alloc _
          match i, hi with
          | 0, _ => rfl
          | 1, _ => rfl
          | 2, _ => rfl
        · rw [z1]
          refine (Cells.new _ _ _ 2 _ (fun i hi => ?_)).alloc _
          match i, hi with
          | 0, _ => rfl
          | 1, _ => rfl
        · rw [z2]
          refine Cells.new _ _ _ 9 _ (fun i hi => ?_)
          match i, hi with
          | 0, _ => rfl
          | 1, _ => rfl
          | 2, _ => rfl
          | 3, _ => rfl
          | 4, _ => rfl
          | 5, _ => rfl
          | 6, _ => rfl
          | 7, _ => rfl
          | 8, _ => rfl
      obtain ⟨W, hWe, hWs, hWb, hM, hK, hZ⟩ := hW
      have hWs1 : w.heap.size + 3 ≤ W.heap.size := by have := hWs.out; omega
      have H := Lib.hid (show RdL W W.heap.size m.A 1 encString m.x from (h.below hWb.out (Nat.le_refl _)).more hWb.out.size)
      have Hs := Lib.hid hs
      clear h hs
      have m0 : W.cell? ⟨w.heap.size, 0, none⟩ = some (.string m.name) := hM.out.cell (i := 0) (by omega)
      have m1 : W.cell? ⟨w.heap.size, 1, none⟩ = some (.int .i64 m.stage) := hM.out.cell (i := 1) (by omega)
      have m2 : W.cell? ⟨w.heap.size, 2, none⟩ = some (.slice m.A m.x.length m.c) := hM.out.cell (i := 2) (by omega)
      have k0 : W.cell? ⟨w.heap.size + 1, 0, none⟩ = some (.string b) := hK.out.cell (i := 0) (by omega)
      have k1 : W.cell? ⟨w.heap.size + 1, 1, none⟩ = some (.string s) := hK.out.cell (i := 1) (by omega)
      go_enter Tryz.func48, Tryz.ntmps48
      go_wp2_with fail
      rw [hWe.out]
      clear hWe
      go_wp2_with (first | (go_at_call 60; refine (l4Good_any m _ H.out hn hl Hs.out).mono ?_; rintro e w8 ⟨rfl, hb8⟩; have hB8 : Hid (Below W.heap.size W w8) := Lib.hid hb8; have hsz8 := hb8.size; have m0 := (hb8.cell (p := ⟨w.heap.size, 0, none⟩) (show w.heap.size < W.heap.size by omega)).trans m0; have m1 := (hb8.cell (p := ⟨w.heap.size, 1, none⟩) (show w.heap.size < W.heap.size by omega)).trans m1; have m2 := (hb8.cell (p := ⟨w.heap.size, 2, none⟩) (show w.heap.size < W.heap.size by omega)).trans m2; have k0 := (hb8.cell (p := ⟨w.heap.size + 1, 0, none⟩) (show w.heap.size + 1 < W.heap.size by omega)).trans k0; have k1 := (hb8.cell (p := ⟨w.heap.size + 1, 1, none⟩) (show w.heap.size + 1 < W.heap.size by omega)).trans k1) | (go_at_call 61; refine (sGoodCalls_any m b s _ ((H.out.below hB8.out (Nat.le_refl _)).more hB8.out.size) hn hl Hs.out hb hss).mono ?_; rintro e w1 ⟨rfl, hb1⟩; have hBW : Hid (Below W.heap.size W w1) := Lib.hid (hB8.out.trans (hb1.mono hB8.out.size)); have m0 := (hb1.cell (p := ⟨w.heap.size, 0, none⟩) (show w.heap.size < w8.heap.size by omega)).trans m0; have m1 := (hb1.cell (p := ⟨w.heap.size, 1, none⟩) (show w.heap.size < w8.heap.size by omega)).trans m1; have m2 := (hb1.cell (p := ⟨w.heap.size, 2, none⟩) (show w.heap.size < w8.heap.size by omega)).trans m2; have k0 := (hb1.cell (p := ⟨w.heap.size + 1, 0, none⟩) (show w.heap.size + 1 < w8.heap.size by omega)).trans k0; have k1 := (hb1.cell (p := ⟨w.heap.size + 1, 1, none⟩) (show w.heap.size + 1 < w8.heap.size by omega)).trans k1) | (go_at_call 65; refine (l24New_any m b s _ ((H.out.below hBW.out (Nat.le_refl _)).more hBW.out.size) hl h0 hs1 hs2).mono ?_; rintro e w2 hbd; obtain ⟨A1, c1, A3, c3, gs, rfl, hg1, hg2, ho1, ho3, hb2⟩ := hbd; have HO1 := Lib.hid ho1; have HO3 := Lib.hid ho3; clear ho1 ho3; have hCr := (hZ.out.later (hBW.out)).later hb2; have r0 := hCr.cell (i := 0) (by omega); have rf0 := hCr.free (i := 0) (by omega); have r1 := hCr.cell (i := 1) (by omega); have rf1 := hCr.free (i := 1) (by omega); have r2 := hCr.cell (i := 2) (by omega); have rf2 := hCr.free (i := 2) (by omega); have r3 := hCr.cell (i := 3) (by omega); have rf3 := hCr.free (i := 3) (by omega); have r4 := hCr.cell (i := 4) (by omega); have rf4 := hCr.free (i := 4) (by omega); have r5 := hCr.cell (i := 5) (by omega); have rf5 := hCr.free (i := 5) (by omega); have r6 := hCr.cell (i := 6) (by omega); have rf6 := hCr.free (i := 6) (by omega); have r7 := hCr.cell (i := 7) (by omega); have rf7 := hCr.free (i := 7) (by omega); have r8 := hCr.cell (i := 8) (by omega); have rf8 := hCr.free (i := 8) (by omega); clear hCr))
      have hsz := hb2.size
      have hWsz := hBW.out.size
      refine bodyPost_ret (v := .tuple #[.agg #[.string m.name, .int .i64 m.stage, .slice A1 m.x.length c1, .string b, .string s, .int .i64 0, .string pS, .string (roundsS m.stage), .slice A3 (newRs m.stage.toNat).length c3], .bool true]) (by simp [results, Tryz.results48, go_sem, r0, r1, r2, r3, r4, r5, r6, r7, r8, rf0, rf1, rf2, rf3, rf4, rf5, rf6, rf7, rf8]) rfl ?_
      have kk : Chg (w.heap.size + 1 + 1) (w.heap.size + 1 + 1 + 1) w2 (setN w2 (w.heap.size + 1 + 1) 0 [.string m.name, .int .i64 m.stage, .slice A1 m.x.length c1, .string b, .string s, .int .i64 0, .string pS, .string (roundsS m.stage), .slice A3 (newRs m.stage.toNat).length c3]) := Chg.setN (Nat.le_refl _) (Nat.lt_succ_self _) _ (Chg.refl _ _ w2)
      have hO1 := (HO1.out.chg kk (.inr (by omega))).mono (show w.heap.size ≤ w1.heap.size by omega) (Nat.le_refl _)
      have hO3 := (HO3.out.chg kk (.inr (by omega))).mono (Nat.le_refl _) kk.size
      have hBB := Below.chg ((hWb.out.trans (hBW.out.mono hWb.out.size)).trans (hb2.mono (by omega))) kk (by omega) (by omega)
      have hks := kk.size
      exact ⟨_, by unfold newD; rw [if_pos C0.out], by unfold newD; rw [if_pos C0.out]; exact ⟨A1, c1, A3, c3, gs, rfl, by omega, Nat.le_trans hg2 kk.size, hO1, hO3⟩, hBB⟩
    · have e0 := B_f c0
      have C0 := Lib.hid c0
      clear c0 cm
      have hW : ∃ W : World, Hid ((((w.alloc (.cells #[.string m.name, .int .i64 m.stage, .slice m.A m.x.length m.c] 26)).alloc (.cells #[.string b, .string s] 28)).alloc (.cells #[Value.string ⟨#[]⟩, .int .i64 0, .slice none 0 0, .string ⟨#[]⟩, .string ⟨#[]⟩, .int .i64 0, .string ⟨#[]⟩, .string ⟨#[]⟩, .slice none 0 0] 36)) = W) ∧ Hid (W.heap.size = w.heap.size + 3) ∧ Hid (Below w.heap.size w W) ∧ Hid (Cells W w.heap.size 3 (fun i => (#[.string m.name, .int .i64 m.stage, .slice m.A m.x.length m.c] : Array Value).getD i undef)) ∧ Hid (Cells W (w.heap.size + 1) 2 (fun i => (#[Value.string b, .string s] : Array Value).getD i undef)) ∧ Hid (Cells W (w.heap.size + 1 + 1) 9 (fun i => (#[Value.string ⟨#[]⟩, .int .i64 0, .slice none 0 0, .string ⟨#[]⟩, .string ⟨#[]⟩, .int .i64 0, .string ⟨#[]⟩, .string ⟨#[]⟩, .slice none 0 0] : Array Value).getD i undef)) := by
        have z1 : w.heap.size + 1 = (w.alloc (.cells #[.string m.name, .int .i64 m.stage, .slice m.A m.x.length m.c] 26)).heap.size := by simp
        have z2 : w.heap.size + 1 + 1 = ((w.alloc (.cells #[.string m.name, .int .i64 m.stage, .slice m.A m.x.length m.c] 26)).alloc (.cells #[.string b, .string s] 28)).heap.size := by simp
        refine ⟨_, Lib.hid rfl, Lib.hid (by simp), Lib.hid ((((Below.refl _ _).alloc (Nat.le_refl _) _).alloc (by simp) _).alloc (by simp; omega) _), Lib.hid ?_, Lib.hid ?_, Lib.hid ?_⟩
        · refine ((Cells.new w _ _ 3 _ (fun i hi => ?_)).alloc _).alloc _
          match i, hi with
          | 0, _ => rfl
          | 1, _ => rfl
          | 2, _ => rfl
        · rw [z1]
          refine (Cells.new _ _ _ 2 _ (fun i hi => ?_)).alloc _
          match i, hi with
          | 0, _ => rfl
          | 1, _ => rfl
        · rw [z2]
          refine Cells.new _ _ _ 9 _ (fun i hi => ?_)
          match i, hi with
          | 0, _ => rfl
          | 1, _ => rfl
          | 2, _ => rfl
          | 3, _ => rfl
          | 4, _ => rfl
          | 5, _ => rfl
          | 6, _ => rfl
          | 7, _ => rfl
          | 8, _ => rfl
      obtain ⟨W, hWe, hWs, hWb, hM, hK, hZ⟩ := hW
      have hWs1 : w.heap.size + 3 ≤ W.heap.size := by have := hWs.out; omega
      have H := Lib.hid (show RdL W W.heap.size m.A 1 encString m.x from (h.below hWb.out (Nat.le_refl _)).more hWb.out.size)
      have Hs := Lib.hid hs
      clear h hs
      have m0 : W.cell? ⟨w.heap.size, 0, none⟩ = some (.string m.name) := hM.out.cell (i := 0) (by omega)
      have m1 : W.cell? ⟨w.heap.size, 1, none⟩ = some (.int .i64 m.stage) := hM.out.cell (i := 1) (by omega)
      have m2 : W.cell? ⟨w.heap.size, 2, none⟩ = some (.slice m.A m.x.length m.c) := hM.out.cell (i := 2) (by omega)
      have k0 : W.cell? ⟨w.heap.size + 1, 0, none⟩ = some (.string b) := hK.out.cell (i := 0) (by omega)
      have k1 : W.cell? ⟨w.heap.size + 1, 1, none⟩ = some (.string s) := hK.out.cell (i := 1) (by omega)
      go_enter Tryz.func48, Tryz.ntmps48
      go_wp2_with fail
      rw [hWe.out]
      clear hWe
      go_wp2_with (first | (go_at_call 60; refine (l4Good_any m _ H.out hn hl Hs.out).mono ?_; rintro e w8 ⟨rfl, hb8⟩; have hB8 : Hid (Below W.heap.size W w8) := Lib.hid hb8; have hsz8 := hb8.size; have m0 := (hb8.cell (p := ⟨w.heap.size, 0, none⟩) (show w.heap.size < W.heap.size by omega)).trans m0; have m1 := (hb8.cell (p := ⟨w.heap.size, 1, none⟩) (show w.heap.size < W.heap.size by omega)).trans m1; have m2 := (hb8.cell (p := ⟨w.heap.size, 2, none⟩) (show w.heap.size < W.heap.size by omega)).trans m2; have k0 := (hb8.cell (p := ⟨w.heap.size + 1, 0, none⟩) (show w.heap.size + 1 < W.heap.size by omega)).trans k0; have k1 := (hb8.cell (p := ⟨w.heap.size + 1, 1, none⟩) (show w.heap.size + 1 < W.heap.size by omega)).trans k1) | (go_at_call 61; refine (sGoodCalls_any m b s _ ((H.out.below hB8.out (Nat.le_refl _)).more hB8.out.size) hn hl Hs.out hb hss).mono ?_; rintro e w1 ⟨rfl, hb1⟩; have hBW : Hid (Below W.heap.size W w1) := Lib.hid (hB8.out.trans (hb1.mono hB8.out.size)); have m0 := (hb1.cell (p := ⟨w.heap.size, 0, none⟩) (show w.heap.size < w8.heap.size by omega)).trans m0; have m1 := (hb1.cell (p := ⟨w.heap.size, 1, none⟩) (show w.heap.size < w8.heap.size by omega)).trans m1; have m2 := (hb1.cell (p := ⟨w.heap.size, 2, none⟩) (show w.heap.size < w8.heap.size by omega)).trans m2; have k0 := (hb1.cell (p := ⟨w.heap.size + 1, 0, none⟩) (show w.heap.size + 1 < w8.heap.size by omega)).trans k0; have k1 := (hb1.cell (p := ⟨w.heap.size + 1, 1, none⟩) (show w.heap.size + 1 < w8.heap.size by omega)).trans k1; have hCr := hZ.out.later hBW.out; have r0 := hCr.cell (i := 0) (by omega); have rf0 := hCr.free (i := 0) (by omega); have r1 := hCr.cell (i := 1) (by omega); have rf1 := hCr.free (i := 1) (by omega); have r2 := hCr.cell (i := 2) (by omega); have rf2 := hCr.free (i := 2) (by omega); have r3 := hCr.cell (i := 3) (by omega); have rf3 := hCr.free (i := 3) (by omega); have r4 := hCr.cell (i := 4) (by omega); have rf4 := hCr.free (i := 4) (by omega); have r5 := hCr.cell (i := 5) (by omega); have rf5 := hCr.free (i := 5) (by omega); have r6 := hCr.cell (i := 6) (by omega); have rf6 := hCr.free (i := 6) (by omega); have r7 := hCr.cell (i := 7) (by omega); have rf7 := hCr.free (i := 7) (by omega); have r8 := hCr.cell (i := 8) (by omega); have rf8 := hCr.free (i := 8) (by omega); clear hCr))
      have hWsz := hBW.out.size
      refine bodyPost_ret (v := .tuple #[.agg #[Value.string ⟨#[]⟩, .int .i64 0, .slice none 0 0, .string ⟨#[]⟩, .string ⟨#[]⟩, .int .i64 0, .string ⟨#[]⟩, .string ⟨#[]⟩, .slice none 0 0], .bool false]) (by simp [results, Tryz.results48, go_sem, r0, r1, r2, r3, r4, r5, r6, r7, r8, rf0, rf1, rf2, rf3, rf4, rf5, rf6, rf7, rf8]) rfl ?_
      have kk : Chg (w.heap.size + 1 + 1) (w.heap.size + 1 + 1 + 1) w1 (setN w1 (w.heap.size + 1 + 1) 0 [Value.string ⟨#[]⟩, .int .i64 0, .slice none 0 0, .string ⟨#[]⟩, .string ⟨#[]⟩, .int .i64 0, .string ⟨#[]⟩, .string ⟨#[]⟩, .slice none 0 0]) := Chg.setN (Nat.le_refl _) (Nat.lt_succ_self _) _ (Chg.refl _ _ w1)
      have hBB := Below.chg (hWb.out.trans (hBW.out.mono hWb.out.size)) kk (by omega) (by omega)
      exact ⟨_, by unfold newD; rw [if_neg C0.out], by unfold newD; rw [if_neg C0.out]; exact BdAt.zero _ _ _ hBB.size, hBB⟩
  · have em := B_f cm
    have C0 := Lib.hid (show ¬ callsP m b s from fun h => cm h.1)
    clear cm
    have hW : ∃ W : World, Hid ((((w.alloc (.cells #[.string m.name, .int .i64 m.stage, .slice m.A m.x.length m.c] 26)).alloc (.cells #[.string b, .string s] 28)).alloc (.cells #[Value.string ⟨#[]⟩, .int .i64 0, .slice none 0 0, .string ⟨#[]⟩, .string ⟨#[]⟩, .int .i64 0, .string ⟨#[]⟩, .string ⟨#[]⟩, .slice none 0 0] 36)) = W) ∧ Hid (W.heap.size = w.heap.size + 3) ∧ Hid (Below w.heap.size w W) ∧ Hid (Cells W w.heap.size 3 (fun i => (#[.string m.name, .int .i64 m.stage, .slice m.A m.x.length m.c] : Array Value).getD i undef)) ∧ Hid (Cells W (w.heap.size + 1) 2 (fun i => (#[Value.string b, .string s] : Array Value).getD i undef)) ∧ Hid (Cells W (w.heap.size + 1 + 1) 9 (fun i => (#[Value.string ⟨#[]⟩, .int .i64 0, .slice none 0 0, .string ⟨#[]⟩, .string ⟨#[]⟩, .int .i64 0, .string ⟨#[]⟩, .string ⟨#[]⟩, .slice none 0 0] : Array Value).getD i undef)) := by
      have z1 : w.heap.size + 1 = (w.alloc (.cells #[.string m.name, .int .i64 m.stage, .slice m.A m.x.length m.c] 26)).heap.size := by simp
      have z2 : w.heap.size + 1 + 1 = ((w.alloc (.cells #[.string m.name, .int .i64 m.stage, .slice m.A m.x.length m.c] 26)).alloc (.cells #[.string b, .string s] 28)).heap.size := by simp
      refine ⟨_, Lib.hid rfl, Lib.hid (by simp), Lib.hid ((((Below.refl _ _).alloc (Nat.le_refl _) _).alloc (by simp) _).alloc (by simp; omega) _), Lib.hid ?_, Lib.hid ?_, Lib.hid ?_⟩
      · refine ((Cells.new w _ _ 3 _ (fun i hi => ?_)).alloc _).alloc _
        match i, hi with
        | 0, _ => rfl
        | 1, _ => rfl
        | 2, _ => rfl
      · rw [z1]
        refine (Cells.new _ _ _ 2 _ (fun i hi => ?_)).alloc _
        match i, hi with
        | 0, _ => rfl
        | 1, _ => rfl
      · rw [z2]
        refine Cells.new _ _ _ 9 _ (fun i hi => ?_)
        match i, hi with
        | 0, _ => rfl
        | 1, _ => rfl
        | 2, _ => rfl
        | 3, _ => rfl
        | 4, _ => rfl
        | 5, _ => rfl
        | 6, _ => rfl
        | 7, _ => rfl
        | 8, _ => rfl
    obtain ⟨W, hWe, hWs, hWb, hM, hK, hZ⟩ := hW
    have hWs1 : w.heap.size + 3 ≤ W.heap.size := by have := hWs.out; omega
    have H := Lib.hid (show RdL W W.heap.size m.A 1 encString m.x from (h.below hWb.out (Nat.le_refl _)).more hWb.out.size)
    have Hs := Lib.hid hs
    clear h hs
    have m0 : W.cell? ⟨w.heap.size, 0, none⟩ = some (.string m.name) := hM.out.cell (i := 0) (by omega)
    have m1 : W.cell? ⟨w.heap.size, 1, none⟩ = some (.int .i64 m.stage) := hM.out.cell (i := 1) (by omega)
    have m2 : W.cell? ⟨w.heap.size, 2, none⟩ = some (.slice m.A m.x.length m.c) := hM.out.cell (i := 2) (by omega)
    have k0 : W.cell? ⟨w.heap.size + 1, 0, none⟩ = some (.string b) := hK.out.cell (i := 0) (by omega)
    have k1 : W.cell? ⟨w.heap.size + 1, 1, none⟩ = some (.string s) := hK.out.cell (i := 1) (by omega)
    go_enter Tryz.func48, Tryz.ntmps48
    go_wp2_with fail
    rw [hWe.out]
    clear hWe
    go_wp2_with (go_at_call 60; refine (l4Good_any m _ H.out hn hl Hs.out).mono ?_; rintro e w1 ⟨rfl, hb1⟩; have hBW : Hid (Below W.heap.size W w1) := Lib.hid hb1; have m0 := (hb1.cell (p := ⟨w.heap.size, 0, none⟩) (show w.heap.size < W.heap.size by omega)).trans m0; have m1 := (hb1.cell (p := ⟨w.heap.size, 1, none⟩) (show w.heap.size < W.heap.size by omega)).trans m1; have m2 := (hb1.cell (p := ⟨w.heap.size, 2, none⟩) (show w.heap.size < W.heap.size by omega)).trans m2; have k0 := (hb1.cell (p := ⟨w.heap.size + 1, 0, none⟩) (show w.heap.size + 1 < W.heap.size by omega)).trans k0; have k1 := (hb1.cell (p := ⟨w.heap.size + 1, 1, none⟩) (show w.heap.size + 1 < W.heap.size by omega)).trans k1; have hCr := hZ.out.later hBW.out; have r0 := hCr.cell (i := 0) (by omega); have rf0 := hCr.free (i := 0) (by omega); have r1 := hCr.cell (i := 1) (by omega); have rf1 := hCr.free (i := 1) (by omega); have r2 := hCr.cell (i := 2) (by omega); have rf2 := hCr.free (i := 2) (by omega); have r3 := hCr.cell (i := 3) (by omega); have rf3 := hCr.free (i := 3) (by omega); have r4 := hCr.cell (i := 4) (by omega); have rf4 := hCr.free (i := 4) (by omega); have r5 := hCr.cell (i := 5) (by omega); have rf5 := hCr.free (i := 5) (by omega); have r6 := hCr.cell (i := 6) (by omega); have rf6 := hCr.free (i := 6) (by omega); have r7 := hCr.cell (i := 7) (by omega); have rf7 := hCr.free (i := 7) (by omega); have r8 := hCr.cell (i := 8) (by omega); have rf8 := hCr.free (i := 8) (by omega); clear hCr)
    have hWsz := hBW.out.size
    refine bodyPost_ret (v := .tuple #[.agg #[Value.string ⟨#[]⟩, .int .i64 0, .slice none 0 0, .string ⟨#[]⟩, .string ⟨#[]⟩, .int .i64 0, .string ⟨#[]⟩, .string ⟨#[]⟩, .slice none 0 0], .bool false]) (by simp [results, Tryz.results48, go_sem, r0, r1, r2, r3, r4, r5, r6, r7, r8, rf0, rf1, rf2, rf3, rf4, rf5, rf6, rf7, rf8]) rfl ?_
    have kk : Chg (w.heap.size + 1 + 1) (w.heap.size + 1 + 1 + 1) w1 (setN w1 (w.heap.size + 1 + 1) 0 [Value.string ⟨#[]⟩, .int .i64 0, .slice none 0 0, .string ⟨#[]⟩, .string ⟨#[]⟩, .int .i64 0, .string ⟨#[]⟩, .string ⟨#[]⟩, .slice none 0 0]) := Chg.setN (Nat.le_refl _) (Nat.lt_succ_self _) _ (Chg.refl _ _ w1)
    have hBB := Below.chg (hWb.out.trans (hBW.out.mono hWb.out.size)) kk (by omega) (by omega)
    exact ⟨_, by unfold newD; rw [if_neg C0.out], by unfold newD; rw [if_neg C0.out]; exact BdAt.zero _ _ _ hBB.size, hBB⟩
end Go.Proofs.YtkegbbndmfnolaaGreatDoor

/-
  A law's argument of bytes.
-/
namespace Go.Proofs.YtkegbbndmfnolaaGreatDoor
open Go.RowKit Go.ChangeShapes Go.WideShapes
set_option linter.unusedVariables false
set_option linter.unusedSimpArgs false
set_option maxRecDepth 100000
def Byte_small (lim : Int) (x : Int) : Prop := 0 ≤ x ∧ x < 256
theorem Byte_el {H : Type} {en : TypeId × Value → H} {w : World} {base : Nat} {spare : Nat → Bool} {held : Bool} (n : Nat) (cs : List Value) (y : DataW H × List MemPlace) (h : DataW.trod en Tryz.prog w base spare held n 5 cs = some y) : ∃ x : Int, cs = encByte x ∧ Byte_small 9223372036854775807 x := by
  obtain ⟨a, rfl, _, hw⟩ := DataW.trod_int Tryz.underlying5 h
  refine ⟨a, rfl, ?_⟩
  simp [Lit.wf, IntKind.min, IntKind.max, IntKind.signed, IntKind.bits] at hw
  unfold Byte_small; omega
end Go.Proofs.YtkegbbndmfnolaaGreatDoor
