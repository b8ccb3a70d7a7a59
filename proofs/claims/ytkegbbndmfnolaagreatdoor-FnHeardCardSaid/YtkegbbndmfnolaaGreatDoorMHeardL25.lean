import Derived.Test.YtkegbbndmfnolaaGreatDoorMHeardL24
/-
  Contracts: SpokenFor of both sides.
-/
namespace Go.Proofs.YtkegbbndmfnolaaGreatDoor
open Go.RowKit
set_option linter.unusedVariables false
set_option linter.unusedSimpArgs false
set_option maxRecDepth 100000







set_option maxHeartbeats 3200000 in
theorem l26ForC_any (m : Mth) (t : ByteArray) (first : Int) (w : World) (hN40 : m.x.length ≤ 40) (hts : t.size ≤ 60) (hf1 : 1 ≤ first) (hf2 : first ≤ 20) :
    Calls Tryz.prog 100 #[.agg #[Value.string m.name, .int .i64 m.stage, .slice m.A m.x.length m.c], .string t, .int .i64 first] w fun e w' => ∃ A c, e = .returned (.slice A (sayL m.x.length first t).length c) ∧ (sayL m.x.length first t).length ≤ c ∧ OwnL w' w.heap.size w'.heap.size A 2 Spk.enc (sayL m.x.length first t) ∧ Below w.heap.size w w' := by
  obtain ⟨N, hN⟩ : ∃ N, Hid (m.x.length = N) := ⟨_, Lib.hid rfl⟩
  have hN2 : N ≤ 40 := by rw [← hN.out]; exact hN40
  have hW : ∃ W : World, Hid (w.alloc (.cells #[Value.string m.name, .int .i64 m.stage, .slice m.A m.x.length m.c] 26) = W) ∧ Hid (Below w.heap.size w W) ∧ w.heap.size + 1 ≤ W.heap.size ∧ Hid (Cells W w.heap.size 3 (fun i => (#[Value.string m.name, .int .i64 m.stage, .slice m.A m.x.length m.c] : Array Value).getD i undef)) :=
    ⟨_, Lib.hid rfl, Lib.hid ((Below.refl _ _).alloc (Nat.le_refl _) _), by simp, Lib.hid (Cells.newD _ #[Value.string m.name, .int .i64 m.stage, .slice m.A m.x.length m.c] _)⟩
  obtain ⟨W, hWe, hWb, hWs, hM⟩ := hW
  have u2 : W.cell? ⟨w.heap.size, 2, none⟩ = some (.slice m.A N m.c) := by rw [← hN.out]; exact hM.out.cell (i := 2) (by omega)
  have g0 := Lib.hid (spk_lit W first N t (b := W.heap.size) (Nat.le_refl _))
  have hL : Hid (sayL m.x.length first t = sayTo N first t t.size ++ [⟨first + (N : Int) * (t.size : Int), allW⟩, ⟨first + (N : Int) * (t.size : Int) + 1, standW⟩]) := Lib.hid (by rw [hN.out]; rfl)
  generalize hSL : sayL m.x.length first t = SL at *
  have HSL := Lib.hid hSL
  clear hSL hN40
  go_enter Tryz.func100, Tryz.ntmps100
  go_upto_region 1 with fail
  rw [hWe.out]
  clear hWe
  go_wp2_with fail
  go_loopw [8, 9] (fun q j wr => ∃ k : Nat, k ≤ t.size ∧ j = .int .i64 k ∧ Grow wr W.heap.size 108 2 Spk.enc q (sayTo N first t k) ∧ Below W.heap.size W wr) (fun _ j _ => t.size - (intOf j).toNat)
  case atStart => exact ⟨0, by omega, by rfl, g0.out, (Below.refl _ _).alloc (Nat.le_refl _) _⟩
  case round =>
    obtain ⟨k, hk, rfl, hgr, hbl⟩ := hrel
    have Hg := Lib.hid hgr
    have Hb0 := Lib.hid hbl
    have hg0 := hbl.size
    have hlen : (sayTo N first t k).length ≤ 61 := by have := sayTo_len N first t k; omega
    clear hgr hbl g0 u2
    by_cases hlt : k < t.size
    · have hsu := Lib.hid (sayTo_succ N first t k)
      have hmb := mul_bd1 hN2 (show k < 60 by omega)
      have hm0 := hmb.1
      have hm1 := hmb.2
      clear hmb
      by_cases e98 : bat t k = 98
      · have d1 : (bat t k == 98) = true := beq_iff_eq.2 e98
        rw [e98, sayAt_b] at hsu
        clear e98
        go_wp2_with (at_builtin; go_loud (refine wpList_push rfl (.tmp 37) (.tmp 40) 52 rfl W.heap.size 108 _ 2 24 Spk.enc rfl Spoken_info rfl (by omega) u8 (sayTo N first t k) [⟨sayRow N first k, bobW⟩] 1 rfl rfl (by simp) (Hg.out) rfl Spk_enc_len (by simp [Value.oneCell']) (by first | omega | (simp; omega)) (by omega) (by first | omega | (simp; omega)) ?_; intro v' w2 hg2 hb2 _))
        go_roundw
        case rel => exact ⟨k + 1, by omega, by go_num, by rw [hsu.out]; exact hg2, Hb0.out.trans hb2⟩
        case measure => simp [intOf]; omega
      · have d1 : (bat t k == 98) = false := beq_eq_false_iff_ne.2 e98
        by_cases e115 : bat t k = 115
        · have d2 : (bat t k == 115) = true := beq_iff_eq.2 e115
          rw [e115, sayAt_s] at hsu
          clear e98 e115
          go_wp2_with (at_builtin; go_loud (refine wpList_push rfl (.tmp 44) (.tmp 47) 52 rfl W.heap.size 108 _ 2 24 Spk.enc rfl Spoken_info rfl (by omega) u8 (sayTo N first t k) [⟨sayRow N first k, singleW⟩] 1 rfl rfl (by simp) (Hg.out) rfl Spk_enc_len (by simp [Value.oneCell']) (by first | omega | (simp; omega)) (by omega) (by first | omega | (simp; omega)) ?_; intro v' w2 hg2 hb2 _))
          go_roundw
          case rel => exact ⟨k + 1, by omega, by go_num, by rw [hsu.out]; exact hg2, Hb0.out.trans hb2⟩
          case measure => simp [intOf]; omega
        · have d2 : (bat t k == 115) = false := beq_eq_false_iff_ne.2 e115
          rw [sayAt_p _ _ _ _ e98 e115, List.append_nil] at hsu
          clear e98 e115
          go_wp2
          go_roundw
          case rel => exact ⟨k + 1, by omega, by go_num, by rw [hsu.out]; exact Hg.out, Hb0.out⟩
          case measure => simp [intOf]; omega
    · obtain rfl : k = t.size := by omega
      have hmb := mul_bd hN2 hts
      have hm0 := hmb.1
      have hm1 := hmb.2
      obtain ⟨last, hlast⟩ : ∃ last, Hid (first + (N : Int) * (t.size : Int) = last) := ⟨_, Lib.hid rfl⟩
      rw [hlast.out] at hL
      have hl1 : 1 ≤ last ∧ last ≤ 2420 := by rw [← hlast.out]; omega
      clear hmb
      have hlb := hlast.out
      go_wp2_with (at_builtin; go_loud (refine wpList_push rfl (.tmp 55) (.tmp 61) 52 rfl W.heap.size 108 _ 2 24 Spk.enc rfl Spoken_info rfl (by omega) u8 (sayTo N first t t.size) [⟨last, allW⟩, ⟨last + 1, standW⟩] 2 rfl rfl (by simp) (Hg.out) rfl Spk_enc_len (by simp [Value.oneCell']) (by first | omega | (simp; omega)) (by omega) (by first | omega | (simp; omega)) ?_; intro v' w2 hg2 hb2 _))
      go_ret
      obtain ⟨A2, c2, hv, ho⟩ := hg2.own Spk_enc_len
      have hz : w.heap.size ≤ W.heap.size := by omega
      have hcq : (sayTo N first t t.size ++ [(⟨last, allW⟩ : Spk), (⟨last + 1, standW⟩ : Spk)]).length ≤ c2 := by rw [hv] at hg2; exact hg2.capI
      refine ⟨A2, c2, ?_, ?_, ?_, ?_⟩
      · rw [hL.out, hv]; rfl
      · rw [hL.out]; exact hcq
      · rw [hL.out]; exact ho.mono hz (Nat.le_refl _)
      · exact (hWb.out.trans (Hb0.out.mono hz)).trans (hb2.mono hz)
theorem l26For_any (m : Mth) (t : ByteArray) (first : Int) (w : World) (hN40 : m.x.length ≤ 40) (hts : t.size ≤ 60) (hf1 : 1 ≤ first) (hf2 : first ≤ 20) :
    Calls Tryz.prog 100 #[.agg #[Value.string m.name, .int .i64 m.stage, .slice m.A m.x.length m.c], .string t, .int .i64 first] w fun e w' => ∃ A c, e = .returned (.slice A (sayL m.x.length first t).length c) ∧ OwnL w' w.heap.size w'.heap.size A 2 Spk.enc (sayL m.x.length first t) ∧ Below w.heap.size w w' := (l26ForC_any m t first w hN40 hts hf1 hf2).mono fun e w' ⟨A, c, h1, _, h2, h3⟩ => ⟨A, c, h1, h2, h3⟩
set_option maxHeartbeats 3200000 in
theorem sSpokenForC_any (m : Mth) (b s t : ByteArray) (first : Int) (w : World) (h : MkOk m b s w) (ht : t.size ≤ 1048576) :
    Calls Tryz.prog 38 #[.agg #[Value.string m.name, .int .i64 m.stage, .slice m.A m.x.length m.c], .agg #[Value.string b, .string s], .string t, .int .i64 first] w fun e w' => SayOutC (sayR m b s t first) w e w' := by
  by_cases c1 : condP m b s
  rotate_left
  · have e1 := B_f c1
    have hR : Hid (sayR m b s t first = ([], false)) := Lib.hid (sayR_f (fun x => c1 ⟨x.1, x.2.1⟩))
    clear c1
    have hW : ∃ W : World, Hid ((w.alloc (.cells #[Value.string m.name, .int .i64 m.stage, .slice m.A m.x.length m.c] 26)).alloc (.cells #[Value.string b, .string s] 28) = W) ∧ Hid (Below w.heap.size w W) ∧ w.heap.size + 2 ≤ W.heap.size ∧ Hid (Cells W w.heap.size 3 (fun i => (#[Value.string m.name, .int .i64 m.stage, .slice m.A m.x.length m.c] : Array Value).getD i undef)) ∧ Hid (Cells W (w.heap.size + 1) 2 (fun i => (#[Value.string b, .string s] : Array Value).getD i undef)) := by
      have z1 : w.heap.size + 1 = (w.alloc (.cells #[Value.string m.name, .int .i64 m.stage, .slice m.A m.x.length m.c] 26)).heap.size := by simp
      refine ⟨_, Lib.hid rfl, Lib.hid (((Below.refl _ _).alloc (Nat.le_refl _) _).alloc (by simp) _), by simp, Lib.hid ?_, Lib.hid ?_⟩
      · exact (Cells.newD _ #[Value.string m.name, .int .i64 m.stage, .slice m.A m.x.length m.c] _).alloc _
      · rw [z1]; exact Cells.newD _ #[Value.string b, .string s] _
    obtain ⟨W, hWe, hWb, hWs, hM, hK⟩ := hW
    have H := Lib.hid (h.later hWb.out)
    clear h
    have u0 : W.cell? ⟨w.heap.size, 0, none⟩ = some (.string m.name) := hM.out.cell (i := 0) (by omega)
    have u1 : W.cell? ⟨w.heap.size, 1, none⟩ = some (.int .i64 m.stage) := hM.out.cell (i := 1) (by omega)
    have u2 : W.cell? ⟨w.heap.size, 2, none⟩ = some (.slice m.A m.x.length m.c) := hM.out.cell (i := 2) (by omega)
    have u3 : W.cell? ⟨w.heap.size + 1, 0, none⟩ = some (.string b) := hK.out.cell (i := 0) (by omega)
    have u4 : W.cell? ⟨w.heap.size + 1, 1, none⟩ = some (.string s) := hK.out.cell (i := 1) (by omega)
    go_enter Tryz.func38, Tryz.ntmps38
    go_wp2_with fail
    rw [hWe.out]
    clear hWe
    go_wp2_with (go_at_call 97; refine (l26Asked_any m b s _ H.out).mono ?_; rintro e w1 ⟨rfl, hb1⟩)
    go_ret2
    rw [hR.out]
    exact SayOutC.no rfl (hWb.out.trans (hb1.mono hWb.out.size))
  have e1 := B_t c1
  by_cases c2 : isRoundP m b s t
  rotate_left
  · have e2 := B_f c2
    have hR : Hid (sayR m b s t first = ([], false)) := Lib.hid (sayR_f (fun x => c2 ⟨⟨x.1, x.2.2.1⟩, x.2.2.2.2.1⟩))
    clear c1 c2
    have hW : ∃ W : World, Hid ((w.alloc (.cells #[Value.string m.name, .int .i64 m.stage, .slice m.A m.x.length m.c] 26)).alloc (.cells #[Value.string b, .string s] 28) = W) ∧ Hid (Below w.heap.size w W) ∧ w.heap.size + 2 ≤ W.heap.size ∧ Hid (Cells W w.heap.size 3 (fun i => (#[Value.string m.name, .int .i64 m.stage, .slice m.A m.x.length m.c] : Array Value).getD i undef)) ∧ Hid (Cells W (w.heap.size + 1) 2 (fun i => (#[Value.string b, .string s] : Array Value).getD i undef)) := by
      have z1 : w.heap.size + 1 = (w.alloc (.cells #[Value.string m.name, .int .i64 m.stage, .slice m.A m.x.length m.c] 26)).heap.size := by simp
      refine ⟨_, Lib.hid rfl, Lib.hid (((Below.refl _ _).alloc (Nat.le_refl _) _).alloc (by simp) _), by simp, Lib.hid ?_, Lib.hid ?_⟩
      · exact (Cells.newD _ #[Value.string m.name, .int .i64 m.stage, .slice m.A m.x.length m.c] _).alloc _
      · rw [z1]; exact Cells.newD _ #[Value.string b, .string s] _
    obtain ⟨W, hWe, hWb, hWs, hM, hK⟩ := hW
    have H := Lib.hid (h.later hWb.out)
    clear h
    have u0 : W.cell? ⟨w.heap.size, 0, none⟩ = some (.string m.name) := hM.out.cell (i := 0) (by omega)
    have u1 : W.cell? ⟨w.heap.size, 1, none⟩ = some (.int .i64 m.stage) := hM.out.cell (i := 1) (by omega)
    have u2 : W.cell? ⟨w.heap.size, 2, none⟩ = some (.slice m.A m.x.length m.c) := hM.out.cell (i := 2) (by omega)
    have u3 : W.cell? ⟨w.heap.size + 1, 0, none⟩ = some (.string b) := hK.out.cell (i := 0) (by omega)
    have u4 : W.cell? ⟨w.heap.size + 1, 1, none⟩ = some (.string s) := hK.out.cell (i := 1) (by omega)
    go_enter Tryz.func38, Tryz.ntmps38
    go_wp2_with fail
    rw [hWe.out]
    clear hWe
    go_wp2_with (first | (go_at_call 97; refine (l26Asked_any m b s _ H.out).mono ?_; rintro e w1 ⟨rfl, hb1⟩; have Hb1 := Lib.hid hb1; have hs1 := hb1.size; have q0 : w1.cell? ⟨w.heap.size, 0, none⟩ = some (.string m.name) := (hb1.cell (p := ⟨w.heap.size, 0, none⟩) (show w.heap.size < W.heap.size by omega)).trans u0; have q1 : w1.cell? ⟨w.heap.size, 1, none⟩ = some (.int .i64 m.stage) := (hb1.cell (p := ⟨w.heap.size, 1, none⟩) (show w.heap.size < W.heap.size by omega)).trans u1; have q2 : w1.cell? ⟨w.heap.size, 2, none⟩ = some (.slice m.A m.x.length m.c) := (hb1.cell (p := ⟨w.heap.size, 2, none⟩) (show w.heap.size < W.heap.size by omega)).trans u2; have q3 : w1.cell? ⟨w.heap.size + 1, 0, none⟩ = some (.string b) := (hb1.cell (p := ⟨w.heap.size + 1, 0, none⟩) (show w.heap.size + 1 < W.heap.size by omega)).trans u3; have q4 : w1.cell? ⟨w.heap.size + 1, 1, none⟩ = some (.string s) := (hb1.cell (p := ⟨w.heap.size + 1, 1, none⟩) (show w.heap.size + 1 < W.heap.size by omega)).trans u4; clear hb1 u0 u1 u2 u3 u4) | (go_at_call 98; refine (l26Round_any m b s t _ (H.out.later Hb1.out) ht).mono ?_; rintro e w2 ⟨rfl, hb2⟩))
    go_ret2
    rw [hR.out]
    exact SayOutC.no rfl ((hWb.out.trans (Hb1.out.mono hWb.out.size)).trans (hb2.mono (by omega)))
  have e2 := B_t c2
  by_cases c3 : inB first 1 20
  rotate_left
  · have e3 := B_f c3
    have hR : Hid (sayR m b s t first = ([], false)) := Lib.hid (sayR_f (fun x => c3 x.2.2.2.1))
    clear c1 c2 c3
    have hW : ∃ W : World, Hid ((w.alloc (.cells #[Value.string m.name, .int .i64 m.stage, .slice m.A m.x.length m.c] 26)).alloc (.cells #[Value.string b, .string s] 28) = W) ∧ Hid (Below w.heap.size w W) ∧ w.heap.size + 2 ≤ W.heap.size ∧ Hid (Cells W w.heap.size 3 (fun i => (#[Value.string m.name, .int .i64 m.stage, .slice m.A m.x.length m.c] : Array Value).getD i undef)) ∧ Hid (Cells W (w.heap.size + 1) 2 (fun i => (#[Value.string b, .string s] : Array Value).getD i undef)) := by
      have z1 : w.heap.size + 1 = (w.alloc (.cells #[Value.string m.name, .int .i64 m.stage, .slice m.A m.x.length m.c] 26)).heap.size := by simp
      refine ⟨_, Lib.hid rfl, Lib.hid (((Below.refl _ _).alloc (Nat.le_refl _) _).alloc (by simp) _), by simp, Lib.hid ?_, Lib.hid ?_⟩
      · exact (Cells.newD _ #[Value.string m.name, .int .i64 m.stage, .slice m.A m.x.length m.c] _).alloc _
      · rw [z1]; exact Cells.newD _ #[Value.string b, .string s] _
    obtain ⟨W, hWe, hWb, hWs, hM, hK⟩ := hW
    have H := Lib.hid (h.later hWb.out)
    clear h
    have u0 : W.cell? ⟨w.heap.size, 0, none⟩ = some (.string m.name) := hM.out.cell (i := 0) (by omega)
    have u1 : W.cell? ⟨w.heap.size, 1, none⟩ = some (.int .i64 m.stage) := hM.out.cell (i := 1) (by omega)
    have u2 : W.cell? ⟨w.heap.size, 2, none⟩ = some (.slice m.A m.x.length m.c) := hM.out.cell (i := 2) (by omega)
    have u3 : W.cell? ⟨w.heap.size + 1, 0, none⟩ = some (.string b) := hK.out.cell (i := 0) (by omega)
    have u4 : W.cell? ⟨w.heap.size + 1, 1, none⟩ = some (.string s) := hK.out.cell (i := 1) (by omega)
    go_enter Tryz.func38, Tryz.ntmps38
    go_wp2_with fail
    rw [hWe.out]
    clear hWe
    go_wp2_with (first | (go_at_call 97; refine (l26Asked_any m b s _ H.out).mono ?_; rintro e w1 ⟨rfl, hb1⟩; have Hb1 := Lib.hid hb1; have hs1 := hb1.size; have q0 : w1.cell? ⟨w.heap.size, 0, none⟩ = some (.string m.name) := (hb1.cell (p := ⟨w.heap.size, 0, none⟩) (show w.heap.size < W.heap.size by omega)).trans u0; have q1 : w1.cell? ⟨w.heap.size, 1, none⟩ = some (.int .i64 m.stage) := (hb1.cell (p := ⟨w.heap.size, 1, none⟩) (show w.heap.size < W.heap.size by omega)).trans u1; have q2 : w1.cell? ⟨w.heap.size, 2, none⟩ = some (.slice m.A m.x.length m.c) := (hb1.cell (p := ⟨w.heap.size, 2, none⟩) (show w.heap.size < W.heap.size by omega)).trans u2; have q3 : w1.cell? ⟨w.heap.size + 1, 0, none⟩ = some (.string b) := (hb1.cell (p := ⟨w.heap.size + 1, 0, none⟩) (show w.heap.size + 1 < W.heap.size by omega)).trans u3; have q4 : w1.cell? ⟨w.heap.size + 1, 1, none⟩ = some (.string s) := (hb1.cell (p := ⟨w.heap.size + 1, 1, none⟩) (show w.heap.size + 1 < W.heap.size by omega)).trans u4; clear hb1 u0 u1 u2 u3 u4) | (go_at_call 98; refine (l26Round_any m b s t _ (H.out.later Hb1.out) ht).mono ?_; rintro e w2 ⟨rfl, hb2⟩) | (go_at_call 99; refine (l1In_any _ _ _ _).mono ?_; rintro e w' ⟨rfl, rfl⟩))
    go_ret2
    rw [hR.out]
    exact SayOutC.no rfl ((hWb.out.trans (Hb1.out.mono hWb.out.size)).trans (hb2.mono (by omega)))
  have e3 := B_t c3
  have hg := c1.1.geo
  have hN40 := hg.l40
  have hts := c2.1.2.2.2
  have hlast : first + (m.x.length : Int) * (t.size : Int) + 1 ≤ 3000 := by have := (mul_bd hN40 hts).2; have := c3.2; omega
  have hR : Hid (sayR m b s t first = (sayL m.x.length first t, true)) := Lib.hid (sayR_t ⟨c1.1, c1.2, c2.1.2, c3, c2.2, hlast⟩)
  have hgood : spokenLP (sayL m.x.length first t) := sayL_good (by have := c1.2; omega) c3.1 hts hlast
  have e4 := B_t hgood
  have hsm : (sayL m.x.length first t).length ≤ 63 := sayL_small hts
  have hfor : Hid (∀ w, Calls Tryz.prog 100 #[.agg #[Value.string m.name, .int .i64 m.stage, .slice m.A m.x.length m.c], .string t, .int .i64 first] w fun e w' => ∃ A c, e = .returned (.slice A (sayL m.x.length first t).length c) ∧ OwnL w' w.heap.size w'.heap.size A 2 Spk.enc (sayL m.x.length first t) ∧ Below w.heap.size w w') := Lib.hid (fun w => l26For_any m t first w hN40 hts c3.1 c3.2)
  have hforC : Hid (∀ w, Calls Tryz.prog 100 #[.agg #[Value.string m.name, .int .i64 m.stage, .slice m.A m.x.length m.c], .string t, .int .i64 first] w fun e w' => ∃ A c, e = .returned (.slice A (sayL m.x.length first t).length c) ∧ (sayL m.x.length first t).length ≤ c ∧ OwnL w' w.heap.size w'.heap.size A 2 Spk.enc (sayL m.x.length first t) ∧ Below w.heap.size w w') := Lib.hid (fun w => l26ForC_any m t first w hN40 hts c3.1 c3.2)
  generalize sayL m.x.length first t = SL at *
  clear hlast hgood hg c1 c2 c3 hN40 hts
  have hW : ∃ W : World, Hid ((w.alloc (.cells #[Value.string m.name, .int .i64 m.stage, .slice m.A m.x.length m.c] 26)).alloc (.cells #[Value.string b, .string s] 28) = W) ∧ Hid (Below w.heap.size w W) ∧ w.heap.size + 2 ≤ W.heap.size ∧ Hid (Cells W w.heap.size 3 (fun i => (#[Value.string m.name, .int .i64 m.stage, .slice m.A m.x.length m.c] : Array Value).getD i undef)) ∧ Hid (Cells W (w.heap.size + 1) 2 (fun i => (#[Value.string b, .string s] : Array Value).getD i undef)) := by
    have z1 : w.heap.size + 1 = (w.alloc (.cells #[Value.string m.name, .int .i64 m.stage, .slice m.A m.x.length m.c] 26)).heap.size := by simp
    refine ⟨_, Lib.hid rfl, Lib.hid (((Below.refl _ _).alloc (Nat.le_refl _) _).alloc (by simp) _), by simp, Lib.hid ?_, Lib.hid ?_⟩
    · exact (Cells.newD _ #[Value.string m.name, .int .i64 m.stage, .slice m.A m.x.length m.c] _).alloc _
    · rw [z1]; exact Cells.newD _ #[Value.string b, .string s] _
  obtain ⟨W, hWe, hWb, hWs, hM, hK⟩ := hW
  have H := Lib.hid (h.later hWb.out)
  clear h
  have u0 : W.cell? ⟨w.heap.size, 0, none⟩ = some (.string m.name) := hM.out.cell (i := 0) (by omega)
  have u1 : W.cell? ⟨w.heap.size, 1, none⟩ = some (.int .i64 m.stage) := hM.out.cell (i := 1) (by omega)
  have u2 : W.cell? ⟨w.heap.size, 2, none⟩ = some (.slice m.A m.x.length m.c) := hM.out.cell (i := 2) (by omega)
  have u3 : W.cell? ⟨w.heap.size + 1, 0, none⟩ = some (.string b) := hK.out.cell (i := 0) (by omega)
  have u4 : W.cell? ⟨w.heap.size + 1, 1, none⟩ = some (.string s) := hK.out.cell (i := 1) (by omega)
  go_enter Tryz.func38, Tryz.ntmps38
  go_wp2_with fail
  rw [hWe.out]
  clear hWe
  go_upto_region 3 with (first | (go_at_call 97; refine (l26Asked_any m b s _ H.out).mono ?_; rintro e w1 ⟨rfl, hb1⟩; have Hb1 := Lib.hid hb1; have hs1 := hb1.size; have q0 : w1.cell? ⟨w.heap.size, 0, none⟩ = some (.string m.name) := (hb1.cell (p := ⟨w.heap.size, 0, none⟩) (show w.heap.size < W.heap.size by omega)).trans u0; have q1 : w1.cell? ⟨w.heap.size, 1, none⟩ = some (.int .i64 m.stage) := (hb1.cell (p := ⟨w.heap.size, 1, none⟩) (show w.heap.size < W.heap.size by omega)).trans u1; have q2 : w1.cell? ⟨w.heap.size, 2, none⟩ = some (.slice m.A m.x.length m.c) := (hb1.cell (p := ⟨w.heap.size, 2, none⟩) (show w.heap.size < W.heap.size by omega)).trans u2; have q3 : w1.cell? ⟨w.heap.size + 1, 0, none⟩ = some (.string b) := (hb1.cell (p := ⟨w.heap.size + 1, 0, none⟩) (show w.heap.size + 1 < W.heap.size by omega)).trans u3; have q4 : w1.cell? ⟨w.heap.size + 1, 1, none⟩ = some (.string s) := (hb1.cell (p := ⟨w.heap.size + 1, 1, none⟩) (show w.heap.size + 1 < W.heap.size by omega)).trans u4; clear hb1 u0 u1 u2 u3 u4) | (go_at_call 98; refine (l26Round_any m b s t _ (H.out.later Hb1.out) ht).mono ?_; rintro e w2 ⟨rfl, hb2⟩; have Hb2 := Lib.hid (Hb1.out.trans (hb2.mono Hb1.out.size)); have hs2 := hb2.size; have r0 := (hb2.cell (p := ⟨w.heap.size, 0, none⟩) (show w.heap.size < w1.heap.size by omega)).trans q0; have r1 := (hb2.cell (p := ⟨w.heap.size, 1, none⟩) (show w.heap.size < w1.heap.size by omega)).trans q1; have r2 := (hb2.cell (p := ⟨w.heap.size, 2, none⟩) (show w.heap.size < w1.heap.size by omega)).trans q2; clear hb2 q0 q1 q2 q3 q4) | (go_at_call 99; refine (l1In_any _ _ _ _).mono ?_; rintro e w' ⟨rfl, rfl⟩) | (go_at_call 100; refine (hfor.out _).mono ?_; rintro e w3 ⟨A3, c3, rfl, ho3, hb3⟩; have Hb3 := Lib.hid (Hb2.out.trans (hb3.mono Hb2.out.size)); have hs3 := hb3.size; have Ho3 := Lib.hid ho3; have z0 := (hb3.cell (p := ⟨w.heap.size, 0, none⟩) (show w.heap.size < w2.heap.size by omega)).trans r0; have z1 := (hb3.cell (p := ⟨w.heap.size, 1, none⟩) (show w.heap.size < w2.heap.size by omega)).trans r1; have z2 := (hb3.cell (p := ⟨w.heap.size, 2, none⟩) (show w.heap.size < w2.heap.size by omega)).trans r2; clear hb3 ho3 r0 r1 r2) | (go_at_call 86; refine (l26Good_any SL A3 c3 _ (Ho3.out.rd Spk_enc_len) (by omega)).mono ?_; rintro e w4 ⟨rfl, hb4⟩; have Hb4 := Lib.hid (Hb3.out.trans (hb4.mono Hb3.out.size)); have hs4 := hb4.size; have y0 := (hb4.cell (p := ⟨w.heap.size, 0, none⟩) (show w.heap.size < w3.heap.size by omega)).trans z0; have y1 := (hb4.cell (p := ⟨w.heap.size, 1, none⟩) (show w.heap.size < w3.heap.size by omega)).trans z1; have y2 := (hb4.cell (p := ⟨w.heap.size, 2, none⟩) (show w.heap.size < w3.heap.size by omega)).trans z2; clear hb4 z0 z1 z2))
  go_wp2_with (go_at_call 100; refine (hforC.out _).mono ?_; rintro e w5 ⟨A5, c5, rfl, hcap5, ho5, hb5⟩; have HCAP := Lib.hid hcap5; clear hcap5)
  go_ret2
  rw [hR.out]
  exact ⟨A5, c5, rfl, HCAP.out, ho5.mono (by omega) (Nat.le_refl _), (hWb.out.trans (Hb4.out.mono hWb.out.size)).trans (hb5.mono (by omega))⟩
theorem sSpokenFor_any (m : Mth) (b s t : ByteArray) (first : Int) (w : World) (h : MkOk m b s w) (ht : t.size ≤ 1048576) :
    Calls Tryz.prog 38 #[.agg #[Value.string m.name, .int .i64 m.stage, .slice m.A m.x.length m.c], .agg #[Value.string b, .string s], .string t, .int .i64 first] w fun e w' => SayOut (sayR m b s t first) w e w' := (sSpokenForC_any m b s t first w h ht).mono fun e w' ⟨A, c, h1, _, h2, h3⟩ => ⟨A, c, h1, h2, h3⟩
set_option maxHeartbeats 3200000 in
theorem iSpokenForC_any (m : Mth) (b s t : ByteArray) (first : Int) (w : World) (h : MkOk m b s w) (ht : t.size ≤ 1048576) :
    Calls Tryz.prog 96 #[.agg #[Value.string m.name, .int .i64 m.stage, .slice m.A m.x.length m.c], .agg #[Value.string b, .string s], .string t, .int .i64 first] w fun e w' => SayOutC (sayR m b s t first) w e w' := by
  by_cases c1 : condP m b s
  rotate_left
  · have e1 := B_f c1
    have hR : Hid (sayR m b s t first = ([], false)) := Lib.hid (sayR_f (fun x => c1 ⟨x.1, x.2.1⟩))
    clear c1
    have hW : ∃ W : World, Hid ((w.alloc (.cells #[Value.string m.name, .int .i64 m.stage, .slice m.A m.x.length m.c] 26)).alloc (.cells #[Value.string b, .string s] 28) = W) ∧ Hid (Below w.heap.size w W) ∧ w.heap.size + 2 ≤ W.heap.size ∧ Hid (Cells W w.heap.size 3 (fun i => (#[Value.string m.name, .int .i64 m.stage, .slice m.A m.x.length m.c] : Array Value).getD i undef)) ∧ Hid (Cells W (w.heap.size + 1) 2 (fun i => (#[Value.string b, .string s] : Array Value).getD i undef)) := by
      have z1 : w.heap.size + 1 = (w.alloc (.cells #[Value.string m.name, .int .i64 m.stage, .slice m.A m.x.length m.c] 26)).heap.size := by simp
      refine ⟨_, Lib.hid rfl, Lib.hid (((Below.refl _ _).alloc (Nat.le_refl _) _).alloc (by simp) _), by simp, Lib.hid ?_, Lib.hid ?_⟩
      · exact (Cells.newD _ #[Value.string m.name, .int .i64 m.stage, .slice m.A m.x.length m.c] _).alloc _
      · rw [z1]; exact Cells.newD _ #[Value.string b, .string s] _
    obtain ⟨W, hWe, hWb, hWs, hM, hK⟩ := hW
    have H := Lib.hid (h.later hWb.out)
    clear h
    have u0 : W.cell? ⟨w.heap.size, 0, none⟩ = some (.string m.name) := hM.out.cell (i := 0) (by omega)
    have u1 : W.cell? ⟨w.heap.size, 1, none⟩ = some (.int .i64 m.stage) := hM.out.cell (i := 1) (by omega)
    have u2 : W.cell? ⟨w.heap.size, 2, none⟩ = some (.slice m.A m.x.length m.c) := hM.out.cell (i := 2) (by omega)
    have u3 : W.cell? ⟨w.heap.size + 1, 0, none⟩ = some (.string b) := hK.out.cell (i := 0) (by omega)
    have u4 : W.cell? ⟨w.heap.size + 1, 1, none⟩ = some (.string s) := hK.out.cell (i := 1) (by omega)
    go_enter Tryz.func96, Tryz.ntmps96
    go_wp2_with fail
    rw [hWe.out]
    clear hWe
    go_wp2_with (go_at_call 144; refine (goodConductor_any m b s _ H.out).mono ?_; rintro e w1 ⟨rfl, hb1⟩)
    go_ret2
    rw [hR.out]
    exact SayOutC.no rfl (hWb.out.trans (hb1.mono hWb.out.size))
  have e1 := B_t c1
  have hsp : Hid (∀ w, MkOk m b s w → Calls Tryz.prog 145 #[.agg #[Value.string m.name, .int .i64 m.stage, .slice m.A m.x.length m.c], .agg #[Value.string b, .string s], .string t, .int .i64 first] w fun e w' => SayOutC (sayR m b s t first) w e w') := Lib.hid (fun w h => spokenForC_any m b s t first w h c1 ht)
  generalize sayR m b s t first = R at *
  obtain ⟨l, ok⟩ := R
  clear c1
  have hW : ∃ W : World, Hid ((w.alloc (.cells #[Value.string m.name, .int .i64 m.stage, .slice m.A m.x.length m.c] 26)).alloc (.cells #[Value.string b, .string s] 28) = W) ∧ Hid (Below w.heap.size w W) ∧ w.heap.size + 2 ≤ W.heap.size ∧ Hid (Cells W w.heap.size 3 (fun i => (#[Value.string m.name, .int .i64 m.stage, .slice m.A m.x.length m.c] : Array Value).getD i undef)) ∧ Hid (Cells W (w.heap.size + 1) 2 (fun i => (#[Value.string b, .string s] : Array Value).getD i undef)) := by
    have z1 : w.heap.size + 1 = (w.alloc (.cells #[Value.string m.name, .int .i64 m.stage, .slice m.A m.x.length m.c] 26)).heap.size := by simp
    refine ⟨_, Lib.hid rfl, Lib.hid (((Below.refl _ _).alloc (Nat.le_refl _) _).alloc (by simp) _), by simp, Lib.hid ?_, Lib.hid ?_⟩
    · exact (Cells.newD _ #[Value.string m.name, .int .i64 m.stage, .slice m.A m.x.length m.c] _).alloc _
    · rw [z1]; exact Cells.newD _ #[Value.string b, .string s] _
  obtain ⟨W, hWe, hWb, hWs, hM, hK⟩ := hW
  have H := Lib.hid (h.later hWb.out)
  clear h
  have u0 : W.cell? ⟨w.heap.size, 0, none⟩ = some (.string m.name) := hM.out.cell (i := 0) (by omega)
  have u1 : W.cell? ⟨w.heap.size, 1, none⟩ = some (.int .i64 m.stage) := hM.out.cell (i := 1) (by omega)
  have u2 : W.cell? ⟨w.heap.size, 2, none⟩ = some (.slice m.A m.x.length m.c) := hM.out.cell (i := 2) (by omega)
  have u3 : W.cell? ⟨w.heap.size + 1, 0, none⟩ = some (.string b) := hK.out.cell (i := 0) (by omega)
  have u4 : W.cell? ⟨w.heap.size + 1, 1, none⟩ = some (.string s) := hK.out.cell (i := 1) (by omega)
  go_enter Tryz.func96, Tryz.ntmps96
  go_wp2_with fail
  rw [hWe.out]
  clear hWe
  go_wp2_with (first | (go_at_call 144; refine (goodConductor_any m b s _ H.out).mono ?_; rintro e w1 ⟨rfl, hb1⟩; have Hb1 := Lib.hid hb1; have hs1 := hb1.size; have q0 : w1.cell? ⟨w.heap.size, 0, none⟩ = some (.string m.name) := (hb1.cell (p := ⟨w.heap.size, 0, none⟩) (show w.heap.size < W.heap.size by omega)).trans u0; have q1 : w1.cell? ⟨w.heap.size, 1, none⟩ = some (.int .i64 m.stage) := (hb1.cell (p := ⟨w.heap.size, 1, none⟩) (show w.heap.size < W.heap.size by omega)).trans u1; have q2 : w1.cell? ⟨w.heap.size, 2, none⟩ = some (.slice m.A m.x.length m.c) := (hb1.cell (p := ⟨w.heap.size, 2, none⟩) (show w.heap.size < W.heap.size by omega)).trans u2; have q3 : w1.cell? ⟨w.heap.size + 1, 0, none⟩ = some (.string b) := (hb1.cell (p := ⟨w.heap.size + 1, 0, none⟩) (show w.heap.size + 1 < W.heap.size by omega)).trans u3; have q4 : w1.cell? ⟨w.heap.size + 1, 1, none⟩ = some (.string s) := (hb1.cell (p := ⟨w.heap.size + 1, 1, none⟩) (show w.heap.size + 1 < W.heap.size by omega)).trans u4; clear hb1 u0 u1 u2 u3 u4) | (go_at_call 145; refine (hsp.out _ (H.out.later Hb1.out)).mono ?_; rintro e w2 ⟨A2, c2, rfl, hcap2, ho2, hb2⟩; have HCAP := Lib.hid hcap2; clear hcap2))
  go_ret2
  exact ⟨A2, c2, rfl, HCAP.out, ho2.mono (by omega) (Nat.le_refl _), (hWb.out.trans (Hb1.out.mono hWb.out.size)).trans (hb2.mono (by omega))⟩
theorem iSpokenFor_any (m : Mth) (b s t : ByteArray) (first : Int) (w : World) (h : MkOk m b s w) (ht : t.size ≤ 1048576) :
    Calls Tryz.prog 96 #[.agg #[Value.string m.name, .int .i64 m.stage, .slice m.A m.x.length m.c], .agg #[Value.string b, .string s], .string t, .int .i64 first] w fun e w' => SayOut (sayR m b s t first) w e w' := (iSpokenForC_any m b s t first w h ht).mono fun e w' ⟨A, c, h1, _, h2, h3⟩ => ⟨A, c, h1, h2, h3⟩
end Go.Proofs.YtkegbbndmfnolaaGreatDoor
