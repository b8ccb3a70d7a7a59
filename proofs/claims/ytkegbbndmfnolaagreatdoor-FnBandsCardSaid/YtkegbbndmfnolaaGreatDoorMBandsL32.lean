import Derived.Test.YtkegbbndmfnolaaGreatDoorMBandsL24
import Derived.Test.YtkegbbndmfnolaaGreatDoorMBandsL31
import Derived.Test.YtkegbbndmfnolaaGreatDoorMBandsL29
/-
 RingTouch: contracts of both sides.
-/
namespace Go.Proofs.YtkegbbndmfnolaaGreatDoor
open Go.RowKit Go.Deep
set_option linter.unusedVariables false
set_option linter.unusedSimpArgs false
set_option maxRecDepth 100000

open Classical in
/-- What RingTouch answers. -/
noncomputable def ringR (m : Mth) (b s t : ByteArray) : List ByteArray × Bool := if (callsP m b s ∧ touchP t) ∧ (actsL t m.x.length).length ≤ 400 then ((playS (newD0 m b s) (actsL t m.x.length) (actsL t m.x.length).length).2, true) else ([], false)
theorem ringR_small (m : Mth) (b s t : ByteArray) : (ringR m b s t).1.length ≤ 400 := by
 unfold ringR
 split
 ·rename_i h
  have := (playS_inv (d := newD0 m b s) (l := actsL t m.x.length) (newD0_ok h.1.1) (actsL t m.x.length).length).2.1
  exact Nat.le_trans this h.2
 ·exact Nat.zero_le _
def RingOut (r : List ByteArray × Bool) (w : World) (e : Ending) (w' : World) : Prop := ∃ A c, e = .returned (.tuple #[.slice A r.1.length c, .bool r.2]) ∧ OwnL w' w.heap.size w'.heap.size A 1 encString r.1 ∧ Below w.heap.size w w'
theorem BdOut.one {m : Mth} {b s : ByteArray} {w w' : World} {e : Ending} (h : BdOut m.name m.stage m.x b s 0 pS (roundsS m.stage) (newRs m.stage.toNat) w e w') : BdOne (newD0 m b s) w e w' := by
 obtain ⟨A1, c1, A3, c3, gs, he, h1, h2, o1, o3, hb⟩ := h
 exact ⟨_, he, ⟨A1, c1, A3, c3, gs, rfl, h1, h2, o1, o3⟩, hb⟩
/-- A band and its rows in a value. -/
def PlayAt2 (d : Bd) (rows : List ByteArray) (u : Value) (lo hi : Nat) (w : World) : Prop := ∃ v A c gw l2 h2, u = .tuple #[v, .slice A rows.length c] ∧ lo ≤ l2 ∧ l2 ≤ h2 ∧ h2 ≤ hi ∧ lo ≤ gw ∧ gw + 1 ≤ hi ∧ (gw + 1 ≤ l2 ∨ h2 ≤ gw) ∧ BdAt d v l2 h2 w ∧ OwnL w gw (gw + 1) A 1 encString rows
theorem loc_play2 (d : Bd) (rows : List ByteArray) (u : Value) (lo hi : Nat) : GLoc ⟨lo, hi, fun w => PlayAt2 d rows u lo hi w, true⟩ :=
 loc_ex fun _ => loc_ex fun _ => loc_ex fun _ => loc_ex fun gw => loc_ex fun l2 => loc_ex fun h2 => loc_imp fun _ => loc_imp fun h1 => loc_imp fun h2 => loc_imp fun h3 => loc_imp fun h4 => loc_imp fun h5 => loc_imp fun _ => loc_and (loc_ex fun _ => loc_ex fun _ => loc_ex fun _ => loc_ex fun _ => loc_ex fun gs => loc_imp fun _ => loc_imp fun k1 => loc_imp fun k2 => loc_and (loc_own h1 (by omega)) (loc_own (by omega) h3)) (loc_own h4 h5)
theorem BdAt.le {d : Bd} {v : Value} {lo hi : Nat} {w : World} (h : BdAt d v lo hi w) : lo ≤ hi := by
 obtain ⟨_, _, _, _, gs, _, h1, h2, _⟩ := h
 omega
theorem PlayRet.at2 {r : Bd × List ByteArray} {w w' : World} {e : Ending} (h : PlayRet r w e w') : ∃ u, e = .returned u ∧ PlayAt2 r.1 r.2 u w.heap.size w'.heap.size w' ∧ Below w.heap.size w w' := by
 obtain ⟨v, AR, cR, gw, lo, hi, he, hbd, hoR, p1, p2, p3, p4, p5, hb⟩ := h
 exact ⟨_, he, ⟨v, AR, cR, gw, lo, hi, rfl, p1, hbd.le, p2, p3, p4, p5, hbd, hoR⟩, hb⟩





set_option maxHeartbeats 1600000 in
theorem goodFor_any (m : Mth) (b s t : ByteArray) (w : World) (h : MkOk m b s w) (ht : t.size ≤ 1048576) : Calls Tryz.prog 56 #[.agg #[Value.string m.name, .int .i64 m.stage, .slice m.A m.x.length m.c], .agg #[Value.string b, .string s], .string t] w fun e w' => e = .returned (.bool (B (callsP m b s ∧ touchP t))) ∧ Below w.heap.size w w' := by
 by_cases c1 : callsP m b s
 ·have e1 := B_t c1
  have hB : B (callsP m b s ∧ touchP t) = B (touchP t) := by
   by_cases c2 : touchP t
   ·rw [B_t c2, B_t ⟨c1, c2⟩]
   ·rw [B_f c2, B_f (fun x => c2 x.2)]
  have HBB := Lib.hid hB
  clear c1 hB
  obtain ⟨W, hWe, hWb, hWs, hM, hK⟩ : ∃ W : World, Hid ((w.alloc (.cells #[Value.string m.name, .int .i64 m.stage, .slice m.A m.x.length m.c] 26)).alloc (.cells #[Value.string b, .string s] 28) = W) ∧ Hid (Below w.heap.size w W) ∧ w.heap.size + 2 ≤ W.heap.size ∧ Hid (Cells W w.heap.size 3 (fun i => (#[Value.string m.name, .int .i64 m.stage, .slice m.A m.x.length m.c] : Array Value).getD i undef)) ∧ Hid (Cells W (w.heap.size + 1) 2 (fun i => (#[Value.string b, .string s] : Array Value).getD i undef)) := by
   have z1 : w.heap.size + 1 = (w.alloc (.cells #[Value.string m.name, .int .i64 m.stage, .slice m.A m.x.length m.c] 26)).heap.size := by simp
   refine ⟨_, Lib.hid rfl, Lib.hid (((Below.refl _ _).alloc (Nat.le_refl _) _).alloc (by simp) _), by simp, Lib.hid ?_, Lib.hid ?_⟩
   ·exact (Cells.newD _ #[Value.string m.name, .int .i64 m.stage, .slice m.A m.x.length m.c] _).alloc _
   ·rw [z1]; exact Cells.newD _ #[Value.string b, .string s] _
  have H := Lib.hid (h.later hWb.out)
  clear h
  have u0 : (W).cell? ⟨w.heap.size, 0, none⟩ = some (.string m.name) := (hM.out).cell (i := 0) (by omega)
  have u1 : (W).cell? ⟨w.heap.size, 1, none⟩ = some (.int .i64 m.stage) := (hM.out).cell (i := 1) (by omega)
  have u2 : (W).cell? ⟨w.heap.size, 2, none⟩ = some (.slice m.A m.x.length m.c) := (hM.out).cell (i := 2) (by omega)
  have u3 : (W).cell? ⟨w.heap.size + 1, 0, none⟩ = some (.string b) := (hK.out).cell (i := 0) (by omega)
  have u4 : (W).cell? ⟨w.heap.size + 1, 1, none⟩ = some (.string s) := (hK.out).cell (i := 1) (by omega)
  go_enter Tryz.func56, Tryz.ntmps56
  go_wp2_with fail
  rw [hWe.out]
  clear hWe
  go_wp2_with (first
   | (go_at_call 109; refine (touch_any t _ (by omega)).mono ?_; rintro e w' ⟨rfl, rfl⟩)
   | (go_at_call 70; refine (goodCalls_any m b s _ H.out.rd H.out.nm H.out.xl H.out.xs H.out.bs H.out.ss).mono ?_; rintro e w1 ⟨rfl, hb1⟩; have HB1 := Lib.hid hb1; clear hb1))
  go_ret
  exact ⟨by first | (rw [HBB.out]; done) | (rw [HBB.out, e1]; done) | simp [HBB.out, e1], hWb.out.trans (HB1.out.mono (by omega))⟩
 ·have e1 := B_f c1
  have hB : B (callsP m b s ∧ touchP t) = false := B_f (fun x => c1 x.1)
  have HBB := Lib.hid hB
  clear c1 hB
  obtain ⟨W, hWe, hWb, hWs, hM, hK⟩ : ∃ W : World, Hid ((w.alloc (.cells #[Value.string m.name, .int .i64 m.stage, .slice m.A m.x.length m.c] 26)).alloc (.cells #[Value.string b, .string s] 28) = W) ∧ Hid (Below w.heap.size w W) ∧ w.heap.size + 2 ≤ W.heap.size ∧ Hid (Cells W w.heap.size 3 (fun i => (#[Value.string m.name, .int .i64 m.stage, .slice m.A m.x.length m.c] : Array Value).getD i undef)) ∧ Hid (Cells W (w.heap.size + 1) 2 (fun i => (#[Value.string b, .string s] : Array Value).getD i undef)) := by
   have z1 : w.heap.size + 1 = (w.alloc (.cells #[Value.string m.name, .int .i64 m.stage, .slice m.A m.x.length m.c] 26)).heap.size := by simp
   refine ⟨_, Lib.hid rfl, Lib.hid (((Below.refl _ _).alloc (Nat.le_refl _) _).alloc (by simp) _), by simp, Lib.hid ?_, Lib.hid ?_⟩
   ·exact (Cells.newD _ #[Value.string m.name, .int .i64 m.stage, .slice m.A m.x.length m.c] _).alloc _
   ·rw [z1]; exact Cells.newD _ #[Value.string b, .string s] _
  have H := Lib.hid (h.later hWb.out)
  clear h
  have u0 : (W).cell? ⟨w.heap.size, 0, none⟩ = some (.string m.name) := (hM.out).cell (i := 0) (by omega)
  have u1 : (W).cell? ⟨w.heap.size, 1, none⟩ = some (.int .i64 m.stage) := (hM.out).cell (i := 1) (by omega)
  have u2 : (W).cell? ⟨w.heap.size, 2, none⟩ = some (.slice m.A m.x.length m.c) := (hM.out).cell (i := 2) (by omega)
  have u3 : (W).cell? ⟨w.heap.size + 1, 0, none⟩ = some (.string b) := (hK.out).cell (i := 0) (by omega)
  have u4 : (W).cell? ⟨w.heap.size + 1, 1, none⟩ = some (.string s) := (hK.out).cell (i := 1) (by omega)
  go_enter Tryz.func56, Tryz.ntmps56
  go_wp2_with fail
  rw [hWe.out]
  clear hWe
  go_wp2_with (go_at_call 70; refine (goodCalls_any m b s _ H.out.rd H.out.nm H.out.xl H.out.xs H.out.bs H.out.ss).mono ?_; rintro e w1 ⟨rfl, hb1⟩; have HB1 := Lib.hid hb1; clear hb1)
  go_ret
  exact ⟨by first | (rw [HBB.out]; done) | (rw [HBB.out, e1]; done) | simp [HBB.out, e1], hWb.out.trans (HB1.out.mono (by omega))⟩
theorem RingOut.no {r : List ByteArray × Bool} {w w' : World} (hr : r = ([], false)) (hb : Below w.heap.size w w') : RingOut r w (.returned (.tuple #[.slice none 0 0, .bool false])) w' := by
 subst hr; exact ⟨none, 0, rfl, OwnL.nil, hb⟩
set_option maxHeartbeats 3200000 in
theorem iRingTouch_any (m : Mth) (b s t : ByteArray) (w : World) (h : MkOk m b s w) (ht : t.size ≤ 1048576) (htab : Tab w) : Calls Tryz.prog 8 #[.agg #[Value.string m.name, .int .i64 m.stage, .slice m.A m.x.length m.c], .agg #[Value.string b, .string s], .string t] w fun e w' => RingOut (ringR m b s t) w e w' := by
 by_cases cg : callsP m b s ∧ touchP t
 ·have e0 := B_t cg
  have hst := cg.1.1.2.stage
  have ht60 := cg.2.2.2
  have hx0 := cg.1.1.2.1.1
  have hxl := h.xl
  obtain ⟨L, hL⟩ : ∃ L, Hid (actsL t m.x.length = L) := ⟨_, Lib.hid rfl⟩
  have hacts : Hid (∀ W, Calls Tryz.prog 57 #[.agg #[Value.string m.name, .int .i64 m.stage, .slice m.A m.x.length m.c], .string t, .slice none 0 0] W fun e w' => ∃ A2 c2, e = .returned (.slice A2 L.length c2) ∧ OwnL w' W.heap.size w'.heap.size A2 4 Act_.enc L ∧ Below W.heap.size W w') := Lib.hid fun W => by
   have := actsFor_any m.name m.stage m.x m.A m.c t W ht60 hxl
   rw [hL.out] at this; exact this
  by_cases hle : L.length ≤ 400
  ·obtain ⟨N0, hN0⟩ : ∃ N0, Hid (newD0 m b s = N0) := ⟨_, Lib.hid rfl⟩
   have hN0p : Hid (bdP N0) := Lib.hid (by rw [← hN0.out]; exact newD0_ok cg.1)
   have hN0x : Hid (N0.x.length ≤ 1048576) := Lib.hid (by rw [← hN0.out]; exact hxl)
   obtain ⟨S, hS⟩ : ∃ S, Hid (playS N0 L L.length = S) := ⟨_, Lib.hid rfl⟩
   have hD : Hid (ringR m b s t = (S.2, true)) := Lib.hid (by unfold ringR; rw [hL.out, hN0.out, if_pos ⟨cg, hle⟩, hS.out])
   obtain ⟨d, rows⟩ := S
   simp only at hD
   have hnew : Hid (∀ W, RdL W W.heap.size m.A 1 encString m.x → Calls Tryz.prog 59 #[.agg #[Value.string m.name, .int .i64 m.stage, .slice m.A m.x.length m.c], .agg #[Value.string b, .string s]] W fun e w' => BdOne N0 W e w') := Lib.hid fun W hW => by
    have := newBand_any m b s W hW hxl (by omega) (by have := hst.1; omega) (by have := hst.2; omega)
    rw [← hN0.out]; exact this.mono fun e w' hb => hb.one
   have hplay : Hid (∀ (W : World) (A1 : Option Addr) (c1 : Nat) (A3 : Option Addr) (c3 : Nat) (A2 : Option Addr) (c2 : Nat), RdL W W.heap.size A1 1 encString N0.x → RdL W W.heap.size A3 2 Rgr.enc N0.rx → RdL W W.heap.size A2 4 Act_.enc L → Tab W → Calls Tryz.prog 58 #[.agg #[.string N0.name, .int .i64 N0.stage, .slice A1 N0.x.length c1, .string N0.bob, .string N0.sing, .int .i64 N0.step, .string N0.call, .string N0.tru, .slice A3 N0.rx.length c3], .slice A2 L.length c2] W fun e w' => PlayRet (d, rows) W e w') := Lib.hid fun W A1 c1 A3 c3 A2 c2 k1 k2 k3 k4 => by
    have := played_any (N0.bnd A1 c1 A3 c3) L A2 c2 W k1 k2 hN0x.out hN0p.out k3 (by omega) k4
    rw [Bd.bnd_bd, hS.out] at this; exact this
   have HT := Lib.hid htab
   clear cg htab hL hx0
   obtain ⟨W, hWe, hWb, hWs, hM, hK⟩ : ∃ W : World, Hid ((w.alloc (.cells #[Value.string m.name, .int .i64 m.stage, .slice m.A m.x.length m.c] 26)).alloc (.cells #[Value.string b, .string s] 28) = W) ∧ Hid (Below w.heap.size w W) ∧ w.heap.size + 2 ≤ W.heap.size ∧ Hid (Cells W w.heap.size 3 (fun i => (#[Value.string m.name, .int .i64 m.stage, .slice m.A m.x.length m.c] : Array Value).getD i undef)) ∧ Hid (Cells W (w.heap.size + 1) 2 (fun i => (#[Value.string b, .string s] : Array Value).getD i undef)) := by
    have z1 : w.heap.size + 1 = (w.alloc (.cells #[Value.string m.name, .int .i64 m.stage, .slice m.A m.x.length m.c] 26)).heap.size := by simp
    refine ⟨_, Lib.hid rfl, Lib.hid (((Below.refl _ _).alloc (Nat.le_refl _) _).alloc (by simp) _), by simp, Lib.hid ?_, Lib.hid ?_⟩
    ·exact (Cells.newD _ #[Value.string m.name, .int .i64 m.stage, .slice m.A m.x.length m.c] _).alloc _
    ·rw [z1]; exact Cells.newD _ #[Value.string b, .string s] _
   have H := Lib.hid (h.later hWb.out)
   clear h
   have u0 : (W).cell? ⟨w.heap.size, 0, none⟩ = some (.string m.name) := (hM.out).cell (i := 0) (by omega)
   have u1 : (W).cell? ⟨w.heap.size, 1, none⟩ = some (.int .i64 m.stage) := (hM.out).cell (i := 1) (by omega)
   have u2 : (W).cell? ⟨w.heap.size, 2, none⟩ = some (.slice m.A m.x.length m.c) := (hM.out).cell (i := 2) (by omega)
   have u3 : (W).cell? ⟨w.heap.size + 1, 0, none⟩ = some (.string b) := (hK.out).cell (i := 0) (by omega)
   have u4 : (W).cell? ⟨w.heap.size + 1, 1, none⟩ = some (.string s) := (hK.out).cell (i := 1) (by omega)
   go_enter Tryz.func8, Tryz.ntmps8
   go_wp2_with fail
   rw [hWe.out]
   clear hWe
   go_upto_region 6 with (first
    | (go_at_call 56; refine (goodFor_any m b s t _ H.out ht).mono ?_; rintro e w1 ⟨rfl, hb1⟩; have HB1 := Lib.hid hb1; have hz1 := hb1.size; have HM1 := Lib.hid (hM.out.later hb1); have HK1 := Lib.hid (hK.out.later hb1); clear hb1 u0 u1 u2 u3 u4; have u0 : (w1).cell? ⟨w.heap.size, 0, none⟩ = some (.string m.name) := (HM1.out).cell (i := 0) (by omega); have u1 : (w1).cell? ⟨w.heap.size, 1, none⟩ = some (.int .i64 m.stage) := (HM1.out).cell (i := 1) (by omega); have u2 : (w1).cell? ⟨w.heap.size, 2, none⟩ = some (.slice m.A m.x.length m.c) := (HM1.out).cell (i := 2) (by omega); have u3 : (w1).cell? ⟨w.heap.size + 1, 0, none⟩ = some (.string b) := (HK1.out).cell (i := 0) (by omega); have u4 : (w1).cell? ⟨w.heap.size + 1, 1, none⟩ = some (.string s) := (HK1.out).cell (i := 1) (by omega))
    | (go_at_call 57; refine (hacts.out w1).mono ?_; rintro e w2 ⟨A2, c2, rfl, ho2, hb2⟩; have HO2 := Lib.hid ho2; have HB2 := Lib.hid hb2; have hz2 := hb2.size; have HM2 := Lib.hid (HM1.out.later hb2); have HK2 := Lib.hid (HK1.out.later hb2); clear ho2 hb2 u0 u1 u2 u3 u4))
   have u0 : (w2).cell? ⟨w.heap.size, 0, none⟩ = some (.string m.name) := (HM2.out).cell (i := 0) (by omega); have u1 : (w2).cell? ⟨w.heap.size, 1, none⟩ = some (.int .i64 m.stage) := (HM2.out).cell (i := 1) (by omega); have u2 : (w2).cell? ⟨w.heap.size, 2, none⟩ = some (.slice m.A m.x.length m.c) := (HM2.out).cell (i := 2) (by omega); have u3 : (w2).cell? ⟨w.heap.size + 1, 0, none⟩ = some (.string b) := (HK2.out).cell (i := 0) (by omega); have u4 : (w2).cell? ⟨w.heap.size + 1, 1, none⟩ = some (.string s) := (HK2.out).cell (i := 1) (by omega)
   have HBW2 : Hid (Below W.heap.size W w2) := Lib.hid (HB1.out.trans (HB2.out.mono hz1))
   go_upto_region 7 with (first
    | (go_at_call 59; refine (hnew.out w2 (H.out.later HBW2.out).rd).mono ?_; rintro e w3 ⟨v3, rfl, hbd3, hb3⟩; obtain ⟨A1, c1, A3, c3, gs, rfl, hg1, hg2, o1, o3⟩ := hbd3; have HO1 := Lib.hid o1; have HO3 := Lib.hid o3; have HB3 := Lib.hid hb3; have hz3 := hb3.size; have HA3 := Lib.hid (HO2.out.later hb3); clear o1 o3 hb3)
    | (go_at_call 58; refine (hplay.out w3 A1 c1 A3 c3 A2 c2 (HO1.out.rd encString_len) (HO3.out.rd Rgr_enc_len) (HA3.out.rd Act__enc_len) (HT.out.later (hWb.out.trans ((HBW2.out.trans (HB3.out.mono (by omega))).mono (by omega))))).mono ?_; rintro e w4 hp4; obtain ⟨v4, AR, cR, gw, lo, hi, rfl, hbd4, hoR, p1, p2, p3, p4, p5, hb4⟩ := hp4; obtain ⟨B1, e1, B3, e3, gs4, rfl, _, _, _, _⟩ := hbd4; have HOR := Lib.hid hoR; have HB4 := Lib.hid hb4; have hz4 := hb4.size; clear hoR hb4 u0 u1 u2 u3 u4))
   go_wp2
   go_ret2
   rw [hD.out]
   have hbQ : ∀ o, Below w4.heap.size w4 (w4.alloc o) := fun o => (Below.refl _ _).alloc (Nat.le_refl _) o
   refine ⟨AR, cR, rfl, (HOR.out.later (hbQ _)).mono (by omega) (Nat.le_trans p4 (hbQ _).size), ?_⟩
   exact (((hWb.out.trans (HBW2.out.mono (by omega))).trans (HB3.out.mono (by omega))).trans (HB4.out.mono (by omega))).trans ((hbQ _).mono (by omega))
  ·have hD : Hid (ringR m b s t = ([], false)) := Lib.hid (by unfold ringR; rw [hL.out, if_neg (fun x => hle x.2)])
   have hgt : (400 : Int) < (L.length : Int) := by omega
   clear cg htab hL hx0
   obtain ⟨W, hWe, hWb, hWs, hM, hK⟩ : ∃ W : World, Hid ((w.alloc (.cells #[Value.string m.name, .int .i64 m.stage, .slice m.A m.x.length m.c] 26)).alloc (.cells #[Value.string b, .string s] 28) = W) ∧ Hid (Below w.heap.size w W) ∧ w.heap.size + 2 ≤ W.heap.size ∧ Hid (Cells W w.heap.size 3 (fun i => (#[Value.string m.name, .int .i64 m.stage, .slice m.A m.x.length m.c] : Array Value).getD i undef)) ∧ Hid (Cells W (w.heap.size + 1) 2 (fun i => (#[Value.string b, .string s] : Array Value).getD i undef)) := by
    have z1 : w.heap.size + 1 = (w.alloc (.cells #[Value.string m.name, .int .i64 m.stage, .slice m.A m.x.length m.c] 26)).heap.size := by simp
    refine ⟨_, Lib.hid rfl, Lib.hid (((Below.refl _ _).alloc (Nat.le_refl _) _).alloc (by simp) _), by simp, Lib.hid ?_, Lib.hid ?_⟩
    ·exact (Cells.newD _ #[Value.string m.name, .int .i64 m.stage, .slice m.A m.x.length m.c] _).alloc _
    ·rw [z1]; exact Cells.newD _ #[Value.string b, .string s] _
   have H := Lib.hid (h.later hWb.out)
   clear h
   have u0 : (W).cell? ⟨w.heap.size, 0, none⟩ = some (.string m.name) := (hM.out).cell (i := 0) (by omega)
   have u1 : (W).cell? ⟨w.heap.size, 1, none⟩ = some (.int .i64 m.stage) := (hM.out).cell (i := 1) (by omega)
   have u2 : (W).cell? ⟨w.heap.size, 2, none⟩ = some (.slice m.A m.x.length m.c) := (hM.out).cell (i := 2) (by omega)
   have u3 : (W).cell? ⟨w.heap.size + 1, 0, none⟩ = some (.string b) := (hK.out).cell (i := 0) (by omega)
   have u4 : (W).cell? ⟨w.heap.size + 1, 1, none⟩ = some (.string s) := (hK.out).cell (i := 1) (by omega)
   go_enter Tryz.func8, Tryz.ntmps8
   go_wp2_with fail
   rw [hWe.out]
   clear hWe
   go_wp2_with (first
    | (go_at_call 56; refine (goodFor_any m b s t _ H.out ht).mono ?_; rintro e w1 ⟨rfl, hb1⟩; have HB1 := Lib.hid hb1; have hz1 := hb1.size; have HM1 := Lib.hid (hM.out.later hb1); have HK1 := Lib.hid (hK.out.later hb1); clear hb1 u0 u1 u2 u3 u4; have u0 : (w1).cell? ⟨w.heap.size, 0, none⟩ = some (.string m.name) := (HM1.out).cell (i := 0) (by omega); have u1 : (w1).cell? ⟨w.heap.size, 1, none⟩ = some (.int .i64 m.stage) := (HM1.out).cell (i := 1) (by omega); have u2 : (w1).cell? ⟨w.heap.size, 2, none⟩ = some (.slice m.A m.x.length m.c) := (HM1.out).cell (i := 2) (by omega); have u3 : (w1).cell? ⟨w.heap.size + 1, 0, none⟩ = some (.string b) := (HK1.out).cell (i := 0) (by omega); have u4 : (w1).cell? ⟨w.heap.size + 1, 1, none⟩ = some (.string s) := (HK1.out).cell (i := 1) (by omega))
    | (go_at_call 57; refine (hacts.out w1).mono ?_; rintro e w2 ⟨A2, c2, rfl, ho2, hb2⟩; have HB2 := Lib.hid hb2; have hz2 := hb2.size; clear ho2 hb2 u0 u1 u2 u3 u4))
   go_ret2
   exact RingOut.no hD.out ((hWb.out.trans (HB1.out.mono (by omega))).trans (HB2.out.mono (by omega)))
 ·have e0 := B_f cg
  have hD : Hid (ringR m b s t = ([], false)) := Lib.hid (by unfold ringR; rw [if_neg (fun x => cg x.1)])
  clear cg htab
  obtain ⟨W, hWe, hWb, hWs, hM, hK⟩ : ∃ W : World, Hid ((w.alloc (.cells #[Value.string m.name, .int .i64 m.stage, .slice m.A m.x.length m.c] 26)).alloc (.cells #[Value.string b, .string s] 28) = W) ∧ Hid (Below w.heap.size w W) ∧ w.heap.size + 2 ≤ W.heap.size ∧ Hid (Cells W w.heap.size 3 (fun i => (#[Value.string m.name, .int .i64 m.stage, .slice m.A m.x.length m.c] : Array Value).getD i undef)) ∧ Hid (Cells W (w.heap.size + 1) 2 (fun i => (#[Value.string b, .string s] : Array Value).getD i undef)) := by
   have z1 : w.heap.size + 1 = (w.alloc (.cells #[Value.string m.name, .int .i64 m.stage, .slice m.A m.x.length m.c] 26)).heap.size := by simp
   refine ⟨_, Lib.hid rfl, Lib.hid (((Below.refl _ _).alloc (Nat.le_refl _) _).alloc (by simp) _), by simp, Lib.hid ?_, Lib.hid ?_⟩
   ·exact (Cells.newD _ #[Value.string m.name, .int .i64 m.stage, .slice m.A m.x.length m.c] _).alloc _
   ·rw [z1]; exact Cells.newD _ #[Value.string b, .string s] _
  have H := Lib.hid (h.later hWb.out)
  clear h
  have u0 : (W).cell? ⟨w.heap.size, 0, none⟩ = some (.string m.name) := (hM.out).cell (i := 0) (by omega)
  have u1 : (W).cell? ⟨w.heap.size, 1, none⟩ = some (.int .i64 m.stage) := (hM.out).cell (i := 1) (by omega)
  have u2 : (W).cell? ⟨w.heap.size, 2, none⟩ = some (.slice m.A m.x.length m.c) := (hM.out).cell (i := 2) (by omega)
  have u3 : (W).cell? ⟨w.heap.size + 1, 0, none⟩ = some (.string b) := (hK.out).cell (i := 0) (by omega)
  have u4 : (W).cell? ⟨w.heap.size + 1, 1, none⟩ = some (.string s) := (hK.out).cell (i := 1) (by omega)
  go_enter Tryz.func8, Tryz.ntmps8
  go_wp2_with fail
  rw [hWe.out]
  clear hWe
  go_wp2_with (go_at_call 56; refine (goodFor_any m b s t _ H.out ht).mono ?_; rintro e w1 ⟨rfl, hb1⟩; have HB1 := Lib.hid hb1; have hz1 := hb1.size; clear hb1 u0 u1 u2 u3 u4)
  go_ret2
  exact RingOut.no hD.out (hWb.out.trans (HB1.out.mono (by omega)))
theorem sGoodTouch_any (s : ByteArray) (w : World) (hs : s.size ≤ 9223372036854775800) : Calls Tryz.prog 62 #[.string s] w fun e w' => e = .returned (.bool (B (touchP s))) ∧ w = w' := by
 go_enter Tryz.func62, Tryz.ntmps62
 go_wp2_with (go_at_call 117; refine (l9Good_any s _ hs).mono ?_; rintro e w' ⟨rfl, rfl⟩)
 go_ret
 exact ⟨rfl, rfl⟩
set_option maxHeartbeats 3200000 in
theorem sRingTouch_any (m : Mth) (b s t : ByteArray) (w : World) (h : MkOk m b s w) (ht : t.size ≤ 1048576) (htab : Tab w) : Calls Tryz.prog 9 #[.agg #[Value.string m.name, .int .i64 m.stage, .slice m.A m.x.length m.c], .agg #[Value.string b, .string s], .string t] w fun e w' => RingOut (ringR m b s t) w e w' := by
 by_cases c0 : methP m
 rotate_left
 ·have e0 := B_f c0
  have hD : Hid (ringR m b s t = ([], false)) := Lib.hid (by unfold ringR; rw [if_neg (fun x => c0 x.1.1.1)])
  clear c0 htab
  obtain ⟨W, hWe, hWb, hWs, hM, hK⟩ : ∃ W : World, Hid ((w.alloc (.cells #[Value.string m.name, .int .i64 m.stage, .slice m.A m.x.length m.c] 26)).alloc (.cells #[Value.string b, .string s] 28) = W) ∧ Hid (Below w.heap.size w W) ∧ w.heap.size + 2 ≤ W.heap.size ∧ Hid (Cells W w.heap.size 3 (fun i => (#[Value.string m.name, .int .i64 m.stage, .slice m.A m.x.length m.c] : Array Value).getD i undef)) ∧ Hid (Cells W (w.heap.size + 1) 2 (fun i => (#[Value.string b, .string s] : Array Value).getD i undef)) := by
   have z1 : w.heap.size + 1 = (w.alloc (.cells #[Value.string m.name, .int .i64 m.stage, .slice m.A m.x.length m.c] 26)).heap.size := by simp
   refine ⟨_, Lib.hid rfl, Lib.hid (((Below.refl _ _).alloc (Nat.le_refl _) _).alloc (by simp) _), by simp, Lib.hid ?_, Lib.hid ?_⟩
   ·exact (Cells.newD _ #[Value.string m.name, .int .i64 m.stage, .slice m.A m.x.length m.c] _).alloc _
   ·rw [z1]; exact Cells.newD _ #[Value.string b, .string s] _
  have H := Lib.hid (h.later hWb.out)
  clear h
  have u0 : (W).cell? ⟨w.heap.size, 0, none⟩ = some (.string m.name) := (hM.out).cell (i := 0) (by omega)
  have u1 : (W).cell? ⟨w.heap.size, 1, none⟩ = some (.int .i64 m.stage) := (hM.out).cell (i := 1) (by omega)
  have u2 : (W).cell? ⟨w.heap.size, 2, none⟩ = some (.slice m.A m.x.length m.c) := (hM.out).cell (i := 2) (by omega)
  have u3 : (W).cell? ⟨w.heap.size + 1, 0, none⟩ = some (.string b) := (hK.out).cell (i := 0) (by omega)
  have u4 : (W).cell? ⟨w.heap.size + 1, 1, none⟩ = some (.string s) := (hK.out).cell (i := 1) (by omega)
  go_enter Tryz.func9, Tryz.ntmps9
  go_wp2_with fail
  rw [hWe.out]
  clear hWe
  go_wp2_with (go_at_call 60; refine (l4Good_any m _ H.out.rd H.out.nm H.out.xl H.out.xs).mono ?_; rintro e w1 ⟨rfl, hb1⟩; have HB1 := Lib.hid hb1; have hz1 := hb1.size; have HM1 := Lib.hid (hM.out.later hb1); have HK1 := Lib.hid (hK.out.later hb1); clear hb1 u0 u1 u2 u3 u4; have u0 : (w1).cell? ⟨w.heap.size, 0, none⟩ = some (.string m.name) := (HM1.out).cell (i := 0) (by omega); have u1 : (w1).cell? ⟨w.heap.size, 1, none⟩ = some (.int .i64 m.stage) := (HM1.out).cell (i := 1) (by omega); have u2 : (w1).cell? ⟨w.heap.size, 2, none⟩ = some (.slice m.A m.x.length m.c) := (HM1.out).cell (i := 2) (by omega); have u3 : (w1).cell? ⟨w.heap.size + 1, 0, none⟩ = some (.string b) := (HK1.out).cell (i := 0) (by omega); have u4 : (w1).cell? ⟨w.heap.size + 1, 1, none⟩ = some (.string s) := (HK1.out).cell (i := 1) (by omega))
  go_ret2
  exact RingOut.no hD.out (hWb.out.trans (HB1.out.mono (by omega)))
 have e0 := B_t c0
 by_cases c1 : callsP m b s
 rotate_left
 ·have e1 := B_f c1
  have hD : Hid (ringR m b s t = ([], false)) := Lib.hid (by unfold ringR; rw [if_neg (fun x => c1 x.1.1)])
  clear c0 c1 htab
  obtain ⟨W, hWe, hWb, hWs, hM, hK⟩ : ∃ W : World, Hid ((w.alloc (.cells #[Value.string m.name, .int .i64 m.stage, .slice m.A m.x.length m.c] 26)).alloc (.cells #[Value.string b, .string s] 28) = W) ∧ Hid (Below w.heap.size w W) ∧ w.heap.size + 2 ≤ W.heap.size ∧ Hid (Cells W w.heap.size 3 (fun i => (#[Value.string m.name, .int .i64 m.stage, .slice m.A m.x.length m.c] : Array Value).getD i undef)) ∧ Hid (Cells W (w.heap.size + 1) 2 (fun i => (#[Value.string b, .string s] : Array Value).getD i undef)) := by
   have z1 : w.heap.size + 1 = (w.alloc (.cells #[Value.string m.name, .int .i64 m.stage, .slice m.A m.x.length m.c] 26)).heap.size := by simp
   refine ⟨_, Lib.hid rfl, Lib.hid (((Below.refl _ _).alloc (Nat.le_refl _) _).alloc (by simp) _), by simp, Lib.hid ?_, Lib.hid ?_⟩
   ·exact (Cells.newD _ #[Value.string m.name, .int .i64 m.stage, .slice m.A m.x.length m.c] _).alloc _
   ·rw [z1]; exact Cells.newD _ #[Value.string b, .string s] _
  have H := Lib.hid (h.later hWb.out)
  clear h
  have u0 : (W).cell? ⟨w.heap.size, 0, none⟩ = some (.string m.name) := (hM.out).cell (i := 0) (by omega)
  have u1 : (W).cell? ⟨w.heap.size, 1, none⟩ = some (.int .i64 m.stage) := (hM.out).cell (i := 1) (by omega)
  have u2 : (W).cell? ⟨w.heap.size, 2, none⟩ = some (.slice m.A m.x.length m.c) := (hM.out).cell (i := 2) (by omega)
  have u3 : (W).cell? ⟨w.heap.size + 1, 0, none⟩ = some (.string b) := (hK.out).cell (i := 0) (by omega)
  have u4 : (W).cell? ⟨w.heap.size + 1, 1, none⟩ = some (.string s) := (hK.out).cell (i := 1) (by omega)
  go_enter Tryz.func9, Tryz.ntmps9
  go_wp2_with fail
  rw [hWe.out]
  clear hWe
  go_wp2_with (first
   | (go_at_call 60; refine (l4Good_any m _ H.out.rd H.out.nm H.out.xl H.out.xs).mono ?_; rintro e w1 ⟨rfl, hb1⟩; have HB1 := Lib.hid hb1; have hz1 := hb1.size; have HM1 := Lib.hid (hM.out.later hb1); have HK1 := Lib.hid (hK.out.later hb1); clear hb1 u0 u1 u2 u3 u4; have u0 : (w1).cell? ⟨w.heap.size, 0, none⟩ = some (.string m.name) := (HM1.out).cell (i := 0) (by omega); have u1 : (w1).cell? ⟨w.heap.size, 1, none⟩ = some (.int .i64 m.stage) := (HM1.out).cell (i := 1) (by omega); have u2 : (w1).cell? ⟨w.heap.size, 2, none⟩ = some (.slice m.A m.x.length m.c) := (HM1.out).cell (i := 2) (by omega); have u3 : (w1).cell? ⟨w.heap.size + 1, 0, none⟩ = some (.string b) := (HK1.out).cell (i := 0) (by omega); have u4 : (w1).cell? ⟨w.heap.size + 1, 1, none⟩ = some (.string s) := (HK1.out).cell (i := 1) (by omega))
   | (go_at_call 61; refine (sGoodCalls_any m b s _ (H.out.later HB1.out).rd H.out.nm H.out.xl H.out.xs H.out.bs H.out.ss).mono ?_; rintro e w2 ⟨rfl, hb2⟩; have HB2 := Lib.hid (HB1.out.trans (hb2.mono hz1)); have hz2 := hb2.size; have HM2 := Lib.hid (HM1.out.later hb2); have HK2 := Lib.hid (HK1.out.later hb2); clear hb2 u0 u1 u2 u3 u4; have u0 : (w2).cell? ⟨w.heap.size, 0, none⟩ = some (.string m.name) := (HM2.out).cell (i := 0) (by omega); have u1 : (w2).cell? ⟨w.heap.size, 1, none⟩ = some (.int .i64 m.stage) := (HM2.out).cell (i := 1) (by omega); have u2 : (w2).cell? ⟨w.heap.size, 2, none⟩ = some (.slice m.A m.x.length m.c) := (HM2.out).cell (i := 2) (by omega); have u3 : (w2).cell? ⟨w.heap.size + 1, 0, none⟩ = some (.string b) := (HK2.out).cell (i := 0) (by omega); have u4 : (w2).cell? ⟨w.heap.size + 1, 1, none⟩ = some (.string s) := (HK2.out).cell (i := 1) (by omega)))
  go_ret2
  exact RingOut.no hD.out (hWb.out.trans (HB2.out.mono (by omega)))
 have e1 := B_t c1
 by_cases c2 : touchP t
 rotate_left
 ·have e2 := B_f c2
  have hD : Hid (ringR m b s t = ([], false)) := Lib.hid (by unfold ringR; rw [if_neg (fun x => c2 x.1.2)])
  clear c0 c1 c2 htab
  obtain ⟨W, hWe, hWb, hWs, hM, hK⟩ : ∃ W : World, Hid ((w.alloc (.cells #[Value.string m.name, .int .i64 m.stage, .slice m.A m.x.length m.c] 26)).alloc (.cells #[Value.string b, .string s] 28) = W) ∧ Hid (Below w.heap.size w W) ∧ w.heap.size + 2 ≤ W.heap.size ∧ Hid (Cells W w.heap.size 3 (fun i => (#[Value.string m.name, .int .i64 m.stage, .slice m.A m.x.length m.c] : Array Value).getD i undef)) ∧ Hid (Cells W (w.heap.size + 1) 2 (fun i => (#[Value.string b, .string s] : Array Value).getD i undef)) := by
   have z1 : w.heap.size + 1 = (w.alloc (.cells #[Value.string m.name, .int .i64 m.stage, .slice m.A m.x.length m.c] 26)).heap.size := by simp
   refine ⟨_, Lib.hid rfl, Lib.hid (((Below.refl _ _).alloc (Nat.le_refl _) _).alloc (by simp) _), by simp, Lib.hid ?_, Lib.hid ?_⟩
   ·exact (Cells.newD _ #[Value.string m.name, .int .i64 m.stage, .slice m.A m.x.length m.c] _).alloc _
   ·rw [z1]; exact Cells.newD _ #[Value.string b, .string s] _
  have H := Lib.hid (h.later hWb.out)
  clear h
  have u0 : (W).cell? ⟨w.heap.size, 0, none⟩ = some (.string m.name) := (hM.out).cell (i := 0) (by omega)
  have u1 : (W).cell? ⟨w.heap.size, 1, none⟩ = some (.int .i64 m.stage) := (hM.out).cell (i := 1) (by omega)
  have u2 : (W).cell? ⟨w.heap.size, 2, none⟩ = some (.slice m.A m.x.length m.c) := (hM.out).cell (i := 2) (by omega)
  have u3 : (W).cell? ⟨w.heap.size + 1, 0, none⟩ = some (.string b) := (hK.out).cell (i := 0) (by omega)
  have u4 : (W).cell? ⟨w.heap.size + 1, 1, none⟩ = some (.string s) := (hK.out).cell (i := 1) (by omega)
  go_enter Tryz.func9, Tryz.ntmps9
  go_wp2_with fail
  rw [hWe.out]
  clear hWe
  go_wp2_with (first
   | (go_at_call 62; refine (sGoodTouch_any t _ (by omega)).mono ?_; rintro e w' ⟨rfl, rfl⟩)
   | (go_at_call 60; refine (l4Good_any m _ H.out.rd H.out.nm H.out.xl H.out.xs).mono ?_; rintro e w1 ⟨rfl, hb1⟩; have HB1 := Lib.hid hb1; have hz1 := hb1.size; have HM1 := Lib.hid (hM.out.later hb1); have HK1 := Lib.hid (hK.out.later hb1); clear hb1 u0 u1 u2 u3 u4; have u0 : (w1).cell? ⟨w.heap.size, 0, none⟩ = some (.string m.name) := (HM1.out).cell (i := 0) (by omega); have u1 : (w1).cell? ⟨w.heap.size, 1, none⟩ = some (.int .i64 m.stage) := (HM1.out).cell (i := 1) (by omega); have u2 : (w1).cell? ⟨w.heap.size, 2, none⟩ = some (.slice m.A m.x.length m.c) := (HM1.out).cell (i := 2) (by omega); have u3 : (w1).cell? ⟨w.heap.size + 1, 0, none⟩ = some (.string b) := (HK1.out).cell (i := 0) (by omega); have u4 : (w1).cell? ⟨w.heap.size + 1, 1, none⟩ = some (.string s) := (HK1.out).cell (i := 1) (by omega))
   | (go_at_call 61; refine (sGoodCalls_any m b s _ (H.out.later HB1.out).rd H.out.nm H.out.xl H.out.xs H.out.bs H.out.ss).mono ?_; rintro e w2 ⟨rfl, hb2⟩; have HB2 := Lib.hid (HB1.out.trans (hb2.mono hz1)); have hz2 := hb2.size; have HM2 := Lib.hid (HM1.out.later hb2); have HK2 := Lib.hid (HK1.out.later hb2); clear hb2 u0 u1 u2 u3 u4; have u0 : (w2).cell? ⟨w.heap.size, 0, none⟩ = some (.string m.name) := (HM2.out).cell (i := 0) (by omega); have u1 : (w2).cell? ⟨w.heap.size, 1, none⟩ = some (.int .i64 m.stage) := (HM2.out).cell (i := 1) (by omega); have u2 : (w2).cell? ⟨w.heap.size, 2, none⟩ = some (.slice m.A m.x.length m.c) := (HM2.out).cell (i := 2) (by omega); have u3 : (w2).cell? ⟨w.heap.size + 1, 0, none⟩ = some (.string b) := (HK2.out).cell (i := 0) (by omega); have u4 : (w2).cell? ⟨w.heap.size + 1, 1, none⟩ = some (.string s) := (HK2.out).cell (i := 1) (by omega)))
  go_ret2
  exact RingOut.no hD.out (hWb.out.trans (HB2.out.mono (by omega)))
 have e2 := B_t c2
 have hst := c1.1.2.stage
 have ht60 := c2.2.2
 have hx0 := c1.1.2.1.1
 have hxl := h.xl
 obtain ⟨L, hL⟩ : ∃ L, Hid (actsL t m.x.length = L) := ⟨_, Lib.hid rfl⟩
 have hacts : Hid (∀ W, Calls Tryz.prog 63 #[.agg #[Value.string m.name, .int .i64 m.stage, .slice m.A m.x.length m.c], .string t] W fun e w' => ∃ A2 c2, e = .returned (.slice A2 L.length c2) ∧ OwnL w' W.heap.size w'.heap.size A2 4 Act_.enc L ∧ Below W.heap.size W w') := Lib.hid fun W => by
  have := l24Acts_any m.name m.stage m.x m.A m.c t W ht60 hxl
  rw [hL.out] at this; exact this
 by_cases hle : L.length ≤ 400
 rotate_left
 ·have hD : Hid (ringR m b s t = ([], false)) := Lib.hid (by unfold ringR; rw [hL.out, if_neg (fun x => hle x.2)])
  have hgt : (400 : Int) < (L.length : Int) := by omega
  clear c0 c1 c2 htab hL hx0
  obtain ⟨W, hWe, hWb, hWs, hM, hK⟩ : ∃ W : World, Hid ((w.alloc (.cells #[Value.string m.name, .int .i64 m.stage, .slice m.A m.x.length m.c] 26)).alloc (.cells #[Value.string b, .string s] 28) = W) ∧ Hid (Below w.heap.size w W) ∧ w.heap.size + 2 ≤ W.heap.size ∧ Hid (Cells W w.heap.size 3 (fun i => (#[Value.string m.name, .int .i64 m.stage, .slice m.A m.x.length m.c] : Array Value).getD i undef)) ∧ Hid (Cells W (w.heap.size + 1) 2 (fun i => (#[Value.string b, .string s] : Array Value).getD i undef)) := by
   have z1 : w.heap.size + 1 = (w.alloc (.cells #[Value.string m.name, .int .i64 m.stage, .slice m.A m.x.length m.c] 26)).heap.size := by simp
   refine ⟨_, Lib.hid rfl, Lib.hid (((Below.refl _ _).alloc (Nat.le_refl _) _).alloc (by simp) _), by simp, Lib.hid ?_, Lib.hid ?_⟩
   ·exact (Cells.newD _ #[Value.string m.name, .int .i64 m.stage, .slice m.A m.x.length m.c] _).alloc _
   ·rw [z1]; exact Cells.newD _ #[Value.string b, .string s] _
  have H := Lib.hid (h.later hWb.out)
  clear h
  have u0 : (W).cell? ⟨w.heap.size, 0, none⟩ = some (.string m.name) := (hM.out).cell (i := 0) (by omega)
  have u1 : (W).cell? ⟨w.heap.size, 1, none⟩ = some (.int .i64 m.stage) := (hM.out).cell (i := 1) (by omega)
  have u2 : (W).cell? ⟨w.heap.size, 2, none⟩ = some (.slice m.A m.x.length m.c) := (hM.out).cell (i := 2) (by omega)
  have u3 : (W).cell? ⟨w.heap.size + 1, 0, none⟩ = some (.string b) := (hK.out).cell (i := 0) (by omega)
  have u4 : (W).cell? ⟨w.heap.size + 1, 1, none⟩ = some (.string s) := (hK.out).cell (i := 1) (by omega)
  go_enter Tryz.func9, Tryz.ntmps9
  go_wp2_with fail
  rw [hWe.out]
  clear hWe
  go_wp2_with (first
   | (go_at_call 62; refine (sGoodTouch_any t _ (by omega)).mono ?_; rintro e w' ⟨rfl, rfl⟩)
   | (go_at_call 60; refine (l4Good_any m _ H.out.rd H.out.nm H.out.xl H.out.xs).mono ?_; rintro e w1 ⟨rfl, hb1⟩; have HB1 := Lib.hid hb1; have hz1 := hb1.size; have HM1 := Lib.hid (hM.out.later hb1); have HK1 := Lib.hid (hK.out.later hb1); clear hb1 u0 u1 u2 u3 u4; have u0 : (w1).cell? ⟨w.heap.size, 0, none⟩ = some (.string m.name) := (HM1.out).cell (i := 0) (by omega); have u1 : (w1).cell? ⟨w.heap.size, 1, none⟩ = some (.int .i64 m.stage) := (HM1.out).cell (i := 1) (by omega); have u2 : (w1).cell? ⟨w.heap.size, 2, none⟩ = some (.slice m.A m.x.length m.c) := (HM1.out).cell (i := 2) (by omega); have u3 : (w1).cell? ⟨w.heap.size + 1, 0, none⟩ = some (.string b) := (HK1.out).cell (i := 0) (by omega); have u4 : (w1).cell? ⟨w.heap.size + 1, 1, none⟩ = some (.string s) := (HK1.out).cell (i := 1) (by omega))
   | (go_at_call 61; refine (sGoodCalls_any m b s _ (H.out.later HB1.out).rd H.out.nm H.out.xl H.out.xs H.out.bs H.out.ss).mono ?_; rintro e w2 ⟨rfl, hb2⟩; have HB2 := Lib.hid (HB1.out.trans (hb2.mono hz1)); have hz2 := hb2.size; have HM2 := Lib.hid (HM1.out.later hb2); have HK2 := Lib.hid (HK1.out.later hb2); clear hb2 u0 u1 u2 u3 u4; have u0 : (w2).cell? ⟨w.heap.size, 0, none⟩ = some (.string m.name) := (HM2.out).cell (i := 0) (by omega); have u1 : (w2).cell? ⟨w.heap.size, 1, none⟩ = some (.int .i64 m.stage) := (HM2.out).cell (i := 1) (by omega); have u2 : (w2).cell? ⟨w.heap.size, 2, none⟩ = some (.slice m.A m.x.length m.c) := (HM2.out).cell (i := 2) (by omega); have u3 : (w2).cell? ⟨w.heap.size + 1, 0, none⟩ = some (.string b) := (HK2.out).cell (i := 0) (by omega); have u4 : (w2).cell? ⟨w.heap.size + 1, 1, none⟩ = some (.string s) := (HK2.out).cell (i := 1) (by omega))
   | (go_at_call 63; refine (hacts.out w2).mono ?_; rintro e w4 ⟨A2, c2, rfl, ho4, hb4⟩; have HB4 := Lib.hid (HB2.out.trans (hb4.mono (by omega))); have hz4 := hb4.size; have HM4 := Lib.hid (HM2.out.later hb4); have HK4 := Lib.hid (HK2.out.later hb4); clear ho4 hb4 u0 u1 u2 u3 u4))
  go_ret2
  exact RingOut.no hD.out (hWb.out.trans (HB4.out.mono (by omega)))
 obtain ⟨N0, hN0⟩ : ∃ N0, Hid (newD0 m b s = N0) := ⟨_, Lib.hid rfl⟩
 have hN0p : Hid (bdP N0) := Lib.hid (by rw [← hN0.out]; exact newD0_ok c1)
 have hN0x : Hid (N0.x.length ≤ 1048576) := Lib.hid (by rw [← hN0.out]; exact hxl)
 obtain ⟨S, hS⟩ : ∃ S, Hid (playS N0 L L.length = S) := ⟨_, Lib.hid rfl⟩
 have hD : Hid (ringR m b s t = (S.2, true)) := Lib.hid (by unfold ringR; rw [hL.out, hN0.out, if_pos ⟨⟨c1, c2⟩, hle⟩, hS.out])
 obtain ⟨d, rows⟩ := S
 simp only at hD
 have hnew : Hid (∀ W, RdL W W.heap.size m.A 1 encString m.x → Calls Tryz.prog 65 #[.agg #[Value.string m.name, .int .i64 m.stage, .slice m.A m.x.length m.c], .agg #[Value.string b, .string s]] W fun e w' => BdOne N0 W e w') := Lib.hid fun W hW => by
  have := l24New_any m b s W hW hxl (by omega) (by have := hst.1; omega) (by have := hst.2; omega)
  rw [← hN0.out]; exact this.mono fun e w' hb => hb.one
 have hplay : Hid (∀ (W : World) (A1 : Option Addr) (c1 : Nat) (A3 : Option Addr) (c3 : Nat) (A2 : Option Addr) (c2 : Nat), RdL W W.heap.size A1 1 encString N0.x → RdL W W.heap.size A3 2 Rgr.enc N0.rx → RdL W W.heap.size A2 4 Act_.enc L → Tab W → Calls Tryz.prog 64 #[.agg #[.string N0.name, .int .i64 N0.stage, .slice A1 N0.x.length c1, .string N0.bob, .string N0.sing, .int .i64 N0.step, .string N0.call, .string N0.tru, .slice A3 N0.rx.length c3], .slice A2 L.length c2] W fun e w' => PlayRet (d, rows) W e w') := Lib.hid fun W A1 c1 A3 c3 A2 c2 k1 k2 k3 k4 => by
  have := l24Play_any (N0.bnd A1 c1 A3 c3) L A2 c2 W k1 k2 hN0x.out hN0p.out k3 (by omega) k4
  rw [Bd.bnd_bd, hS.out] at this; exact this
 have HT := Lib.hid htab
 have hle' : ¬ (400 : Int) < (L.length : Int) := by omega
 clear c0 c1 c2 htab hL hx0
 obtain ⟨W, hWe, hWb, hWs, hM, hK⟩ : ∃ W : World, Hid ((w.alloc (.cells #[Value.string m.name, .int .i64 m.stage, .slice m.A m.x.length m.c] 26)).alloc (.cells #[Value.string b, .string s] 28) = W) ∧ Hid (Below w.heap.size w W) ∧ w.heap.size + 2 ≤ W.heap.size ∧ Hid (Cells W w.heap.size 3 (fun i => (#[Value.string m.name, .int .i64 m.stage, .slice m.A m.x.length m.c] : Array Value).getD i undef)) ∧ Hid (Cells W (w.heap.size + 1) 2 (fun i => (#[Value.string b, .string s] : Array Value).getD i undef)) := by
  have z1 : w.heap.size + 1 = (w.alloc (.cells #[Value.string m.name, .int .i64 m.stage, .slice m.A m.x.length m.c] 26)).heap.size := by simp
  refine ⟨_, Lib.hid rfl, Lib.hid (((Below.refl _ _).alloc (Nat.le_refl _) _).alloc (by simp) _), by simp, Lib.hid ?_, Lib.hid ?_⟩
  ·exact (Cells.newD _ #[Value.string m.name, .int .i64 m.stage, .slice m.A m.x.length m.c] _).alloc _
  ·rw [z1]; exact Cells.newD _ #[Value.string b, .string s] _
 have H := Lib.hid (h.later hWb.out)
 clear h
 have u0 : (W).cell? ⟨w.heap.size, 0, none⟩ = some (.string m.name) := (hM.out).cell (i := 0) (by omega)
 have u1 : (W).cell? ⟨w.heap.size, 1, none⟩ = some (.int .i64 m.stage) := (hM.out).cell (i := 1) (by omega)
 have u2 : (W).cell? ⟨w.heap.size, 2, none⟩ = some (.slice m.A m.x.length m.c) := (hM.out).cell (i := 2) (by omega)
 have u3 : (W).cell? ⟨w.heap.size + 1, 0, none⟩ = some (.string b) := (hK.out).cell (i := 0) (by omega)
 have u4 : (W).cell? ⟨w.heap.size + 1, 1, none⟩ = some (.string s) := (hK.out).cell (i := 1) (by omega)
 go_enter Tryz.func9, Tryz.ntmps9
 go_wp2_with fail
 rw [hWe.out]
 clear hWe
 go_upto_region 3 with (first
  | (go_at_call 62; refine (sGoodTouch_any t _ (by omega)).mono ?_; rintro e w' ⟨rfl, rfl⟩)
  | (go_at_call 60; refine (l4Good_any m _ H.out.rd H.out.nm H.out.xl H.out.xs).mono ?_; rintro e w1 ⟨rfl, hb1⟩; have HB1 := Lib.hid hb1; have hz1 := hb1.size; have HM1 := Lib.hid (hM.out.later hb1); have HK1 := Lib.hid (hK.out.later hb1); clear hb1 u0 u1 u2 u3 u4; have u0 : (w1).cell? ⟨w.heap.size, 0, none⟩ = some (.string m.name) := (HM1.out).cell (i := 0) (by omega); have u1 : (w1).cell? ⟨w.heap.size, 1, none⟩ = some (.int .i64 m.stage) := (HM1.out).cell (i := 1) (by omega); have u2 : (w1).cell? ⟨w.heap.size, 2, none⟩ = some (.slice m.A m.x.length m.c) := (HM1.out).cell (i := 2) (by omega); have u3 : (w1).cell? ⟨w.heap.size + 1, 0, none⟩ = some (.string b) := (HK1.out).cell (i := 0) (by omega); have u4 : (w1).cell? ⟨w.heap.size + 1, 1, none⟩ = some (.string s) := (HK1.out).cell (i := 1) (by omega))
  | (go_at_call 61; refine (sGoodCalls_any m b s _ (H.out.later HB1.out).rd H.out.nm H.out.xl H.out.xs H.out.bs H.out.ss).mono ?_; rintro e w2 ⟨rfl, hb2⟩; have HB2 := Lib.hid (HB1.out.trans (hb2.mono hz1)); have hz2 := hb2.size; have HM2 := Lib.hid (HM1.out.later hb2); have HK2 := Lib.hid (HK1.out.later hb2); clear hb2 u0 u1 u2 u3 u4; have u0 : (w2).cell? ⟨w.heap.size, 0, none⟩ = some (.string m.name) := (HM2.out).cell (i := 0) (by omega); have u1 : (w2).cell? ⟨w.heap.size, 1, none⟩ = some (.int .i64 m.stage) := (HM2.out).cell (i := 1) (by omega); have u2 : (w2).cell? ⟨w.heap.size, 2, none⟩ = some (.slice m.A m.x.length m.c) := (HM2.out).cell (i := 2) (by omega); have u3 : (w2).cell? ⟨w.heap.size + 1, 0, none⟩ = some (.string b) := (HK2.out).cell (i := 0) (by omega); have u4 : (w2).cell? ⟨w.heap.size + 1, 1, none⟩ = some (.string s) := (HK2.out).cell (i := 1) (by omega))
  | (go_at_call 63; refine (hacts.out w2).mono ?_; rintro e w4 ⟨A2, c2, rfl, ho4, hb4⟩; have HB4 := Lib.hid (HB2.out.trans (hb4.mono (by omega))); have hz4 := hb4.size; have HM4 := Lib.hid (HM2.out.later hb4); have HK4 := Lib.hid (HK2.out.later hb4); clear ho4 hb4 u0 u1 u2 u3 u4))
 have u0 : (w4).cell? ⟨w.heap.size, 0, none⟩ = some (.string m.name) := (HM4.out).cell (i := 0) (by omega)
 have u1 : (w4).cell? ⟨w.heap.size, 1, none⟩ = some (.int .i64 m.stage) := (HM4.out).cell (i := 1) (by omega)
 have u2 : (w4).cell? ⟨w.heap.size, 2, none⟩ = some (.slice m.A m.x.length m.c) := (HM4.out).cell (i := 2) (by omega)
 have u3 : (w4).cell? ⟨w.heap.size + 1, 0, none⟩ = some (.string b) := (HK4.out).cell (i := 0) (by omega)
 have u4 : (w4).cell? ⟨w.heap.size + 1, 1, none⟩ = some (.string s) := (HK4.out).cell (i := 1) (by omega)
 have f0 := Later.cell u0 (show w.heap.size < w4.heap.size by omega)
 have f1 := Later.cell u1 (show w.heap.size < w4.heap.size by omega)
 have f2 := Later.cell u2 (show w.heap.size < w4.heap.size by omega)
 have f3 := Later.cell u3 (show w.heap.size + 1 < w4.heap.size by omega)
 have f4 := Later.cell u4 (show w.heap.size + 1 < w4.heap.size by omega)
 have H4 := Lib.hid (H.out.later HB4.out)
 have hzW := hWb.out.size
 have HT4 := Lib.hid (HT.out.later (hWb.out.trans (HB4.out.mono (by omega))))
 clear u0 u1 u2 u3 u4
 refine wp_region_G (by kernel_rfl) [.q, .q, .s (fun _ u lo hi w' => BdAt N0 u lo hi w'), .q, .q, .s (fun _ u lo hi w' => ∃ A2 c2, u = .slice A2 L.length c2 ∧ OwnL w' lo hi A2 4 Act_.enc L), .s (fun _ u lo hi w' => PlayAt2 d rows u lo hi w'), .q, .q, .q, .s (fun _ => gBox 9), .t, .q] [0, 0, 1, 0, 0, 1, 1, 0, 0, 0, 1, 2, 0] rfl 3 (by kernel_rfl) (inC w4) (w4).heap.size (inC.size w4) (inC.of (Below.refl _ _).drew) ?_
 (refine wpG_quiets 2 _ _ _ _ (by first | exact cls_none rfl | exact fun w h => h.1) (by intro j hj; rcases j with _ | _ | _ | _ | _ | _ | _ | _ | _ | _ | j <;> first | exact ⟨rfl, ⟨_, rfl, rfl⟩, rfl⟩ | (exfalso; omega)) ?_; simp only [List.take_succ_cons, List.take_zero, List.drop_succ_cons, List.drop_zero, Nat.zero_add, Nat.reduceAdd]; change wpQuiet _ _ (fun wq9 => ∃ x : Later w4, wq9 = x.W) _ _ _; (repeat (go_big_quiet_step (fail))); refine wpQuiet_nil ?_; try dsimp only)
 (refine wpG_call _ rfl rfl rfl rfl (fun u lo hi => loc_bd _ _ _ _) 65 #[.agg #[Value.string m.name, .int .i64 m.stage, .slice m.A m.x.length m.c], .agg #[Value.string b, .string s]] (by intro w; go_simp) (by intro w1 hw1 hd; (refine (hnew.out _ (H4.out.later hw1.below).rd).mono ?_; rintro e w2 ⟨v, rfl, hbd, hb⟩; exact ⟨_, rfl, hw1.step hb, eff_of_below hb, hbd⟩)) ?_)
 (intro ub lob hib hsat; obtain ⟨w1, hw1⟩ := hsat; have hr : BdAt N0 ub lob hib w1 := (hw1.rec rfl 2).2.2; obtain ⟨A1, c1, A3, c3, gsz, rfl, _⟩ := hr; clear hw1; simp only [Act.put, List.setIfInBounds_toArray, List.set_cons_zero, List.set_cons_succ, Nat.reduceAdd])
 (refine wpG_quiets 2 _ _ _ _ (by first | exact cls_none rfl | exact fun w h => h.1) (by intro j hj; rcases j with _ | _ | _ | _ | _ | _ | _ | _ | _ | _ | j <;> first | exact ⟨rfl, ⟨_, rfl, rfl⟩, rfl⟩ | (exfalso; omega)) ?_; simp only [List.take_succ_cons, List.take_zero, List.drop_succ_cons, List.drop_zero, Nat.zero_add, Nat.reduceAdd]; change wpQuiet _ _ (fun wq9 => ∃ x : Later w4, wq9 = x.W) _ _ _; (repeat (go_big_quiet_step (fail))); refine wpQuiet_nil ?_; try dsimp only)
 (refine wpG_call _ rfl rfl rfl rfl (fun u lo hi => loc_ex fun A => loc_ex fun c => loc_and (loc_pure _) (loc_own (Nat.le_refl _) (Nat.le_refl _))) 63 #[.agg #[Value.string m.name, .int .i64 m.stage, .slice m.A m.x.length m.c], .string t] (by intro w; go_simp) (by intro w1 hw1 hd; (refine (hacts.out _).mono ?_; rintro e w2 ⟨A2, c2, rfl, ho, hb⟩; exact ⟨_, rfl, hw1.step hb, eff_of_below hb, A2, c2, rfl, ho⟩)) ?_)
 (intro ua loa hia hsat; obtain ⟨w1, hw1⟩ := hsat; have hr : ∃ A2 c2, ua = .slice A2 L.length c2 ∧ OwnL w1 loa hia A2 4 Act_.enc L := (hw1.rec rfl 5).2.2; obtain ⟨A2, c2, rfl, _⟩ := hr; clear hw1; simp only [Act.put, List.setIfInBounds_toArray, List.set_cons_zero, List.set_cons_succ, Nat.reduceAdd])
 (refine wpG_call _ rfl rfl rfl rfl (fun u lo hi => loc_play2 _ _ _ _ _) 64 #[.agg #[.string N0.name, .int .i64 N0.stage, .slice A1 N0.x.length c1, .string N0.bob, .string N0.sing, .int .i64 N0.step, .string N0.call, .string N0.tru, .slice A3 N0.rx.length c3], .slice A2 L.length c2] (by intro w; go_simp) (by intro w1 hw1 hd; (have hd2 : BdAt N0 (.agg #[.string N0.name, .int .i64 N0.stage, .slice A1 N0.x.length c1, .string N0.bob, .string N0.sing, .int .i64 N0.step, .string N0.call, .string N0.tru, .slice A3 N0.rx.length c3]) lob hib w1 := (hd 2 (gDep_mem (by kernel_rfl))).2; obtain ⟨gs2, k1, k2, o1, o3⟩ := hd2.open; have hd5 : ∃ A c, Value.slice A2 L.length c2 = .slice A L.length c ∧ OwnL w1 loa hia A 4 Act_.enc L := (hd 5 (gDep_mem (by kernel_rfl))).2; obtain ⟨Az, cz, hez, oz⟩ := hd5; obtain ⟨rfl, rfl⟩ : A2 = Az ∧ c2 = cz := (by simpa using hez); refine (hplay.out w1 A1 c1 A3 c3 A2 c2 (o1.rd encString_len) (o3.rd Rgr_enc_len) (oz.rd Act__enc_len) (HT4.out.later hw1.below)).mono ?_; rintro e w2 hp; obtain ⟨u9, rfl, hpa, hb⟩ := hp.at2; exact ⟨_, rfl, hw1.step hb, eff_of_below hb, hpa⟩)) ?_)
 (intro up lop hip hsat; obtain ⟨w1, hw1⟩ := hsat; have hr : PlayAt2 d rows up lop hip w1 := (hw1.rec rfl 6).2.2; obtain ⟨v, AR, cR, _, _, _, rfl, _, _, _, _, _, _, ⟨B1, e1, B3, e3, gsz4, rfl, _⟩, _⟩ := hr; clear hw1; simp only [Act.put, List.setIfInBounds_toArray, List.set_cons_zero, List.set_cons_succ, Nat.reduceAdd])
 (refine wpG_quiets 3 _ _ _ _ (by first | exact cls_none rfl | exact fun w h => h.1) (by intro j hj; rcases j with _ | _ | _ | _ | _ | _ | _ | _ | _ | _ | j <;> first | exact ⟨rfl, ⟨_, rfl, rfl⟩, rfl⟩ | (exfalso; omega)) ?_; simp only [List.take_succ_cons, List.take_zero, List.drop_succ_cons, List.drop_zero, Nat.zero_add, Nat.reduceAdd]; change wpQuiet _ _ (fun wq9 => ∃ x : Later w4, wq9 = x.W) _ _ _; (repeat (go_big_quiet_step (fail))); refine wpQuiet_nil ?_; try dsimp only)
 (refine wpG_box 9 #[.string ⟨#[]⟩, .int .i64 0, .slice none 0 0, .string ⟨#[]⟩, .string ⟨#[]⟩, .int .i64 0, .string ⟨#[]⟩, .string ⟨#[]⟩, .slice none 0 0] 36 rfl rfl rfl rfl rfl (by intro w; go_simp) ?_; intro ubx bx hbx hsat; obtain ⟨w1, hw1⟩ := hsat; have hr : gBox 9 ubx bx hbx w1 := (hw1.rec rfl 10).2.2; obtain ⟨rfl, rfl, _⟩ := hr; clear hw1; simp only [Act.put, List.setIfInBounds_toArray, List.set_cons_zero, List.set_cons_succ, Nat.reduceAdd])
 (refine wpG_t (fun w' => setN w' bx 0 [.string d.name, .int .i64 d.stage, .slice B1 d.x.length e1, .string d.bob, .string d.sing, .int .i64 d.step, .string d.call, .string d.tru, .slice B3 d.rx.length e3]) rfl rfl rfl rfl (by intro w1 hw1; have hr : gBox 9 (.pointer (some ⟨bx, 0, none⟩)) bx (bx + 1) w1 := (hw1.rec rfl 10).2.2; have hlo : w4.heap.size ≤ bx := (hw1.rng rfl 10 rfl).1; obtain ⟨_, _, f, hcf⟩ := hr; have p0 := hcf.cell (i := 0) (by omega); have q0 := hcf.free (i := 0) (by omega); have p1 := hcf.cell (i := 1) (by omega); have q1 := hcf.free (i := 1) (by omega); have p2 := hcf.cell (i := 2) (by omega); have q2 := hcf.free (i := 2) (by omega); have p3 := hcf.cell (i := 3) (by omega); have q3 := hcf.free (i := 3) (by omega); have p4 := hcf.cell (i := 4) (by omega); have q4 := hcf.free (i := 4) (by omega); have p5 := hcf.cell (i := 5) (by omega); have q5 := hcf.free (i := 5) (by omega); have p6 := hcf.cell (i := 6) (by omega); have q6 := hcf.free (i := 6) (by omega); have p7 := hcf.cell (i := 7) (by omega); have q7 := hcf.free (i := 7) (by omega); have p8 := hcf.cell (i := 8) (by omega); have q8 := hcf.free (i := 8) (by omega); have hC1 := (hw1.cls rfl).below; clear hw1; refine ⟨?_, inC.of (Below.setN hlo _ hC1)⟩; simp only [setN]; go_simp; try rfl) ?_)
 simp only [Act.put, List.setIfInBounds_toArray, List.set_cons_zero, List.set_cons_succ, Nat.reduceAdd]
 (refine wpG_quiets 1 _ _ _ _ (by first | exact cls_none rfl | exact fun w h => h.1) (by intro j hj; rcases j with _ | _ | _ | _ | _ | _ | _ | _ | _ | _ | j <;> first | exact ⟨rfl, ⟨_, rfl, rfl⟩, rfl⟩ | (exfalso; omega)) ?_; simp only [List.take_succ_cons, List.take_zero, List.drop_succ_cons, List.drop_zero, Nat.zero_add, Nat.reduceAdd]; change wpQuiet _ _ (fun wq9 => ∃ x : Later w4, wq9 = x.W) _ _ _; (repeat (go_big_quiet_step (fail))); refine wpQuiet_nil ?_; try dsimp only)
 intro w' hh
 obtain ⟨_, wz, hz, rfl⟩ := hh
 have hF : PlayAt2 d rows (Value.tuple #[.agg #[.string d.name, .int .i64 d.stage, .slice B1 d.x.length e1, .string d.bob, .string d.sing, .int .i64 d.step, .string d.call, .string d.tru, .slice B3 d.rx.length e3], .slice AR rows.length cR]) lop hip wz := (hz.rec rfl 6).2.2
 obtain ⟨v2, A5, c5, gw, l2, h2, he2, hj1, hj2, hj3, hj4, hj5, hj6, hbd, hoR⟩ := hF
 obtain ⟨rfl, rfl, rfl⟩ : Value.agg #[.string d.name, .int .i64 d.stage, .slice B1 d.x.length e1, .string d.bob, .string d.sing, .int .i64 d.step, .string d.call, .string d.tru, .slice B3 d.rx.length e3] = v2 ∧ AR = A5 ∧ cR = c5 := by simpa using he2
 obtain ⟨hl1, hl2, hl3⟩ : w4.heap.size ≤ lop ∧ lop ≤ hip ∧ hip ≤ wz.heap.size := hz.rng rfl 6 rfl
 obtain ⟨hx1, _, hx3⟩ : w4.heap.size ≤ bx ∧ bx ≤ bx + 1 ∧ bx + 1 ≤ wz.heap.size := hz.rng rfl 10 rfl
 have hap : hip ≤ bx ∨ bx + 1 ≤ lop := hz.apart rfl 6 10 (by omega)
 have hbz := (hz.cls rfl).below
 have hck : Chg bx (bx + 1) wz (setN wz bx 0 [.string d.name, .int .i64 d.stage, .slice B1 d.x.length e1, .string d.bob, .string d.sing, .int .i64 d.step, .string d.call, .string d.tru, .slice B3 d.rx.length e3]) := Chg.setN (Nat.le_refl _) (Nat.lt_succ_self _) _ (Chg.refl _ _ _)
 have hsz9 := setN_size bx [.string d.name, .int .i64 d.stage, .slice B1 d.x.length e1, .string d.bob, .string d.sing, .int .i64 d.step, .string d.call, .string d.tru, .slice B3 d.rx.length e3] wz 0
 have hb : Below w4.heap.size w4 (setN wz bx 0 [.string d.name, .int .i64 d.stage, .slice B1 d.x.length e1, .string d.bob, .string d.sing, .int .i64 d.step, .string d.call, .string d.tru, .slice B3 d.rx.length e3]) := Below.setN hx1 _ hbz
 have HOR := Lib.hid (hoR.chg hck (by omega))
 have HBF := Lib.hid hb
 clear hoR hb hbd he2 hz hck f0 f1 f2 f3 f4
 rw [← hsz9] at hl3
 clear hsz9
 generalize setN wz bx 0 [.string d.name, .int .i64 d.stage, .slice B1 d.x.length e1, .string d.bob, .string d.sing, .int .i64 d.step, .string d.call, .string d.tru, .slice B3 d.rx.length e3] = wf at *
 go_wp2_with fail
 go_ret2
 rw [hD.out]
 exact ⟨AR, cR, rfl, HOR.out.mono (by omega) (by omega), (hWb.out.trans (HB4.out.mono (by omega))).trans (HBF.out.mono (by omega))⟩
end Go.Proofs.YtkegbbndmfnolaaGreatDoor
