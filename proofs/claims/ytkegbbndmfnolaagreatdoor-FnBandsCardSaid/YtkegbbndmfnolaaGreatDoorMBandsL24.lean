import Derived.Test.YtkegbbndmfnolaaGreatDoorMBandsL23
/-
 PlayBand: contracts of both sides.
-/
namespace Go.Proofs.YtkegbbndmfnolaaGreatDoor
open Go.RowKit
set_option linter.unusedVariables false
set_option linter.unusedSimpArgs false
set_option maxRecDepth 100000





open Classical in
/-- What PlayBand answers. -/
noncomputable def playBD (b : Bnd) (l : List Act_) : Bd × List ByteArray × Bool := if bandP b ∧ l.length ≤ 400 then ((playS b.bd l l.length).1, (playS b.bd l l.length).2, true) else (Bd.zero, [], false)
/-- A band and its rows in a value: their blocks lie apart. -/
def PlayAt (d : Bd) (rows : List ByteArray) (ok : Bool) (u : Value) (lo hi : Nat) (w : World) : Prop := ∃ v A c gw l2 h2, u = .tuple #[v, .slice A rows.length c, .bool ok] ∧ lo ≤ l2 ∧ l2 ≤ h2 ∧ h2 ≤ hi ∧ lo ≤ gw ∧ gw + 1 ≤ hi ∧ (gw + 1 ≤ l2 ∨ h2 ≤ gw) ∧ BdAt d v l2 h2 w ∧ OwnL w gw (gw + 1) A 1 encString rows
def PlayB (r : Bd × List ByteArray × Bool) (w : World) (e : Ending) (w' : World) : Prop := ∃ u, e = .returned u ∧ PlayAt r.1 r.2.1 r.2.2 u w.heap.size w'.heap.size w' ∧ Below w.heap.size w w'
theorem playBD_small {b : Bnd} {l : List Act_} (h : b.m.x.length ≤ 1048576) (hr : b.rx.length ≤ 1048576) (hl : l.length ≤ 1048576) : (playBD b l).1.x.length ≤ 1048576 ∧ (playBD b l).1.rx.length ≤ 1048576 ∧ (playBD b l).2.1.length ≤ 1048576 := by
 unfold playBD
 split
 ·rename_i hc
  have h1 := (playS_keep (d := b.bd) (l := l) l.length).1
  have h2 := playS_inv (d := b.bd) (l := l) hc.1 l.length
  have h3 := h2.1.2.2.2.2.1
  have h4 := h2.1.1.1.2.stage.2
  refine ⟨by show (playS b.bd l l.length).1.x.length ≤ _; rw [h1]; exact h, ?_, Nat.le_trans h2.2.1 hl⟩
  show (playS b.bd l l.length).1.rx.length ≤ _
  have h5 : ((playS b.bd l l.length).1.rx.length : Int) = (playS b.bd l l.length).1.stage := h3
  have h6 : (playS b.bd l l.length).1.stage ≤ 8 := h4
  omega
 ·exact ⟨Nat.zero_le _, Nat.zero_le _, Nat.zero_le _⟩
set_option maxHeartbeats 3200000 in
theorem iPlayBand_any (b : Bnd) (l : List Act_) (A : Option Addr) (c : Nat) (w : World) (h : b.Ok w) (ha : RdL w w.heap.size A 4 Act_.enc l) (hn : l.length ≤ 1048576) (htab : Tab w) : Calls Tryz.prog 13 #[.agg #[.string b.m.name, .int .i64 b.m.stage, .slice b.m.A b.m.x.length b.m.c, .string b.bob, .string b.sing, .int .i64 b.step, .string b.call, .string b.tru, .slice b.RA b.rx.length b.rc], .slice A l.length c] w fun e w' => PlayB (playBD b l) w e w' := by
 by_cases c0 : bandP b
 ·have e0 := B_t c0
  have C0 := Lib.hid c0
  by_cases hle : l.length ≤ 400
  ·obtain ⟨S, hS⟩ : ∃ S, Hid (playS b.bd l l.length = S) := ⟨_, Lib.hid rfl⟩
   have hD : Hid (playBD b l = (S.1, S.2, true)) := Lib.hid (by unfold playBD; rw [if_pos ⟨c0, hle⟩, hS.out])
   obtain ⟨d, rows⟩ := S
   simp only at hD
   clear c0
   obtain ⟨W, hWe, hWs, hWb, hB, hZ⟩ : ∃ W : World, Hid (((w.alloc (.cells #[.string b.m.name, .int .i64 b.m.stage, .slice b.m.A b.m.x.length b.m.c, .string b.bob, .string b.sing, .int .i64 b.step, .string b.call, .string b.tru, .slice b.RA b.rx.length b.rc] 36)).alloc (.cells #[Value.string ⟨#[]⟩, .int .i64 0, .slice none 0 0, .string ⟨#[]⟩, .string ⟨#[]⟩, .int .i64 0, .string ⟨#[]⟩, .string ⟨#[]⟩, .slice none 0 0] 36)) = W) ∧ Hid (W.heap.size = w.heap.size + 2) ∧ Hid (Below w.heap.size w W) ∧ Hid (Cells W w.heap.size 9 (fun i => (#[Value.string b.m.name, .int .i64 b.m.stage, .slice b.m.A b.m.x.length b.m.c, .string b.bob, .string b.sing, .int .i64 b.step, .string b.call, .string b.tru, .slice b.RA b.rx.length b.rc] : Array Value).getD i undef)) ∧ Hid (Cells W (w.heap.size + 1) 9 (fun i => (#[Value.string ⟨#[]⟩, .int .i64 0, .slice none 0 0, .string ⟨#[]⟩, .string ⟨#[]⟩, .int .i64 0, .string ⟨#[]⟩, .string ⟨#[]⟩, .slice none 0 0] : Array Value).getD i undef)) := by
    have z1 : w.heap.size + 1 = (w.alloc (.cells #[.string b.m.name, .int .i64 b.m.stage, .slice b.m.A b.m.x.length b.m.c, .string b.bob, .string b.sing, .int .i64 b.step, .string b.call, .string b.tru, .slice b.RA b.rx.length b.rc] 36)).heap.size := by simp
    refine ⟨_, Lib.hid rfl, Lib.hid (by simp), Lib.hid (((Below.refl _ _).alloc (Nat.le_refl _) _).alloc (by simp) _), Lib.hid ?_, Lib.hid ?_⟩
    ·exact (Cells.newD _ #[.string b.m.name, .int .i64 b.m.stage, .slice b.m.A b.m.x.length b.m.c, .string b.bob, .string b.sing, .int .i64 b.step, .string b.call, .string b.tru, .slice b.RA b.rx.length b.rc] _).alloc _
    ·rw [z1]; exact Cells.newD _ #[Value.string ⟨#[]⟩, .int .i64 0, .slice none 0 0, .string ⟨#[]⟩, .string ⟨#[]⟩, .int .i64 0, .string ⟨#[]⟩, .string ⟨#[]⟩, .slice none 0 0] _
   have hWs1 : w.heap.size + 2 ≤ W.heap.size := by have := hWs.out; omega
   have hok : Hid (b.Ok W) := Lib.hid (⟨(h.ch.below hWb.out (Nat.le_refl _)).more hWb.out.size, (h.ri.below hWb.out (Nat.le_refl _)).more hWb.out.size, h.nm, h.cl, h.cs, h.bs, h.ss, h.ks, h.ts, h.rl⟩)
   have hcl := h.cl
   have HA := Lib.hid (show RdL W W.heap.size A 4 Act_.enc l from (ha.below hWb.out (Nat.le_refl _)).more hWb.out.size)
   have HT := Lib.hid (htab.later hWb.out)
   clear h ha htab
   have u0 : W.cell? ⟨w.heap.size, 0, none⟩ = some (.string b.m.name) := hB.out.cell (i := 0) (by omega)
   have u1 : W.cell? ⟨w.heap.size, 1, none⟩ = some (.int .i64 b.m.stage) := hB.out.cell (i := 1) (by omega)
   have u2 : W.cell? ⟨w.heap.size, 2, none⟩ = some (.slice b.m.A b.m.x.length b.m.c) := hB.out.cell (i := 2) (by omega)
   have u3 : W.cell? ⟨w.heap.size, 3, none⟩ = some (.string b.bob) := hB.out.cell (i := 3) (by omega)
   have u4 : W.cell? ⟨w.heap.size, 4, none⟩ = some (.string b.sing) := hB.out.cell (i := 4) (by omega)
   have u5 : W.cell? ⟨w.heap.size, 5, none⟩ = some (.int .i64 b.step) := hB.out.cell (i := 5) (by omega)
   have u6 : W.cell? ⟨w.heap.size, 6, none⟩ = some (.string b.call) := hB.out.cell (i := 6) (by omega)
   have u7 : W.cell? ⟨w.heap.size, 7, none⟩ = some (.string b.tru) := hB.out.cell (i := 7) (by omega)
   have u8 : W.cell? ⟨w.heap.size, 8, none⟩ = some (.slice b.RA b.rx.length b.rc) := hB.out.cell (i := 8) (by omega)
   have hcall : Hid (∀ w1, Below W.heap.size W w1 → Calls Tryz.prog 58 #[.agg #[.string b.m.name, .int .i64 b.m.stage, .slice b.m.A b.m.x.length b.m.c, .string b.bob, .string b.sing, .int .i64 b.step, .string b.call, .string b.tru, .slice b.RA b.rx.length b.rc], .slice A l.length c] w1 fun e w' => PlayRet (d, rows) w1 e w') := Lib.hid (fun w1 hb1 => by
    have := played_any b l A c w1 ((hok.out.ch.below hb1 (Nat.le_refl _)).more hb1.size) ((hok.out.ri.below hb1 (Nat.le_refl _)).more hb1.size) hcl C0.out ((HA.out.below hb1 (Nat.le_refl _)).more hb1.size) hn (HT.out.later hb1)
    rw [hS.out] at this; exact this)
   go_enter Tryz.func13, Tryz.ntmps13
   go_wp2_with fail
   rw [hWe.out]
   clear hWe
   go_upto_region 3 with (go_at_call 16; refine (iBand_any b _ hok.out).mono ?_; rintro e w1 ⟨rfl, hb1⟩; have hBW : Hid (Below W.heap.size W w1) := Lib.hid hb1; clear u0 u1 u2 u3 u4 u5 u6 u7 u8)
   have u0 := (hB.out.later hBW.out).cell (i := 0) (by omega); have u1 := (hB.out.later hBW.out).cell (i := 1) (by omega); have u2 := (hB.out.later hBW.out).cell (i := 2) (by omega); have u3 := (hB.out.later hBW.out).cell (i := 3) (by omega); have u4 := (hB.out.later hBW.out).cell (i := 4) (by omega); have u5 := (hB.out.later hBW.out).cell (i := 5) (by omega); have u6 := (hB.out.later hBW.out).cell (i := 6) (by omega); have u7 := (hB.out.later hBW.out).cell (i := 7) (by omega); have u8 := (hB.out.later hBW.out).cell (i := 8) (by omega)
   go_upto_region 4 with (go_at_call 58; refine (hcall.out _ hBW.out).mono ?_; rintro e w2 hp; obtain ⟨v, AR, cR, gw, lo, hi, rfl, hbd, hoR, p1, p2, p3, p4, p5, hb2'⟩ := hp; obtain ⟨A1, c1, A3, c3, gs, rfl, hg1, hg2, ho1, ho3⟩ := hbd; have HO1 := Lib.hid ho1; have HO3 := Lib.hid ho3; have HOR := Lib.hid hoR; have hb2 := Lib.hid hb2'; clear ho1 ho3 hoR hb2' u0 u1 u2 u3 u4 u5 u6 u7 u8)
   have hg2z := hb2.out.size
   have hWsz := hBW.out.size
   obtain ⟨Q, hQe, hbQ, hCQ⟩ : ∃ Q : World, Hid (w2.alloc (.cells #[.string d.name, .int .i64 d.stage, .slice A1 d.x.length c1, .string d.bob, .string d.sing, .int .i64 d.step, .string d.call, .string d.tru, .slice A3 d.rx.length c3] 36) = Q) ∧ Hid (Below w2.heap.size w2 Q) ∧ Hid (Cells Q w2.heap.size 9 (fun i => (#[Value.string d.name, .int .i64 d.stage, .slice A1 d.x.length c1, .string d.bob, .string d.sing, .int .i64 d.step, .string d.call, .string d.tru, .slice A3 d.rx.length c3] : Array Value).getD i undef)) := ⟨_, Lib.hid rfl, Lib.hid ((Below.refl _ _).alloc (Nat.le_refl _) _), Lib.hid (Cells.newD _ #[.string d.name, .int .i64 d.stage, .slice A1 d.x.length c1, .string d.bob, .string d.sing, .int .i64 d.step, .string d.call, .string d.tru, .slice A3 d.rx.length c3] _)⟩
   rw [hQe.out]
   clear hQe
   have hQsz := hbQ.out.size
   have hZQ := Lib.hid (((hZ.out.later hBW.out).later hb2.out).later hbQ.out)
   have q0 := (hCQ.out).cell (i := 0) (by omega); have q1 := (hCQ.out).cell (i := 1) (by omega); have q2 := (hCQ.out).cell (i := 2) (by omega); have q3 := (hCQ.out).cell (i := 3) (by omega); have q4 := (hCQ.out).cell (i := 4) (by omega); have q5 := (hCQ.out).cell (i := 5) (by omega); have q6 := (hCQ.out).cell (i := 6) (by omega); have q7 := (hCQ.out).cell (i := 7) (by omega); have q8 := (hCQ.out).cell (i := 8) (by omega)
   have p0 := (hZQ.out).cell (i := 0) (by omega); have p1 := (hZQ.out).cell (i := 1) (by omega); have p2 := (hZQ.out).cell (i := 2) (by omega); have p3 := (hZQ.out).cell (i := 3) (by omega); have p4 := (hZQ.out).cell (i := 4) (by omega); have p5 := (hZQ.out).cell (i := 5) (by omega); have p6 := (hZQ.out).cell (i := 6) (by omega); have p7 := (hZQ.out).cell (i := 7) (by omega); have p8 := (hZQ.out).cell (i := 8) (by omega)
   have f0 := (hZQ.out).free (i := 0) (by omega); have f1 := (hZQ.out).free (i := 1) (by omega); have f2 := (hZQ.out).free (i := 2) (by omega); have f3 := (hZQ.out).free (i := 3) (by omega); have f4 := (hZQ.out).free (i := 4) (by omega); have f5 := (hZQ.out).free (i := 5) (by omega); have f6 := (hZQ.out).free (i := 6) (by omega); have f7 := (hZQ.out).free (i := 7) (by omega); have f8 := (hZQ.out).free (i := 8) (by omega)
   go_wp2
   refine bodyPost_ret (v := .tuple #[.agg #[.string d.name, .int .i64 d.stage, .slice A1 d.x.length c1, .string d.bob, .string d.sing, .int .i64 d.step, .string d.call, .string d.tru, .slice A3 d.rx.length c3], .slice AR rows.length cR, .bool true]) (by simp [results, Tryz.results13, go_sem, p0, p1, p2, p3, p4, p5, p6, p7, p8, f0, f1, f2, f3, f4, f5, f6, f7, f8]) rfl ?_
   have kk : Chg (w.heap.size + 1) (w.heap.size + 1 + 1) Q (setN Q (w.heap.size + 1) 0 [.string d.name, .int .i64 d.stage, .slice A1 d.x.length c1, .string d.bob, .string d.sing, .int .i64 d.step, .string d.call, .string d.tru, .slice A3 d.rx.length c3]) := Chg.setN (Nat.le_refl _) (Nat.lt_succ_self _) _ (Chg.refl _ _ Q)
   have hBB := Below.chg ((hWb.out.trans (hBW.out.mono hWb.out.size)).trans ((hb2.out.trans (hbQ.out.mono hb2.out.size)).mono (by omega))) kk (by omega) (by omega)
   have hks := kk.size
   refine ⟨_, rfl, ?_, hBB⟩
   rw [hD.out]
   exact ⟨_, AR, cR, gw, lo, hi, rfl, by omega, by omega, Nat.le_trans (show hi ≤ Q.heap.size by omega) hks, by omega, Nat.le_trans (show gw + 1 ≤ Q.heap.size by omega) hks, by omega, ⟨A1, c1, A3, c3, gs, rfl, hg1, hg2, (HO1.out.later hbQ.out).chg kk (.inr (by omega)), (HO3.out.later hbQ.out).chg kk (.inr (by omega))⟩, (HOR.out.later hbQ.out).chg kk (.inr (by omega))⟩
  ·have hD : Hid (playBD b l = (Bd.zero, [], false)) := Lib.hid (by unfold playBD; rw [if_neg (fun x => hle x.2)])
   clear c0
   have hgt : (400 : Int) < (l.length : Int) := by omega
   obtain ⟨W, hWe, hWs, hWb, hB, hZ⟩ : ∃ W : World, Hid (((w.alloc (.cells #[.string b.m.name, .int .i64 b.m.stage, .slice b.m.A b.m.x.length b.m.c, .string b.bob, .string b.sing, .int .i64 b.step, .string b.call, .string b.tru, .slice b.RA b.rx.length b.rc] 36)).alloc (.cells #[Value.string ⟨#[]⟩, .int .i64 0, .slice none 0 0, .string ⟨#[]⟩, .string ⟨#[]⟩, .int .i64 0, .string ⟨#[]⟩, .string ⟨#[]⟩, .slice none 0 0] 36)) = W) ∧ Hid (W.heap.size = w.heap.size + 2) ∧ Hid (Below w.heap.size w W) ∧ Hid (Cells W w.heap.size 9 (fun i => (#[Value.string b.m.name, .int .i64 b.m.stage, .slice b.m.A b.m.x.length b.m.c, .string b.bob, .string b.sing, .int .i64 b.step, .string b.call, .string b.tru, .slice b.RA b.rx.length b.rc] : Array Value).getD i undef)) ∧ Hid (Cells W (w.heap.size + 1) 9 (fun i => (#[Value.string ⟨#[]⟩, .int .i64 0, .slice none 0 0, .string ⟨#[]⟩, .string ⟨#[]⟩, .int .i64 0, .string ⟨#[]⟩, .string ⟨#[]⟩, .slice none 0 0] : Array Value).getD i undef)) := by
    have z1 : w.heap.size + 1 = (w.alloc (.cells #[.string b.m.name, .int .i64 b.m.stage, .slice b.m.A b.m.x.length b.m.c, .string b.bob, .string b.sing, .int .i64 b.step, .string b.call, .string b.tru, .slice b.RA b.rx.length b.rc] 36)).heap.size := by simp
    refine ⟨_, Lib.hid rfl, Lib.hid (by simp), Lib.hid (((Below.refl _ _).alloc (Nat.le_refl _) _).alloc (by simp) _), Lib.hid ?_, Lib.hid ?_⟩
    ·exact (Cells.newD _ #[.string b.m.name, .int .i64 b.m.stage, .slice b.m.A b.m.x.length b.m.c, .string b.bob, .string b.sing, .int .i64 b.step, .string b.call, .string b.tru, .slice b.RA b.rx.length b.rc] _).alloc _
    ·rw [z1]; exact Cells.newD _ #[Value.string ⟨#[]⟩, .int .i64 0, .slice none 0 0, .string ⟨#[]⟩, .string ⟨#[]⟩, .int .i64 0, .string ⟨#[]⟩, .string ⟨#[]⟩, .slice none 0 0] _
   have hWs1 : w.heap.size + 2 ≤ W.heap.size := by have := hWs.out; omega
   have hok : Hid (b.Ok W) := Lib.hid (⟨(h.ch.below hWb.out (Nat.le_refl _)).more hWb.out.size, (h.ri.below hWb.out (Nat.le_refl _)).more hWb.out.size, h.nm, h.cl, h.cs, h.bs, h.ss, h.ks, h.ts, h.rl⟩)
   have hcl := h.cl
   have HA := Lib.hid (show RdL W W.heap.size A 4 Act_.enc l from (ha.below hWb.out (Nat.le_refl _)).more hWb.out.size)
   have HT := Lib.hid (htab.later hWb.out)
   clear h ha htab
   have u0 : W.cell? ⟨w.heap.size, 0, none⟩ = some (.string b.m.name) := hB.out.cell (i := 0) (by omega)
   have u1 : W.cell? ⟨w.heap.size, 1, none⟩ = some (.int .i64 b.m.stage) := hB.out.cell (i := 1) (by omega)
   have u2 : W.cell? ⟨w.heap.size, 2, none⟩ = some (.slice b.m.A b.m.x.length b.m.c) := hB.out.cell (i := 2) (by omega)
   have u3 : W.cell? ⟨w.heap.size, 3, none⟩ = some (.string b.bob) := hB.out.cell (i := 3) (by omega)
   have u4 : W.cell? ⟨w.heap.size, 4, none⟩ = some (.string b.sing) := hB.out.cell (i := 4) (by omega)
   have u5 : W.cell? ⟨w.heap.size, 5, none⟩ = some (.int .i64 b.step) := hB.out.cell (i := 5) (by omega)
   have u6 : W.cell? ⟨w.heap.size, 6, none⟩ = some (.string b.call) := hB.out.cell (i := 6) (by omega)
   have u7 : W.cell? ⟨w.heap.size, 7, none⟩ = some (.string b.tru) := hB.out.cell (i := 7) (by omega)
   have u8 : W.cell? ⟨w.heap.size, 8, none⟩ = some (.slice b.RA b.rx.length b.rc) := hB.out.cell (i := 8) (by omega)
   go_enter Tryz.func13, Tryz.ntmps13
   go_wp2_with fail
   rw [hWe.out]
   clear hWe
   go_upto_region 2 with (go_at_call 16; refine (iBand_any b _ hok.out).mono ?_; rintro e w1 ⟨rfl, hb1⟩; have hBW : Hid (Below W.heap.size W w1) := Lib.hid hb1; clear u0 u1 u2 u3 u4 u5 u6 u7 u8)
   have p0 := (hZ.out.later hBW.out).cell (i := 0) (by omega); have p1 := (hZ.out.later hBW.out).cell (i := 1) (by omega); have p2 := (hZ.out.later hBW.out).cell (i := 2) (by omega); have p3 := (hZ.out.later hBW.out).cell (i := 3) (by omega); have p4 := (hZ.out.later hBW.out).cell (i := 4) (by omega); have p5 := (hZ.out.later hBW.out).cell (i := 5) (by omega); have p6 := (hZ.out.later hBW.out).cell (i := 6) (by omega); have p7 := (hZ.out.later hBW.out).cell (i := 7) (by omega); have p8 := (hZ.out.later hBW.out).cell (i := 8) (by omega)
   have f0 := (hZ.out.later hBW.out).free (i := 0) (by omega); have f1 := (hZ.out.later hBW.out).free (i := 1) (by omega); have f2 := (hZ.out.later hBW.out).free (i := 2) (by omega); have f3 := (hZ.out.later hBW.out).free (i := 3) (by omega); have f4 := (hZ.out.later hBW.out).free (i := 4) (by omega); have f5 := (hZ.out.later hBW.out).free (i := 5) (by omega); have f6 := (hZ.out.later hBW.out).free (i := 6) (by omega); have f7 := (hZ.out.later hBW.out).free (i := 7) (by omega); have f8 := (hZ.out.later hBW.out).free (i := 8) (by omega)
   go_wp2
   refine bodyPost_ret (v := .tuple #[.agg #[Value.string ⟨#[]⟩, .int .i64 0, .slice none 0 0, .string ⟨#[]⟩, .string ⟨#[]⟩, .int .i64 0, .string ⟨#[]⟩, .string ⟨#[]⟩, .slice none 0 0], .slice none 0 0, .bool false]) (by simp [results, Tryz.results13, go_sem, p0, p1, p2, p3, p4, p5, p6, p7, p8, f0, f1, f2, f3, f4, f5, f6, f7, f8]) rfl ?_
   have kk : Chg (w.heap.size + 1) (w.heap.size + 1 + 1) w1 (setN w1 (w.heap.size + 1) 0 [Value.string ⟨#[]⟩, .int .i64 0, .slice none 0 0, .string ⟨#[]⟩, .string ⟨#[]⟩, .int .i64 0, .string ⟨#[]⟩, .string ⟨#[]⟩, .slice none 0 0]) := Chg.setN (Nat.le_refl _) (Nat.lt_succ_self _) _ (Chg.refl _ _ w1)
   have hBB := Below.chg (hWb.out.trans (hBW.out.mono hWb.out.size)) kk (by omega) (by have := hWb.out.size; have := hBW.out.size; omega)
   have hks := kk.size
   have hws := hBW.out.size
   refine ⟨_, rfl, ?_, hBB⟩
   rw [hD.out]
   exact ⟨_, none, 0, w.heap.size, w.heap.size + 1, w.heap.size + 1, rfl, by omega, Nat.le_refl _, Nat.le_trans (show w.heap.size + 1 ≤ w1.heap.size by omega) hks, Nat.le_refl _, Nat.le_trans (show w.heap.size + 1 ≤ w1.heap.size by omega) hks, .inl (Nat.le_refl _), BdAt.zero _ _ _ (Nat.le_refl _), OwnL.nil⟩
 ·have e0 := B_f c0
  have hD : Hid (playBD b l = (Bd.zero, [], false)) := Lib.hid (by unfold playBD; rw [if_neg (fun x => c0 x.1)])
  clear c0
  obtain ⟨W, hWe, hWs, hWb, hB, hZ⟩ : ∃ W : World, Hid (((w.alloc (.cells #[.string b.m.name, .int .i64 b.m.stage, .slice b.m.A b.m.x.length b.m.c, .string b.bob, .string b.sing, .int .i64 b.step, .string b.call, .string b.tru, .slice b.RA b.rx.length b.rc] 36)).alloc (.cells #[Value.string ⟨#[]⟩, .int .i64 0, .slice none 0 0, .string ⟨#[]⟩, .string ⟨#[]⟩, .int .i64 0, .string ⟨#[]⟩, .string ⟨#[]⟩, .slice none 0 0] 36)) = W) ∧ Hid (W.heap.size = w.heap.size + 2) ∧ Hid (Below w.heap.size w W) ∧ Hid (Cells W w.heap.size 9 (fun i => (#[Value.string b.m.name, .int .i64 b.m.stage, .slice b.m.A b.m.x.length b.m.c, .string b.bob, .string b.sing, .int .i64 b.step, .string b.call, .string b.tru, .slice b.RA b.rx.length b.rc] : Array Value).getD i undef)) ∧ Hid (Cells W (w.heap.size + 1) 9 (fun i => (#[Value.string ⟨#[]⟩, .int .i64 0, .slice none 0 0, .string ⟨#[]⟩, .string ⟨#[]⟩, .int .i64 0, .string ⟨#[]⟩, .string ⟨#[]⟩, .slice none 0 0] : Array Value).getD i undef)) := by
   have z1 : w.heap.size + 1 = (w.alloc (.cells #[.string b.m.name, .int .i64 b.m.stage, .slice b.m.A b.m.x.length b.m.c, .string b.bob, .string b.sing, .int .i64 b.step, .string b.call, .string b.tru, .slice b.RA b.rx.length b.rc] 36)).heap.size := by simp
   refine ⟨_, Lib.hid rfl, Lib.hid (by simp), Lib.hid (((Below.refl _ _).alloc (Nat.le_refl _) _).alloc (by simp) _), Lib.hid ?_, Lib.hid ?_⟩
   ·exact (Cells.newD _ #[.string b.m.name, .int .i64 b.m.stage, .slice b.m.A b.m.x.length b.m.c, .string b.bob, .string b.sing, .int .i64 b.step, .string b.call, .string b.tru, .slice b.RA b.rx.length b.rc] _).alloc _
   ·rw [z1]; exact Cells.newD _ #[Value.string ⟨#[]⟩, .int .i64 0, .slice none 0 0, .string ⟨#[]⟩, .string ⟨#[]⟩, .int .i64 0, .string ⟨#[]⟩, .string ⟨#[]⟩, .slice none 0 0] _
  have hWs1 : w.heap.size + 2 ≤ W.heap.size := by have := hWs.out; omega
  have hok : Hid (b.Ok W) := Lib.hid (⟨(h.ch.below hWb.out (Nat.le_refl _)).more hWb.out.size, (h.ri.below hWb.out (Nat.le_refl _)).more hWb.out.size, h.nm, h.cl, h.cs, h.bs, h.ss, h.ks, h.ts, h.rl⟩)
  have hcl := h.cl
  have HA := Lib.hid (show RdL W W.heap.size A 4 Act_.enc l from (ha.below hWb.out (Nat.le_refl _)).more hWb.out.size)
  have HT := Lib.hid (htab.later hWb.out)
  clear h ha htab
  have u0 : W.cell? ⟨w.heap.size, 0, none⟩ = some (.string b.m.name) := hB.out.cell (i := 0) (by omega)
  have u1 : W.cell? ⟨w.heap.size, 1, none⟩ = some (.int .i64 b.m.stage) := hB.out.cell (i := 1) (by omega)
  have u2 : W.cell? ⟨w.heap.size, 2, none⟩ = some (.slice b.m.A b.m.x.length b.m.c) := hB.out.cell (i := 2) (by omega)
  have u3 : W.cell? ⟨w.heap.size, 3, none⟩ = some (.string b.bob) := hB.out.cell (i := 3) (by omega)
  have u4 : W.cell? ⟨w.heap.size, 4, none⟩ = some (.string b.sing) := hB.out.cell (i := 4) (by omega)
  have u5 : W.cell? ⟨w.heap.size, 5, none⟩ = some (.int .i64 b.step) := hB.out.cell (i := 5) (by omega)
  have u6 : W.cell? ⟨w.heap.size, 6, none⟩ = some (.string b.call) := hB.out.cell (i := 6) (by omega)
  have u7 : W.cell? ⟨w.heap.size, 7, none⟩ = some (.string b.tru) := hB.out.cell (i := 7) (by omega)
  have u8 : W.cell? ⟨w.heap.size, 8, none⟩ = some (.slice b.RA b.rx.length b.rc) := hB.out.cell (i := 8) (by omega)
  go_enter Tryz.func13, Tryz.ntmps13
  go_wp2_with fail
  rw [hWe.out]
  clear hWe
  go_upto_region 2 with (go_at_call 16; refine (iBand_any b _ hok.out).mono ?_; rintro e w1 ⟨rfl, hb1⟩; have hBW : Hid (Below W.heap.size W w1) := Lib.hid hb1; clear u0 u1 u2 u3 u4 u5 u6 u7 u8)
  have p0 := (hZ.out.later hBW.out).cell (i := 0) (by omega); have p1 := (hZ.out.later hBW.out).cell (i := 1) (by omega); have p2 := (hZ.out.later hBW.out).cell (i := 2) (by omega); have p3 := (hZ.out.later hBW.out).cell (i := 3) (by omega); have p4 := (hZ.out.later hBW.out).cell (i := 4) (by omega); have p5 := (hZ.out.later hBW.out).cell (i := 5) (by omega); have p6 := (hZ.out.later hBW.out).cell (i := 6) (by omega); have p7 := (hZ.out.later hBW.out).cell (i := 7) (by omega); have p8 := (hZ.out.later hBW.out).cell (i := 8) (by omega)
  have f0 := (hZ.out.later hBW.out).free (i := 0) (by omega); have f1 := (hZ.out.later hBW.out).free (i := 1) (by omega); have f2 := (hZ.out.later hBW.out).free (i := 2) (by omega); have f3 := (hZ.out.later hBW.out).free (i := 3) (by omega); have f4 := (hZ.out.later hBW.out).free (i := 4) (by omega); have f5 := (hZ.out.later hBW.out).free (i := 5) (by omega); have f6 := (hZ.out.later hBW.out).free (i := 6) (by omega); have f7 := (hZ.out.later hBW.out).free (i := 7) (by omega); have f8 := (hZ.out.later hBW.out).free (i := 8) (by omega)
  go_wp2
  refine bodyPost_ret (v := .tuple #[.agg #[Value.string ⟨#[]⟩, .int .i64 0, .slice none 0 0, .string ⟨#[]⟩, .string ⟨#[]⟩, .int .i64 0, .string ⟨#[]⟩, .string ⟨#[]⟩, .slice none 0 0], .slice none 0 0, .bool false]) (by simp [results, Tryz.results13, go_sem, p0, p1, p2, p3, p4, p5, p6, p7, p8, f0, f1, f2, f3, f4, f5, f6, f7, f8]) rfl ?_
  have kk : Chg (w.heap.size + 1) (w.heap.size + 1 + 1) w1 (setN w1 (w.heap.size + 1) 0 [Value.string ⟨#[]⟩, .int .i64 0, .slice none 0 0, .string ⟨#[]⟩, .string ⟨#[]⟩, .int .i64 0, .string ⟨#[]⟩, .string ⟨#[]⟩, .slice none 0 0]) := Chg.setN (Nat.le_refl _) (Nat.lt_succ_self _) _ (Chg.refl _ _ w1)
  have hBB := Below.chg (hWb.out.trans (hBW.out.mono hWb.out.size)) kk (by omega) (by have := hWb.out.size; have := hBW.out.size; omega)
  have hks := kk.size
  have hws := hBW.out.size
  refine ⟨_, rfl, ?_, hBB⟩
  rw [hD.out]
  exact ⟨_, none, 0, w.heap.size, w.heap.size + 1, w.heap.size + 1, rfl, by omega, Nat.le_refl _, Nat.le_trans (show w.heap.size + 1 ≤ w1.heap.size by omega) hks, Nat.le_refl _, Nat.le_trans (show w.heap.size + 1 ≤ w1.heap.size by omega) hks, .inl (Nat.le_refl _), BdAt.zero _ _ _ (Nat.le_refl _), OwnL.nil⟩
set_option maxHeartbeats 3200000 in
theorem sPlayBand_any (b : Bnd) (l : List Act_) (A : Option Addr) (c : Nat) (w : World) (h : b.Ok w) (ha : RdL w w.heap.size A 4 Act_.enc l) (hn : l.length ≤ 1048576) (htab : Tab w) : Calls Tryz.prog 14 #[.agg #[.string b.m.name, .int .i64 b.m.stage, .slice b.m.A b.m.x.length b.m.c, .string b.bob, .string b.sing, .int .i64 b.step, .string b.call, .string b.tru, .slice b.RA b.rx.length b.rc], .slice A l.length c] w fun e w' => PlayB (playBD b l) w e w' := by
 by_cases c0 : bandP b
 ·have e0 := B_t c0
  have C0 := Lib.hid c0
  by_cases hle : l.length ≤ 400
  ·obtain ⟨S, hS⟩ : ∃ S, Hid (playS b.bd l l.length = S) := ⟨_, Lib.hid rfl⟩
   have hD : Hid (playBD b l = (S.1, S.2, true)) := Lib.hid (by unfold playBD; rw [if_pos ⟨c0, hle⟩, hS.out])
   obtain ⟨d, rows⟩ := S
   simp only at hD
   clear c0
   obtain ⟨W, hWe, hWs, hWb, hB, hZ⟩ : ∃ W : World, Hid (((w.alloc (.cells #[.string b.m.name, .int .i64 b.m.stage, .slice b.m.A b.m.x.length b.m.c, .string b.bob, .string b.sing, .int .i64 b.step, .string b.call, .string b.tru, .slice b.RA b.rx.length b.rc] 36)).alloc (.cells #[Value.string ⟨#[]⟩, .int .i64 0, .slice none 0 0, .string ⟨#[]⟩, .string ⟨#[]⟩, .int .i64 0, .string ⟨#[]⟩, .string ⟨#[]⟩, .slice none 0 0] 36)) = W) ∧ Hid (W.heap.size = w.heap.size + 2) ∧ Hid (Below w.heap.size w W) ∧ Hid (Cells W w.heap.size 9 (fun i => (#[Value.string b.m.name, .int .i64 b.m.stage, .slice b.m.A b.m.x.length b.m.c, .string b.bob, .string b.sing, .int .i64 b.step, .string b.call, .string b.tru, .slice b.RA b.rx.length b.rc] : Array Value).getD i undef)) ∧ Hid (Cells W (w.heap.size + 1) 9 (fun i => (#[Value.string ⟨#[]⟩, .int .i64 0, .slice none 0 0, .string ⟨#[]⟩, .string ⟨#[]⟩, .int .i64 0, .string ⟨#[]⟩, .string ⟨#[]⟩, .slice none 0 0] : Array Value).getD i undef)) := by
    have z1 : w.heap.size + 1 = (w.alloc (.cells #[.string b.m.name, .int .i64 b.m.stage, .slice b.m.A b.m.x.length b.m.c, .string b.bob, .string b.sing, .int .i64 b.step, .string b.call, .string b.tru, .slice b.RA b.rx.length b.rc] 36)).heap.size := by simp
    refine ⟨_, Lib.hid rfl, Lib.hid (by simp), Lib.hid (((Below.refl _ _).alloc (Nat.le_refl _) _).alloc (by simp) _), Lib.hid ?_, Lib.hid ?_⟩
    ·exact (Cells.newD _ #[.string b.m.name, .int .i64 b.m.stage, .slice b.m.A b.m.x.length b.m.c, .string b.bob, .string b.sing, .int .i64 b.step, .string b.call, .string b.tru, .slice b.RA b.rx.length b.rc] _).alloc _
    ·rw [z1]; exact Cells.newD _ #[Value.string ⟨#[]⟩, .int .i64 0, .slice none 0 0, .string ⟨#[]⟩, .string ⟨#[]⟩, .int .i64 0, .string ⟨#[]⟩, .string ⟨#[]⟩, .slice none 0 0] _
   have hWs1 : w.heap.size + 2 ≤ W.heap.size := by have := hWs.out; omega
   have hok : Hid (b.Ok W) := Lib.hid (⟨(h.ch.below hWb.out (Nat.le_refl _)).more hWb.out.size, (h.ri.below hWb.out (Nat.le_refl _)).more hWb.out.size, h.nm, h.cl, h.cs, h.bs, h.ss, h.ks, h.ts, h.rl⟩)
   have hcl := h.cl
   have HA := Lib.hid (show RdL W W.heap.size A 4 Act_.enc l from (ha.below hWb.out (Nat.le_refl _)).more hWb.out.size)
   have HT := Lib.hid (htab.later hWb.out)
   clear h ha htab
   have u0 : W.cell? ⟨w.heap.size, 0, none⟩ = some (.string b.m.name) := hB.out.cell (i := 0) (by omega)
   have u1 : W.cell? ⟨w.heap.size, 1, none⟩ = some (.int .i64 b.m.stage) := hB.out.cell (i := 1) (by omega)
   have u2 : W.cell? ⟨w.heap.size, 2, none⟩ = some (.slice b.m.A b.m.x.length b.m.c) := hB.out.cell (i := 2) (by omega)
   have u3 : W.cell? ⟨w.heap.size, 3, none⟩ = some (.string b.bob) := hB.out.cell (i := 3) (by omega)
   have u4 : W.cell? ⟨w.heap.size, 4, none⟩ = some (.string b.sing) := hB.out.cell (i := 4) (by omega)
   have u5 : W.cell? ⟨w.heap.size, 5, none⟩ = some (.int .i64 b.step) := hB.out.cell (i := 5) (by omega)
   have u6 : W.cell? ⟨w.heap.size, 6, none⟩ = some (.string b.call) := hB.out.cell (i := 6) (by omega)
   have u7 : W.cell? ⟨w.heap.size, 7, none⟩ = some (.string b.tru) := hB.out.cell (i := 7) (by omega)
   have u8 : W.cell? ⟨w.heap.size, 8, none⟩ = some (.slice b.RA b.rx.length b.rc) := hB.out.cell (i := 8) (by omega)
   have hcall : Hid (∀ w1, Below W.heap.size W w1 → Calls Tryz.prog 64 #[.agg #[.string b.m.name, .int .i64 b.m.stage, .slice b.m.A b.m.x.length b.m.c, .string b.bob, .string b.sing, .int .i64 b.step, .string b.call, .string b.tru, .slice b.RA b.rx.length b.rc], .slice A l.length c] w1 fun e w' => PlayRet (d, rows) w1 e w') := Lib.hid (fun w1 hb1 => by
    have := l24Play_any b l A c w1 ((hok.out.ch.below hb1 (Nat.le_refl _)).more hb1.size) ((hok.out.ri.below hb1 (Nat.le_refl _)).more hb1.size) hcl C0.out ((HA.out.below hb1 (Nat.le_refl _)).more hb1.size) hn (HT.out.later hb1)
    rw [hS.out] at this; exact this)
   go_enter Tryz.func14, Tryz.ntmps14
   go_wp2_with fail
   rw [hWe.out]
   clear hWe
   go_upto_region 3 with (go_at_call 68; refine (l24Good_any b _ hok.out).mono ?_; rintro e w1 ⟨rfl, hb1⟩; have hBW : Hid (Below W.heap.size W w1) := Lib.hid hb1; clear u0 u1 u2 u3 u4 u5 u6 u7 u8)
   have u0 := (hB.out.later hBW.out).cell (i := 0) (by omega); have u1 := (hB.out.later hBW.out).cell (i := 1) (by omega); have u2 := (hB.out.later hBW.out).cell (i := 2) (by omega); have u3 := (hB.out.later hBW.out).cell (i := 3) (by omega); have u4 := (hB.out.later hBW.out).cell (i := 4) (by omega); have u5 := (hB.out.later hBW.out).cell (i := 5) (by omega); have u6 := (hB.out.later hBW.out).cell (i := 6) (by omega); have u7 := (hB.out.later hBW.out).cell (i := 7) (by omega); have u8 := (hB.out.later hBW.out).cell (i := 8) (by omega)
   go_upto_region 4 with (go_at_call 64; refine (hcall.out _ hBW.out).mono ?_; rintro e w2 hp; obtain ⟨v, AR, cR, gw, lo, hi, rfl, hbd, hoR, p1, p2, p3, p4, p5, hb2'⟩ := hp; obtain ⟨A1, c1, A3, c3, gs, rfl, hg1, hg2, ho1, ho3⟩ := hbd; have HO1 := Lib.hid ho1; have HO3 := Lib.hid ho3; have HOR := Lib.hid hoR; have hb2 := Lib.hid hb2'; clear ho1 ho3 hoR hb2' u0 u1 u2 u3 u4 u5 u6 u7 u8)
   have hg2z := hb2.out.size
   have hWsz := hBW.out.size
   obtain ⟨Q, hQe, hbQ, hCQ⟩ : ∃ Q : World, Hid (w2.alloc (.cells #[.string d.name, .int .i64 d.stage, .slice A1 d.x.length c1, .string d.bob, .string d.sing, .int .i64 d.step, .string d.call, .string d.tru, .slice A3 d.rx.length c3] 36) = Q) ∧ Hid (Below w2.heap.size w2 Q) ∧ Hid (Cells Q w2.heap.size 9 (fun i => (#[Value.string d.name, .int .i64 d.stage, .slice A1 d.x.length c1, .string d.bob, .string d.sing, .int .i64 d.step, .string d.call, .string d.tru, .slice A3 d.rx.length c3] : Array Value).getD i undef)) := ⟨_, Lib.hid rfl, Lib.hid ((Below.refl _ _).alloc (Nat.le_refl _) _), Lib.hid (Cells.newD _ #[.string d.name, .int .i64 d.stage, .slice A1 d.x.length c1, .string d.bob, .string d.sing, .int .i64 d.step, .string d.call, .string d.tru, .slice A3 d.rx.length c3] _)⟩
   rw [hQe.out]
   clear hQe
   have hQsz := hbQ.out.size
   have hZQ := Lib.hid (((hZ.out.later hBW.out).later hb2.out).later hbQ.out)
   have q0 := (hCQ.out).cell (i := 0) (by omega); have q1 := (hCQ.out).cell (i := 1) (by omega); have q2 := (hCQ.out).cell (i := 2) (by omega); have q3 := (hCQ.out).cell (i := 3) (by omega); have q4 := (hCQ.out).cell (i := 4) (by omega); have q5 := (hCQ.out).cell (i := 5) (by omega); have q6 := (hCQ.out).cell (i := 6) (by omega); have q7 := (hCQ.out).cell (i := 7) (by omega); have q8 := (hCQ.out).cell (i := 8) (by omega)
   have p0 := (hZQ.out).cell (i := 0) (by omega); have p1 := (hZQ.out).cell (i := 1) (by omega); have p2 := (hZQ.out).cell (i := 2) (by omega); have p3 := (hZQ.out).cell (i := 3) (by omega); have p4 := (hZQ.out).cell (i := 4) (by omega); have p5 := (hZQ.out).cell (i := 5) (by omega); have p6 := (hZQ.out).cell (i := 6) (by omega); have p7 := (hZQ.out).cell (i := 7) (by omega); have p8 := (hZQ.out).cell (i := 8) (by omega)
   have f0 := (hZQ.out).free (i := 0) (by omega); have f1 := (hZQ.out).free (i := 1) (by omega); have f2 := (hZQ.out).free (i := 2) (by omega); have f3 := (hZQ.out).free (i := 3) (by omega); have f4 := (hZQ.out).free (i := 4) (by omega); have f5 := (hZQ.out).free (i := 5) (by omega); have f6 := (hZQ.out).free (i := 6) (by omega); have f7 := (hZQ.out).free (i := 7) (by omega); have f8 := (hZQ.out).free (i := 8) (by omega)
   go_wp2
   refine bodyPost_ret (v := .tuple #[.agg #[.string d.name, .int .i64 d.stage, .slice A1 d.x.length c1, .string d.bob, .string d.sing, .int .i64 d.step, .string d.call, .string d.tru, .slice A3 d.rx.length c3], .slice AR rows.length cR, .bool true]) (by simp [results, Tryz.results14, go_sem, p0, p1, p2, p3, p4, p5, p6, p7, p8, f0, f1, f2, f3, f4, f5, f6, f7, f8]) rfl ?_
   have kk : Chg (w.heap.size + 1) (w.heap.size + 1 + 1) Q (setN Q (w.heap.size + 1) 0 [.string d.name, .int .i64 d.stage, .slice A1 d.x.length c1, .string d.bob, .string d.sing, .int .i64 d.step, .string d.call, .string d.tru, .slice A3 d.rx.length c3]) := Chg.setN (Nat.le_refl _) (Nat.lt_succ_self _) _ (Chg.refl _ _ Q)
   have hBB := Below.chg ((hWb.out.trans (hBW.out.mono hWb.out.size)).trans ((hb2.out.trans (hbQ.out.mono hb2.out.size)).mono (by omega))) kk (by omega) (by omega)
   have hks := kk.size
   refine ⟨_, rfl, ?_, hBB⟩
   rw [hD.out]
   exact ⟨_, AR, cR, gw, lo, hi, rfl, by omega, by omega, Nat.le_trans (show hi ≤ Q.heap.size by omega) hks, by omega, Nat.le_trans (show gw + 1 ≤ Q.heap.size by omega) hks, by omega, ⟨A1, c1, A3, c3, gs, rfl, hg1, hg2, (HO1.out.later hbQ.out).chg kk (.inr (by omega)), (HO3.out.later hbQ.out).chg kk (.inr (by omega))⟩, (HOR.out.later hbQ.out).chg kk (.inr (by omega))⟩
  ·have hD : Hid (playBD b l = (Bd.zero, [], false)) := Lib.hid (by unfold playBD; rw [if_neg (fun x => hle x.2)])
   clear c0
   have hgt : (400 : Int) < (l.length : Int) := by omega
   obtain ⟨W, hWe, hWs, hWb, hB, hZ⟩ : ∃ W : World, Hid (((w.alloc (.cells #[.string b.m.name, .int .i64 b.m.stage, .slice b.m.A b.m.x.length b.m.c, .string b.bob, .string b.sing, .int .i64 b.step, .string b.call, .string b.tru, .slice b.RA b.rx.length b.rc] 36)).alloc (.cells #[Value.string ⟨#[]⟩, .int .i64 0, .slice none 0 0, .string ⟨#[]⟩, .string ⟨#[]⟩, .int .i64 0, .string ⟨#[]⟩, .string ⟨#[]⟩, .slice none 0 0] 36)) = W) ∧ Hid (W.heap.size = w.heap.size + 2) ∧ Hid (Below w.heap.size w W) ∧ Hid (Cells W w.heap.size 9 (fun i => (#[Value.string b.m.name, .int .i64 b.m.stage, .slice b.m.A b.m.x.length b.m.c, .string b.bob, .string b.sing, .int .i64 b.step, .string b.call, .string b.tru, .slice b.RA b.rx.length b.rc] : Array Value).getD i undef)) ∧ Hid (Cells W (w.heap.size + 1) 9 (fun i => (#[Value.string ⟨#[]⟩, .int .i64 0, .slice none 0 0, .string ⟨#[]⟩, .string ⟨#[]⟩, .int .i64 0, .string ⟨#[]⟩, .string ⟨#[]⟩, .slice none 0 0] : Array Value).getD i undef)) := by
    have z1 : w.heap.size + 1 = (w.alloc (.cells #[.string b.m.name, .int .i64 b.m.stage, .slice b.m.A b.m.x.length b.m.c, .string b.bob, .string b.sing, .int .i64 b.step, .string b.call, .string b.tru, .slice b.RA b.rx.length b.rc] 36)).heap.size := by simp
    refine ⟨_, Lib.hid rfl, Lib.hid (by simp), Lib.hid (((Below.refl _ _).alloc (Nat.le_refl _) _).alloc (by simp) _), Lib.hid ?_, Lib.hid ?_⟩
    ·exact (Cells.newD _ #[.string b.m.name, .int .i64 b.m.stage, .slice b.m.A b.m.x.length b.m.c, .string b.bob, .string b.sing, .int .i64 b.step, .string b.call, .string b.tru, .slice b.RA b.rx.length b.rc] _).alloc _
    ·rw [z1]; exact Cells.newD _ #[Value.string ⟨#[]⟩, .int .i64 0, .slice none 0 0, .string ⟨#[]⟩, .string ⟨#[]⟩, .int .i64 0, .string ⟨#[]⟩, .string ⟨#[]⟩, .slice none 0 0] _
   have hWs1 : w.heap.size + 2 ≤ W.heap.size := by have := hWs.out; omega
   have hok : Hid (b.Ok W) := Lib.hid (⟨(h.ch.below hWb.out (Nat.le_refl _)).more hWb.out.size, (h.ri.below hWb.out (Nat.le_refl _)).more hWb.out.size, h.nm, h.cl, h.cs, h.bs, h.ss, h.ks, h.ts, h.rl⟩)
   have hcl := h.cl
   have HA := Lib.hid (show RdL W W.heap.size A 4 Act_.enc l from (ha.below hWb.out (Nat.le_refl _)).more hWb.out.size)
   have HT := Lib.hid (htab.later hWb.out)
   clear h ha htab
   have u0 : W.cell? ⟨w.heap.size, 0, none⟩ = some (.string b.m.name) := hB.out.cell (i := 0) (by omega)
   have u1 : W.cell? ⟨w.heap.size, 1, none⟩ = some (.int .i64 b.m.stage) := hB.out.cell (i := 1) (by omega)
   have u2 : W.cell? ⟨w.heap.size, 2, none⟩ = some (.slice b.m.A b.m.x.length b.m.c) := hB.out.cell (i := 2) (by omega)
   have u3 : W.cell? ⟨w.heap.size, 3, none⟩ = some (.string b.bob) := hB.out.cell (i := 3) (by omega)
   have u4 : W.cell? ⟨w.heap.size, 4, none⟩ = some (.string b.sing) := hB.out.cell (i := 4) (by omega)
   have u5 : W.cell? ⟨w.heap.size, 5, none⟩ = some (.int .i64 b.step) := hB.out.cell (i := 5) (by omega)
   have u6 : W.cell? ⟨w.heap.size, 6, none⟩ = some (.string b.call) := hB.out.cell (i := 6) (by omega)
   have u7 : W.cell? ⟨w.heap.size, 7, none⟩ = some (.string b.tru) := hB.out.cell (i := 7) (by omega)
   have u8 : W.cell? ⟨w.heap.size, 8, none⟩ = some (.slice b.RA b.rx.length b.rc) := hB.out.cell (i := 8) (by omega)
   go_enter Tryz.func14, Tryz.ntmps14
   go_wp2_with fail
   rw [hWe.out]
   clear hWe
   go_upto_region 2 with (go_at_call 68; refine (l24Good_any b _ hok.out).mono ?_; rintro e w1 ⟨rfl, hb1⟩; have hBW : Hid (Below W.heap.size W w1) := Lib.hid hb1; clear u0 u1 u2 u3 u4 u5 u6 u7 u8)
   have p0 := (hZ.out.later hBW.out).cell (i := 0) (by omega); have p1 := (hZ.out.later hBW.out).cell (i := 1) (by omega); have p2 := (hZ.out.later hBW.out).cell (i := 2) (by omega); have p3 := (hZ.out.later hBW.out).cell (i := 3) (by omega); have p4 := (hZ.out.later hBW.out).cell (i := 4) (by omega); have p5 := (hZ.out.later hBW.out).cell (i := 5) (by omega); have p6 := (hZ.out.later hBW.out).cell (i := 6) (by omega); have p7 := (hZ.out.later hBW.out).cell (i := 7) (by omega); have p8 := (hZ.out.later hBW.out).cell (i := 8) (by omega)
   have f0 := (hZ.out.later hBW.out).free (i := 0) (by omega); have f1 := (hZ.out.later hBW.out).free (i := 1) (by omega); have f2 := (hZ.out.later hBW.out).free (i := 2) (by omega); have f3 := (hZ.out.later hBW.out).free (i := 3) (by omega); have f4 := (hZ.out.later hBW.out).free (i := 4) (by omega); have f5 := (hZ.out.later hBW.out).free (i := 5) (by omega); have f6 := (hZ.out.later hBW.out).free (i := 6) (by omega); have f7 := (hZ.out.later hBW.out).free (i := 7) (by omega); have f8 := (hZ.out.later hBW.out).free (i := 8) (by omega)
   go_wp2
   refine bodyPost_ret (v := .tuple #[.agg #[Value.string ⟨#[]⟩, .int .i64 0, .slice none 0 0, .string ⟨#[]⟩, .string ⟨#[]⟩, .int .i64 0, .string ⟨#[]⟩, .string ⟨#[]⟩, .slice none 0 0], .slice none 0 0, .bool false]) (by simp [results, Tryz.results14, go_sem, p0, p1, p2, p3, p4, p5, p6, p7, p8, f0, f1, f2, f3, f4, f5, f6, f7, f8]) rfl ?_
   have kk : Chg (w.heap.size + 1) (w.heap.size + 1 + 1) w1 (setN w1 (w.heap.size + 1) 0 [Value.string ⟨#[]⟩, .int .i64 0, .slice none 0 0, .string ⟨#[]⟩, .string ⟨#[]⟩, .int .i64 0, .string ⟨#[]⟩, .string ⟨#[]⟩, .slice none 0 0]) := Chg.setN (Nat.le_refl _) (Nat.lt_succ_self _) _ (Chg.refl _ _ w1)
   have hBB := Below.chg (hWb.out.trans (hBW.out.mono hWb.out.size)) kk (by omega) (by have := hWb.out.size; have := hBW.out.size; omega)
   have hks := kk.size
   have hws := hBW.out.size
   refine ⟨_, rfl, ?_, hBB⟩
   rw [hD.out]
   exact ⟨_, none, 0, w.heap.size, w.heap.size + 1, w.heap.size + 1, rfl, by omega, Nat.le_refl _, Nat.le_trans (show w.heap.size + 1 ≤ w1.heap.size by omega) hks, Nat.le_refl _, Nat.le_trans (show w.heap.size + 1 ≤ w1.heap.size by omega) hks, .inl (Nat.le_refl _), BdAt.zero _ _ _ (Nat.le_refl _), OwnL.nil⟩
 ·have e0 := B_f c0
  have hD : Hid (playBD b l = (Bd.zero, [], false)) := Lib.hid (by unfold playBD; rw [if_neg (fun x => c0 x.1)])
  clear c0
  obtain ⟨W, hWe, hWs, hWb, hB, hZ⟩ : ∃ W : World, Hid (((w.alloc (.cells #[.string b.m.name, .int .i64 b.m.stage, .slice b.m.A b.m.x.length b.m.c, .string b.bob, .string b.sing, .int .i64 b.step, .string b.call, .string b.tru, .slice b.RA b.rx.length b.rc] 36)).alloc (.cells #[Value.string ⟨#[]⟩, .int .i64 0, .slice none 0 0, .string ⟨#[]⟩, .string ⟨#[]⟩, .int .i64 0, .string ⟨#[]⟩, .string ⟨#[]⟩, .slice none 0 0] 36)) = W) ∧ Hid (W.heap.size = w.heap.size + 2) ∧ Hid (Below w.heap.size w W) ∧ Hid (Cells W w.heap.size 9 (fun i => (#[Value.string b.m.name, .int .i64 b.m.stage, .slice b.m.A b.m.x.length b.m.c, .string b.bob, .string b.sing, .int .i64 b.step, .string b.call, .string b.tru, .slice b.RA b.rx.length b.rc] : Array Value).getD i undef)) ∧ Hid (Cells W (w.heap.size + 1) 9 (fun i => (#[Value.string ⟨#[]⟩, .int .i64 0, .slice none 0 0, .string ⟨#[]⟩, .string ⟨#[]⟩, .int .i64 0, .string ⟨#[]⟩, .string ⟨#[]⟩, .slice none 0 0] : Array Value).getD i undef)) := by
   have z1 : w.heap.size + 1 = (w.alloc (.cells #[.string b.m.name, .int .i64 b.m.stage, .slice b.m.A b.m.x.length b.m.c, .string b.bob, .string b.sing, .int .i64 b.step, .string b.call, .string b.tru, .slice b.RA b.rx.length b.rc] 36)).heap.size := by simp
   refine ⟨_, Lib.hid rfl, Lib.hid (by simp), Lib.hid (((Below.refl _ _).alloc (Nat.le_refl _) _).alloc (by simp) _), Lib.hid ?_, Lib.hid ?_⟩
   ·exact (Cells.newD _ #[.string b.m.name, .int .i64 b.m.stage, .slice b.m.A b.m.x.length b.m.c, .string b.bob, .string b.sing, .int .i64 b.step, .string b.call, .string b.tru, .slice b.RA b.rx.length b.rc] _).alloc _
   ·rw [z1]; exact Cells.newD _ #[Value.string ⟨#[]⟩, .int .i64 0, .slice none 0 0, .string ⟨#[]⟩, .string ⟨#[]⟩, .int .i64 0, .string ⟨#[]⟩, .string ⟨#[]⟩, .slice none 0 0] _
  have hWs1 : w.heap.size + 2 ≤ W.heap.size := by have := hWs.out; omega
  have hok : Hid (b.Ok W) := Lib.hid (⟨(h.ch.below hWb.out (Nat.le_refl _)).more hWb.out.size, (h.ri.below hWb.out (Nat.le_refl _)).more hWb.out.size, h.nm, h.cl, h.cs, h.bs, h.ss, h.ks, h.ts, h.rl⟩)
  have hcl := h.cl
  have HA := Lib.hid (show RdL W W.heap.size A 4 Act_.enc l from (ha.below hWb.out (Nat.le_refl _)).more hWb.out.size)
  have HT := Lib.hid (htab.later hWb.out)
  clear h ha htab
  have u0 : W.cell? ⟨w.heap.size, 0, none⟩ = some (.string b.m.name) := hB.out.cell (i := 0) (by omega)
  have u1 : W.cell? ⟨w.heap.size, 1, none⟩ = some (.int .i64 b.m.stage) := hB.out.cell (i := 1) (by omega)
  have u2 : W.cell? ⟨w.heap.size, 2, none⟩ = some (.slice b.m.A b.m.x.length b.m.c) := hB.out.cell (i := 2) (by omega)
  have u3 : W.cell? ⟨w.heap.size, 3, none⟩ = some (.string b.bob) := hB.out.cell (i := 3) (by omega)
  have u4 : W.cell? ⟨w.heap.size, 4, none⟩ = some (.string b.sing) := hB.out.cell (i := 4) (by omega)
  have u5 : W.cell? ⟨w.heap.size, 5, none⟩ = some (.int .i64 b.step) := hB.out.cell (i := 5) (by omega)
  have u6 : W.cell? ⟨w.heap.size, 6, none⟩ = some (.string b.call) := hB.out.cell (i := 6) (by omega)
  have u7 : W.cell? ⟨w.heap.size, 7, none⟩ = some (.string b.tru) := hB.out.cell (i := 7) (by omega)
  have u8 : W.cell? ⟨w.heap.size, 8, none⟩ = some (.slice b.RA b.rx.length b.rc) := hB.out.cell (i := 8) (by omega)
  go_enter Tryz.func14, Tryz.ntmps14
  go_wp2_with fail
  rw [hWe.out]
  clear hWe
  go_upto_region 2 with (go_at_call 68; refine (l24Good_any b _ hok.out).mono ?_; rintro e w1 ⟨rfl, hb1⟩; have hBW : Hid (Below W.heap.size W w1) := Lib.hid hb1; clear u0 u1 u2 u3 u4 u5 u6 u7 u8)
  have p0 := (hZ.out.later hBW.out).cell (i := 0) (by omega); have p1 := (hZ.out.later hBW.out).cell (i := 1) (by omega); have p2 := (hZ.out.later hBW.out).cell (i := 2) (by omega); have p3 := (hZ.out.later hBW.out).cell (i := 3) (by omega); have p4 := (hZ.out.later hBW.out).cell (i := 4) (by omega); have p5 := (hZ.out.later hBW.out).cell (i := 5) (by omega); have p6 := (hZ.out.later hBW.out).cell (i := 6) (by omega); have p7 := (hZ.out.later hBW.out).cell (i := 7) (by omega); have p8 := (hZ.out.later hBW.out).cell (i := 8) (by omega)
  have f0 := (hZ.out.later hBW.out).free (i := 0) (by omega); have f1 := (hZ.out.later hBW.out).free (i := 1) (by omega); have f2 := (hZ.out.later hBW.out).free (i := 2) (by omega); have f3 := (hZ.out.later hBW.out).free (i := 3) (by omega); have f4 := (hZ.out.later hBW.out).free (i := 4) (by omega); have f5 := (hZ.out.later hBW.out).free (i := 5) (by omega); have f6 := (hZ.out.later hBW.out).free (i := 6) (by omega); have f7 := (hZ.out.later hBW.out).free (i := 7) (by omega); have f8 := (hZ.out.later hBW.out).free (i := 8) (by omega)
  go_wp2
  refine bodyPost_ret (v := .tuple #[.agg #[Value.string ⟨#[]⟩, .int .i64 0, .slice none 0 0, .string ⟨#[]⟩, .string ⟨#[]⟩, .int .i64 0, .string ⟨#[]⟩, .string ⟨#[]⟩, .slice none 0 0], .slice none 0 0, .bool false]) (by simp [results, Tryz.results14, go_sem, p0, p1, p2, p3, p4, p5, p6, p7, p8, f0, f1, f2, f3, f4, f5, f6, f7, f8]) rfl ?_
  have kk : Chg (w.heap.size + 1) (w.heap.size + 1 + 1) w1 (setN w1 (w.heap.size + 1) 0 [Value.string ⟨#[]⟩, .int .i64 0, .slice none 0 0, .string ⟨#[]⟩, .string ⟨#[]⟩, .int .i64 0, .string ⟨#[]⟩, .string ⟨#[]⟩, .slice none 0 0]) := Chg.setN (Nat.le_refl _) (Nat.lt_succ_self _) _ (Chg.refl _ _ w1)
  have hBB := Below.chg (hWb.out.trans (hBW.out.mono hWb.out.size)) kk (by omega) (by have := hWb.out.size; have := hBW.out.size; omega)
  have hks := kk.size
  have hws := hBW.out.size
  refine ⟨_, rfl, ?_, hBB⟩
  rw [hD.out]
  exact ⟨_, none, 0, w.heap.size, w.heap.size + 1, w.heap.size + 1, rfl, by omega, Nat.le_refl _, Nat.le_trans (show w.heap.size + 1 ≤ w1.heap.size by omega) hks, Nat.le_refl _, Nat.le_trans (show w.heap.size + 1 ≤ w1.heap.size by omega) hks, .inl (Nat.le_refl _), BdAt.zero _ _ _ (Nat.le_refl _), OwnL.nil⟩
end Go.Proofs.YtkegbbndmfnolaaGreatDoor
