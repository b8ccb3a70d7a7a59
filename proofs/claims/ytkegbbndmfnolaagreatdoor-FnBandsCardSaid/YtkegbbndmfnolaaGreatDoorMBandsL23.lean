import Derived.Test.YtkegbbndmfnolaaGreatDoorMBandsL22
/-
 A band behind actions, and its rows: the reference's side; PlayBand of both sides.
-/
namespace Go.Proofs.YtkegbbndmfnolaaGreatDoor
open Go.RowKit
set_option linter.unusedVariables false
set_option linter.unusedSimpArgs false
set_option maxRecDepth 100000

theorem getD_toArray (l : List Value) (i : Nat) : l.toArray.getD i undef = l.getD i undef := by
 simp only [Array.getD, List.getD_eq_getElem?_getD, List.size_toArray]
 by_cases h : i < l.length
 ·simp [h]
 ·simp [h]













set_option maxHeartbeats 3200000 in
theorem l24Play_any (b : Bnd) (acts : List Act_) (AA : Option Addr) (AC : Nat) (w : World) (h : RdL w w.heap.size b.m.A 1 encString b.m.x) (hr : RdL w w.heap.size b.RA 2 Rgr.enc b.rx) (hl : b.m.x.length ≤ 1048576) (hp : bandP b) (ha : RdL w w.heap.size AA 4 Act_.enc acts) (hn : acts.length ≤ 1048576) (htab : Tab w) :
  Calls Tryz.prog 64 #[.agg #[.string b.m.name, .int .i64 b.m.stage, .slice b.m.A b.m.x.length b.m.c, .string b.bob, .string b.sing, .int .i64 b.step, .string b.call, .string b.tru, .slice b.RA b.rx.length b.rc], .slice AA acts.length AC] w fun e w' => PlayRet (playS b.bd acts acts.length) w e w' := by
 have h0 : 0 < b.m.x.length := by have := hp.2.1.1; have := hp.2.1.2; omega
 have h3 : 0 < b.rx.length := by have := hp.2.2.2.2.1; have := hp.1.1.2.stage.1; omega
 have hrl : b.rx.length ≤ 1048576 := by have := hp.2.2.2.2.1; have := hp.1.1.2.stage.2; omega
 have hW : ∃ W : World, Hid (((w.alloc (.cells #[.string b.m.name, .int .i64 b.m.stage, .slice b.m.A b.m.x.length b.m.c, .string b.bob, .string b.sing, .int .i64 b.step, .string b.call, .string b.tru, .slice b.RA b.rx.length b.rc] 36)).alloc (.cells #[Value.string ⟨#[]⟩, .int .i64 0, .slice none 0 0, .string ⟨#[]⟩, .string ⟨#[]⟩, .int .i64 0, .string ⟨#[]⟩, .string ⟨#[]⟩, .slice none 0 0] 36)) = W) ∧ Hid (W.heap.size = w.heap.size + 2) ∧ Hid (Below w.heap.size w W) ∧ Hid (Cells W w.heap.size 9 (fun i => (#[.string b.m.name, .int .i64 b.m.stage, .slice b.m.A b.m.x.length b.m.c, .string b.bob, .string b.sing, .int .i64 b.step, .string b.call, .string b.tru, .slice b.RA b.rx.length b.rc] : Array Value).getD i undef)) ∧ Hid (Cells W (w.heap.size + 1) 9 (fun i => (#[Value.string ⟨#[]⟩, .int .i64 0, .slice none 0 0, .string ⟨#[]⟩, .string ⟨#[]⟩, .int .i64 0, .string ⟨#[]⟩, .string ⟨#[]⟩, .slice none 0 0] : Array Value).getD i undef)) := by
  have z1 : w.heap.size + 1 = (w.alloc (.cells #[.string b.m.name, .int .i64 b.m.stage, .slice b.m.A b.m.x.length b.m.c, .string b.bob, .string b.sing, .int .i64 b.step, .string b.call, .string b.tru, .slice b.RA b.rx.length b.rc] 36)).heap.size := by simp
  refine ⟨_, Lib.hid rfl, Lib.hid (by simp), Lib.hid (((Below.refl _ _).alloc (Nat.le_refl _) _).alloc (by simp) _), Lib.hid ?_, Lib.hid ?_⟩
  ·exact (Cells.newD _ #[.string b.m.name, .int .i64 b.m.stage, .slice b.m.A b.m.x.length b.m.c, .string b.bob, .string b.sing, .int .i64 b.step, .string b.call, .string b.tru, .slice b.RA b.rx.length b.rc] _).alloc _
  ·rw [z1]; exact Cells.newD _ #[Value.string ⟨#[]⟩, .int .i64 0, .slice none 0 0, .string ⟨#[]⟩, .string ⟨#[]⟩, .int .i64 0, .string ⟨#[]⟩, .string ⟨#[]⟩, .slice none 0 0] _
 obtain ⟨W, hWe, hWs, hWb, hB, hZ⟩ := hW
 have hcopy : Hid (Calls Tryz.prog 118 #[.agg #[.string b.m.name, .int .i64 b.m.stage, .slice b.m.A b.m.x.length b.m.c, .string b.bob, .string b.sing, .int .i64 b.step, .string b.call, .string b.tru, .slice b.RA b.rx.length b.rc]] W fun e w' => BdOne b.bd W e w') := Lib.hid (l24Own_any b W ((h.below hWb.out (Nat.le_refl _)).more hWb.out.size) ((hr.below hWb.out (Nat.le_refl _)).more hWb.out.size) hl h0 hrl h3)
 have HA := Lib.hid ha
 have HP := Lib.hid hp
 have HT := Lib.hid htab
 clear h hr hp ha htab
 have hWs1 : w.heap.size + 2 ≤ W.heap.size := by have := hWs.out; omega
 have u0 : W.cell? ⟨w.heap.size, 0, none⟩ = some (.string b.m.name) := hB.out.cell (i := 0) (by omega)
 have u1 : W.cell? ⟨w.heap.size, 1, none⟩ = some (.int .i64 b.m.stage) := hB.out.cell (i := 1) (by omega)
 have u2 : W.cell? ⟨w.heap.size, 2, none⟩ = some (.slice b.m.A b.m.x.length b.m.c) := hB.out.cell (i := 2) (by omega)
 have u3 : W.cell? ⟨w.heap.size, 3, none⟩ = some (.string b.bob) := hB.out.cell (i := 3) (by omega)
 have u4 : W.cell? ⟨w.heap.size, 4, none⟩ = some (.string b.sing) := hB.out.cell (i := 4) (by omega)
 have u5 : W.cell? ⟨w.heap.size, 5, none⟩ = some (.int .i64 b.step) := hB.out.cell (i := 5) (by omega)
 have u6 : W.cell? ⟨w.heap.size, 6, none⟩ = some (.string b.call) := hB.out.cell (i := 6) (by omega)
 have u7 : W.cell? ⟨w.heap.size, 7, none⟩ = some (.string b.tru) := hB.out.cell (i := 7) (by omega)
 have u8 : W.cell? ⟨w.heap.size, 8, none⟩ = some (.slice b.RA b.rx.length b.rc) := hB.out.cell (i := 8) (by omega)
 go_enter Tryz.func64, Tryz.ntmps64
 go_upto_region 1 with fail
 rw [hWe.out]
 clear hWe
 go_upto_region 4 with (go_at_call 118; refine hcopy.out.mono ?_; rintro e w1 hbd; obtain ⟨v1, rfl, hd1, hb1'⟩ := hbd; obtain ⟨d, hdd⟩ : ∃ d, Hid (b.bd = d) := ⟨_, Lib.hid rfl⟩; rw [hdd.out] at hd1; obtain ⟨A1, c1, A3, c3, gs, rfl, hg1, hg2, ho1, ho3⟩ := hd1; have hb1 := Lib.hid hb1'; have HO1 := Lib.hid ho1; have HO3 := Lib.hid ho3; clear ho1 ho3 hb1' u0 u1 u2 u3 u4 u5 u6 u7 u8)
 obtain ⟨T, hTe, hTs, hTc, hTb⟩ : ∃ T : World, Hid (w1.alloc (.cells #[Value.string d.name, .int .i64 d.stage, .slice A1 d.x.length c1, .string d.bob, .string d.sing, .int .i64 d.step, .string d.call, .string d.tru, .slice A3 d.rx.length c3] 36) = T) ∧ Hid (T.heap.size = w1.heap.size + 1) ∧ Hid (Cells T w1.heap.size 9 (fun i => ([Value.string d.name, .int .i64 d.stage, .slice A1 d.x.length c1, .string d.bob, .string d.sing, .int .i64 d.step, .string d.call, .string d.tru, .slice A3 d.rx.length c3] : List Value).getD i undef)) ∧ Hid (Below w1.heap.size w1 T) :=
  ⟨_, Lib.hid rfl, Lib.hid (by simp), Lib.hid ((Cells.newD _ #[Value.string d.name, .int .i64 d.stage, .slice A1 d.x.length c1, .string d.bob, .string d.sing, .int .i64 d.step, .string d.call, .string d.tru, .slice A3 d.rx.length c3] _).congr fun i _ => getD_toArray _ i), Lib.hid ((Below.refl _ _).alloc (Nat.le_refl _) _)⟩
 obtain ⟨bx, hbx⟩ : ∃ bx, Hid (w1.heap.size = bx) := ⟨_, Lib.hid rfl⟩
 rw [hTe.out, hbx.out]
 rw [hbx.out] at hTc
 clear hTe
 have hz1 := hb1.out.size
 have hzT := hTb.out.size
 have hbxe := hbx.out
 have HB0 : Hid (BdAt d (.agg #[Value.string d.name, .int .i64 d.stage, .slice A1 d.x.length c1, .string d.bob, .string d.sing, .int .i64 d.step, .string d.call, .string d.tru, .slice A3 d.rx.length c3]) W.heap.size w1.heap.size T) := Lib.hid (BdAt.later ⟨A1, c1, A3, c3, gs, rfl, hg1, hg2, HO1.out, HO3.out⟩ hTb.out)
 have HZ0 : Hid (Cells T (w.heap.size + 1) 9 (fun i => (#[Value.string ⟨#[]⟩, .int .i64 0, .slice none 0 0, .string ⟨#[]⟩, .string ⟨#[]⟩, .int .i64 0, .string ⟨#[]⟩, .string ⟨#[]⟩, .slice none 0 0] : Array Value).getD i undef)) := Lib.hid ((hZ.out.later hb1.out).later hTb.out)
 have HW0 : Hid (Below w.heap.size w T) := Lib.hid ((hWb.out.trans (hb1.out.mono hWb.out.size)).trans (hTb.out.mono (by omega)))
 obtain ⟨B, hB9⟩ : ∃ B, Hid (bx + 1 = B) := ⟨_, Lib.hid rfl⟩
 have hBe := hB9.out
 have hTs1 := hTs.out
 go_loopw [7, 16] (fun v i wr => ∃ (k : Nat) (d : Bd) (A1 : Option Addr) (c1 : Nat) (A3 : Option Addr) (c3 : Nat) (rows : List ByteArray) (lo hi : Nat), k ≤ acts.length ∧ i = .int .i64 (k : Int) ∧ Hid (playS b.bd acts k = (d, rows)) ∧ Hid (Grow wr B 9 1 encString v rows) ∧ Hid (∀ g, v.ownBlock = some g → g < lo ∨ hi ≤ g) ∧ Hid (BdAt d (.agg #[Value.string d.name, .int .i64 d.stage, .slice A1 d.x.length c1, .string d.bob, .string d.sing, .int .i64 d.step, .string d.call, .string d.tru, .slice A3 d.rx.length c3]) lo hi wr) ∧ w.heap.size + 2 ≤ lo ∧ (bx < lo ∨ hi ≤ bx) ∧ lo ≤ hi ∧ hi ≤ wr.heap.size ∧ B ≤ wr.heap.size ∧ Hid (Cells wr bx 9 (fun i => ([Value.string d.name, .int .i64 d.stage, .slice A1 d.x.length c1, .string d.bob, .string d.sing, .int .i64 d.step, .string d.call, .string d.tru, .slice A3 d.rx.length c3] : List Value).getD i undef)) ∧ Hid (Cells wr (w.heap.size + 1) 9 (fun i => (#[Value.string ⟨#[]⟩, .int .i64 0, .slice none 0 0, .string ⟨#[]⟩, .string ⟨#[]⟩, .int .i64 0, .string ⟨#[]⟩, .string ⟨#[]⟩, .slice none 0 0] : Array Value).getD i undef)) ∧ Hid (Below w.heap.size w wr)) (fun _ i _ => acts.length - (intOf i).toNat)
 case atStart =>
  exact ⟨0, d, A1, c1, A3, c3, [], W.heap.size, w1.heap.size, Nat.zero_le _, rfl, Lib.hid (by rw [hdd.out]; rfl), Lib.hid Grow.nil, Lib.hid (by intro g hg; simp [Value.ownBlock] at hg), HB0, by omega, by omega, by omega, by omega, by omega, hTc, HZ0, HW0⟩
 case round =>
  clear HB0 HZ0 HW0 hTc hTb HO1 HO3 hdd
  obtain ⟨k, d, A1, c1, A3, c3, rows, lo, hi, hk, rfl, hP, hG, hap, hbd, hlo, hbo, hlh, hhi, hBr, hC, hZ, hbl⟩ := hrel
  by_cases hlt : k < acts.length
  ·obtain ⟨gA, offA, hAA, hgA, hcell⟩ := HA.out.at hlt
   subst hAA
   have p0 := (hbl.out.cell (p := ⟨gA, offA + k * 4, none⟩) hgA).trans (hcell 0 _ rfl)
   have p1 := (hbl.out.cell (p := ⟨gA, offA + k * 4 + 1, none⟩) hgA).trans (hcell 1 _ rfl)
   have p2 := (hbl.out.cell (p := ⟨gA, offA + k * 4 + 2, none⟩) hgA).trans (hcell 2 _ rfl)
   have p3 := (hbl.out.cell (p := ⟨gA, offA + k * 4 + 3, none⟩) hgA).trans (hcell 3 _ rfl)
   obtain ⟨x, hx⟩ : ∃ x, Hid (acts[k] = x) := ⟨_, Lib.hid rfl⟩
   rw [hx.out] at p0 p1 p2 p3
   clear hcell
   have w1 : IntKind.i64.wrap ((k : Int) + 1) = (k : Int) + 1 := IntWalk.i64_in _ (by omega)
   go_upto_region 6 with fail
   obtain ⟨X, hXe, hXb, hXs, hXa⟩ : ∃ X : World, Hid (wr.alloc (.cells #[.int .i64 x.kind, .int .i64 x.bell, .int .i64 x.by_, .string x.call] 45) = X) ∧ Hid (Below wr.heap.size wr X) ∧ Hid (X.heap.size = wr.heap.size + 1) ∧ Hid (Cells X wr.heap.size 4 (fun i => (#[Value.int .i64 x.kind, .int .i64 x.bell, .int .i64 x.by_, .string x.call] : Array Value).getD i undef)) :=
    ⟨_, Lib.hid rfl, Lib.hid ((Below.refl _ _).alloc (Nat.le_refl _) _), Lib.hid (by simp), Lib.hid (Cells.newD _ #[.int .i64 x.kind, .int .i64 x.bell, .int .i64 x.by_, .string x.call] _)⟩
   rw [hXe.out]
   clear hXe p0 p1 p2 p3
   have hinv : Hid (bdP d) := Lib.hid (by have := (playS_inv (d := b.bd) (l := acts) HP.out k).1; rw [hP.out] at this; exact this)
   have hkeep : d.x.length ≤ 1048576 := by have := (playS_keep (d := b.bd) (l := acts) k).1; rw [hP.out] at this; rw [this]; exact hl
   have hrows : rows.length ≤ k := by have := (playS_inv (d := b.bd) (l := acts) HP.out k).2.1; rw [hP.out] at this; exact this
   obtain ⟨gs', hgs1, hgs2, o1, o3⟩ := hbd.out.open
   have hD1 : Hid (∀ Y, Below wr.heap.size wr Y → RdL Y Y.heap.size A1 1 encString d.x ∧ RdL Y Y.heap.size A3 2 Rgr.enc d.rx) := Lib.hid (fun Y hY => ⟨((o1.rd encString_len).below hY (Nat.le_refl _)).more hY.size, ((o3.rd Rgr_enc_len).below hY (Nat.le_refl _)).more hY.size⟩)
   clear o1 o3
   obtain ⟨D, hD⟩ : ∃ D, Hid (doA d x = D) := ⟨_, Lib.hid rfl⟩
   obtain ⟨d0, ok⟩ := D
   have hdone : Hid (Calls Tryz.prog 79 #[.agg #[Value.string d.name, .int .i64 d.stage, .slice A1 d.x.length c1, .string d.bob, .string d.sing, .int .i64 d.step, .string d.call, .string d.tru, .slice A3 d.rx.length c3], .agg #[.int .i64 x.kind, .int .i64 x.bell, .int .i64 x.by_, .string x.call]] X fun e w' => DoOut (d0, ok) X e w') := Lib.hid (by
    have := l24Do_any (d.bnd A1 c1 A3 c3) x.kind x.bell x.by_ x.call X (hD1.out X hXb.out).1 (hD1.out X hXb.out).2 hkeep hinv.out
    rw [doR_bnd, show doR d.b0 x.kind x.bell x.by_ x.call = (d0, ok) from hD.out] at this
    exact this)
   have hXsz := hXs.out
   have HCX := Lib.hid (hC.out.later hXb.out)
   have u0 := HCX.out.cell (i := 0) (by omega)
   have u1 := HCX.out.cell (i := 1) (by omega)
   have u2 := HCX.out.cell (i := 2) (by omega)
   have u3 := HCX.out.cell (i := 3) (by omega)
   have u4 := HCX.out.cell (i := 4) (by omega)
   have u5 := HCX.out.cell (i := 5) (by omega)
   have u6 := HCX.out.cell (i := 6) (by omega)
   have u7 := HCX.out.cell (i := 7) (by omega)
   have u8 := HCX.out.cell (i := 8) (by omega)
   have a0 := hXa.out.cell (i := 0) (by omega)
   have a1 := hXa.out.cell (i := 1) (by omega)
   have a2 := hXa.out.cell (i := 2) (by omega)
   have a3 := hXa.out.cell (i := 3) (by omega)
   go_upto_region 7 with (go_at_call 79; refine hdone.out.mono ?_; rintro e w3 hbd3; obtain ⟨v3, d', rfl, hd3, hb3', hdd3⟩ := hbd3; have Hdd3 := Lib.hid hdd3; clear hdd3; obtain ⟨B1, e1, B3, e3, gs3, rfl, hg31, hg32, ho31, ho33⟩ := hd3; have HB3 := Lib.hid hb3'; have HO1 := Lib.hid ho31; have HO3 := Lib.hid ho33; clear ho31 ho33 hb3' u0 u1 u2 u3 u4 u5 u6 u7 u8 a0 a1 a2 a3)
   obtain ⟨Y, hYe, hYb, hYs, hYc⟩ : ∃ Y : World, Hid (w3.alloc (.cells #[Value.string d'.name, .int .i64 d'.stage, .slice B1 d'.x.length e1, .string d'.bob, .string d'.sing, .int .i64 d'.step, .string d'.call, .string d'.tru, .slice B3 d'.rx.length e3] 36) = Y) ∧ Hid (Below w3.heap.size w3 Y) ∧ Hid (Y.heap.size = w3.heap.size + 1) ∧ Hid (Cells Y w3.heap.size 9 (fun i => (#[Value.string d'.name, .int .i64 d'.stage, .slice B1 d'.x.length e1, .string d'.bob, .string d'.sing, .int .i64 d'.step, .string d'.call, .string d'.tru, .slice B3 d'.rx.length e3] : Array Value).getD i undef)) :=
    ⟨_, Lib.hid rfl, Lib.hid ((Below.refl _ _).alloc (Nat.le_refl _) _), Lib.hid (by simp), Lib.hid (Cells.newD _ #[Value.string d'.name, .int .i64 d'.stage, .slice B1 d'.x.length e1, .string d'.bob, .string d'.sing, .int .i64 d'.step, .string d'.call, .string d'.tru, .slice B3 d'.rx.length e3] _)⟩
   rw [hYe.out]
   clear hYe
   have hYsz := hYs.out
   have hz3 := HB3.out.size
   have HXY : Hid (Below X.heap.size X Y) := Lib.hid (HB3.out.trans (hYb.out.mono hz3))
   have HY : Hid (Below wr.heap.size wr Y) := Lib.hid (hXb.out.trans (HXY.out.mono (by omega)))
   have HBd : Hid (BdAt d' (.agg #[Value.string d'.name, .int .i64 d'.stage, .slice B1 d'.x.length e1, .string d'.bob, .string d'.sing, .int .i64 d'.step, .string d'.call, .string d'.tru, .slice B3 d'.rx.length e3]) X.heap.size w3.heap.size Y) := Lib.hid (BdAt.later ⟨B1, e1, B3, e3, gs3, rfl, hg31, hg32, HO1.out, HO3.out⟩ hYb.out)
   have HCY := Lib.hid (hC.out.later HY.out)
   have HZY := Lib.hid (hZ.out.later HY.out)
   have HGY := Lib.hid (hG.out.later HY.out)
   have HWY : Hid (Below w.heap.size w Y) := Lib.hid (hbl.out.trans (HY.out.mono hbl.out.size))
   have hlt6 : Hid (∀ g, u7.ownBlock = some g → g < wr.heap.size) := Lib.hid hG.out.block_lt
   have HB9 := hB9.out
   cases ok with
   | false =>
    have hno : Hid (playS b.bd acts (k + 1) = (d, rows)) := Lib.hid (by
     rw [playS_no hlt (by rw [hP.out]; show (doA d acts[k]).2 = false; rw [hx.out, hD.out]), hP.out])
    clear hdone
    go_wp2
    go_roundw
    case rel => exact ⟨k + 1, d, A1, c1, A3, c3, rows, lo, hi, by omega, by go_num, hno, HGY, hap, Lib.hid (hbd.out.later HY.out), hlo, hbo, hlh, by omega, by omega, HCY, HZY, HWY⟩
    case measure => simp [intOf]; omega
   | true =>
    obtain rfl : d' = d0 := Hdd3.out rfl
    have r0 := ((hXa.out.later HXY.out).cell (i := 0) (by omega))
    by_cases h1 : x.kind = 1
    ·have ek : (x.kind == (1 : Int)) = true := by simpa using h1
     obtain ⟨R, hR⟩ : ∃ R, Hid (rbO d.rx d.rx.length = R) := ⟨_, Lib.hid rfl⟩
     have HP6 : Hid (playS b.bd acts (k + 1) = (d', rows ++ [R])) := Lib.hid (by
      rw [playS_step hlt (by rw [hP.out]; show (doA d acts[k]).2 = true; rw [hx.out, hD.out]) (by rw [hx.out]; exact h1), hP.out]
      show ((doA d acts[k]).1, rows ++ [rbO d.rx d.rx.length]) = _
      rw [hx.out, hD.out, hR.out])
     have hrow : Hid (Calls Tryz.prog 104 #[.agg #[Value.string d.name, .int .i64 d.stage, .slice A1 d.x.length c1, .string d.bob, .string d.sing, .int .i64 d.step, .string d.call, .string d.tru, .slice A3 d.rx.length c3]] Y fun e w' => e = .returned (.string R) ∧ Below Y.heap.size Y w') := Lib.hid (by
      have := l24Row_anyR (d.bnd A1 c1 A3 c3) Y (hD1.out Y HY.out).2 hinv.out (HT.out.later HWY.out)
      rw [← hR.out]; exact this)
     clear hdone h1
     have q0 := (HCY.out).cell (i := 0) (by omega); have q1 := (HCY.out).cell (i := 1) (by omega); have q2 := (HCY.out).cell (i := 2) (by omega); have q3 := (HCY.out).cell (i := 3) (by omega); have q4 := (HCY.out).cell (i := 4) (by omega); have q5 := (HCY.out).cell (i := 5) (by omega); have q6 := (HCY.out).cell (i := 6) (by omega); have q7 := (HCY.out).cell (i := 7) (by omega); have q8 := (HCY.out).cell (i := 8) (by omega)
     go_upto_region 10 with (first
      | (go_at_call 104; refine hrow.out.mono ?_; rintro e w4 ⟨rfl, hb4'⟩; have HB4 := Lib.hid hb4'; have HG4 := Lib.hid (HGY.out.later hb4'); have hz4 := hb4'.size; clear hb4' q0 q1 q2 q3 q4 q5 q6 q7 q8)
      | (at_builtin; refine wpList_pushA rfl (.tmp 31) (.tmp 34) 24 rfl B 9 _ 1 16 encString rfl String_info rfl (by omega) u7 rows [R] 1 rfl rfl (by simp) HG4.out rfl encString_len (by simp [Value.oneCell']) (by simp only [List.length_singleton]; omega) (by omega) (by omega) ?_; intro v6 w6 g6 b6 gb6 k6; have HG6 := Lib.hid g6; have HB6 := Lib.hid b6; have Hgb6 := Lib.hid gb6; have Hk6 := Lib.hid k6; clear g6 b6 gb6 k6))
     have hz6 := Hgb6.out.size
     have HC6 : Hid (Cells w6 bx 9 (fun i => ([Value.string d.name, .int .i64 d.stage, .slice A1 d.x.length c1, .string d.bob, .string d.sing, .int .i64 d.step, .string d.call, .string d.tru, .slice A3 d.rx.length c3] : List Value).getD i undef)) := Lib.hid ((HCY.out.later HB4.out).below HB6.out (by omega))
     have HYc6 := Lib.hid ((hYc.out.later HB4.out).grown Hgb6.out (fun k hk => by have := hlt6.out k hk; omega))
     have HBd6 := Lib.hid ((HBd.out.later HB4.out).grown Hgb6.out (fun g hg => .inl (by have := hlt6.out g hg; omega)))
     have HZ6 := Lib.hid ((HZY.out.later HB4.out).below HB6.out (by omega))
     have HW6 : Hid (Below w.heap.size w w6) := Lib.hid ((HWY.out.trans (HB4.out.mono HWY.out.size)).trans (HB6.out.mono (by omega)))
     have hap6 : Hid (∀ g, v6.ownBlock = some g → g < X.heap.size ∨ w3.heap.size ≤ g) := Lib.hid (fun g hg => by
      rcases Hk6.out with e | e
      ·have := hlt6.out g (e ▸ hg); omega
      ·rw [e] at hg; injection hg with hg; omega)
     have f0 := (HC6.out).free (i := 0) (by omega); have f1 := (HC6.out).free (i := 1) (by omega); have f2 := (HC6.out).free (i := 2) (by omega); have f3 := (HC6.out).free (i := 3) (by omega); have f4 := (HC6.out).free (i := 4) (by omega); have f5 := (HC6.out).free (i := 5) (by omega); have f6 := (HC6.out).free (i := 6) (by omega); have f7 := (HC6.out).free (i := 7) (by omega); have f8 := (HC6.out).free (i := 8) (by omega)
     have q0 := (HC6.out).cell (i := 0) (by omega); have q1 := (HC6.out).cell (i := 1) (by omega); have q2 := (HC6.out).cell (i := 2) (by omega); have q3 := (HC6.out).cell (i := 3) (by omega); have q4 := (HC6.out).cell (i := 4) (by omega); have q5 := (HC6.out).cell (i := 5) (by omega); have q6 := (HC6.out).cell (i := 6) (by omega); have q7 := (HC6.out).cell (i := 7) (by omega); have q8 := (HC6.out).cell (i := 8) (by omega)
     have p0 := (HYc6.out).cell (i := 0) (by omega); have p1 := (HYc6.out).cell (i := 1) (by omega); have p2 := (HYc6.out).cell (i := 2) (by omega); have p3 := (HYc6.out).cell (i := 3) (by omega); have p4 := (HYc6.out).cell (i := 4) (by omega); have p5 := (HYc6.out).cell (i := 5) (by omega); have p6 := (HYc6.out).cell (i := 6) (by omega); have p7 := (HYc6.out).cell (i := 7) (by omega); have p8 := (HYc6.out).cell (i := 8) (by omega)
     go_upto_region 11 with fail
     clear q0 q1 q2 q3 q4 q5 q6 q7 q8 p0 p1 p2 p3 p4 p5 p6 p7 p8 f0 f1 f2 f3 f4 f5 f6 f7 f8
     obtain ⟨T, hTe, hTs, hTc, hTk⟩ : ∃ T : World, Hid ((((((((((w6.setCell ⟨bx, 0, none⟩ (.string d'.name)).setCell ⟨bx, 1, none⟩ (.int .i64 d'.stage)).setCell ⟨bx, 2, none⟩ (.slice B1 d'.x.length e1)).setCell ⟨bx, 3, none⟩ (.string d'.bob)).setCell ⟨bx, 4, none⟩ (.string d'.sing)).setCell ⟨bx, 5, none⟩ (.int .i64 d'.step)).setCell ⟨bx, 6, none⟩ (.string d'.call)).setCell ⟨bx, 7, none⟩ (.string d'.tru)).setCell ⟨bx, 8, none⟩ (.slice B3 d'.rx.length e3)) = T) ∧ Hid (T.heap.size = (w6).heap.size) ∧ Hid (Cells T (bx) 9 (fun i => ([Value.string d'.name, .int .i64 d'.stage, .slice B1 d'.x.length e1, .string d'.bob, .string d'.sing, .int .i64 d'.step, .string d'.call, .string d'.tru, .slice B3 d'.rx.length e3] : List Value).getD i undef)) ∧ Hid (Chg (bx) (bx + 1) (w6) T) :=
      ⟨_, Lib.hid rfl, Lib.hid (by simp), Lib.hid (HC6.out.boxed [Value.string d'.name, .int .i64 d'.stage, .slice B1 d'.x.length e1, .string d'.bob, .string d'.sing, .int .i64 d'.step, .string d'.call, .string d'.tru, .slice B3 d'.rx.length e3] rfl), Lib.hid (Chg.setN (g := bx) (p := 0) (Nat.le_refl _) (Nat.lt_succ_self _) [Value.string d'.name, .int .i64 d'.stage, .slice B1 d'.x.length e1, .string d'.bob, .string d'.sing, .int .i64 d'.step, .string d'.call, .string d'.tru, .slice B3 d'.rx.length e3] (Chg.refl _ _ (w6)))⟩
     rw [hTe.out]
     clear hTe
     have hTsz := hTs.out
     go_wp2
     go_roundw
     case rel => exact ⟨k + 1, d', B1, e1, B3, e3, (rows ++ [R]), X.heap.size, w3.heap.size, by omega, by go_num, HP6, Lib.hid (HG6.out.chgN hTk.out (by omega)), hap6, Lib.hid (HBd6.out.chg hTk.out (.inr (by omega))), by omega, by omega, by omega, by omega, by omega, hTc, Lib.hid (HZ6.out.chg hTk.out (.inl (by omega))), Lib.hid (Below.chg HW6.out hTk.out (by omega) (by omega))⟩
     case measure => simp [intOf]; omega
    ·have ek : (x.kind == (1 : Int)) = false := by simpa using h1
     have HP6 : Hid (playS b.bd acts (k + 1) = (d', rows)) := Lib.hid (by
      rw [playS_do hlt (by rw [hP.out]; show (doA d acts[k]).2 = true; rw [hx.out, hD.out]) (by rw [hx.out]; exact h1), hP.out]
      show ((doA d acts[k]).1, rows) = _
      rw [hx.out, hD.out])
     clear hdone h1
     have HC6 := HCY
     have HG6 := HGY
     have HZ6 := HZY
     have HW6 := HWY
     have HBd6 := HBd
     have hap6 : Hid (∀ g, u7.ownBlock = some g → g < X.heap.size ∨ w3.heap.size ≤ g) := Lib.hid (fun g hg => by have := hlt6.out g hg; omega)
     have f0 := (HC6.out).free (i := 0) (by omega); have f1 := (HC6.out).free (i := 1) (by omega); have f2 := (HC6.out).free (i := 2) (by omega); have f3 := (HC6.out).free (i := 3) (by omega); have f4 := (HC6.out).free (i := 4) (by omega); have f5 := (HC6.out).free (i := 5) (by omega); have f6 := (HC6.out).free (i := 6) (by omega); have f7 := (HC6.out).free (i := 7) (by omega); have f8 := (HC6.out).free (i := 8) (by omega)
     have q0 := (HC6.out).cell (i := 0) (by omega); have q1 := (HC6.out).cell (i := 1) (by omega); have q2 := (HC6.out).cell (i := 2) (by omega); have q3 := (HC6.out).cell (i := 3) (by omega); have q4 := (HC6.out).cell (i := 4) (by omega); have q5 := (HC6.out).cell (i := 5) (by omega); have q6 := (HC6.out).cell (i := 6) (by omega); have q7 := (HC6.out).cell (i := 7) (by omega); have q8 := (HC6.out).cell (i := 8) (by omega)
     have p0 := (hYc.out).cell (i := 0) (by omega); have p1 := (hYc.out).cell (i := 1) (by omega); have p2 := (hYc.out).cell (i := 2) (by omega); have p3 := (hYc.out).cell (i := 3) (by omega); have p4 := (hYc.out).cell (i := 4) (by omega); have p5 := (hYc.out).cell (i := 5) (by omega); have p6 := (hYc.out).cell (i := 6) (by omega); have p7 := (hYc.out).cell (i := 7) (by omega); have p8 := (hYc.out).cell (i := 8) (by omega)
     go_upto_region 11 with fail
     clear q0 q1 q2 q3 q4 q5 q6 q7 q8 p0 p1 p2 p3 p4 p5 p6 p7 p8 f0 f1 f2 f3 f4 f5 f6 f7 f8
     obtain ⟨T, hTe, hTs, hTc, hTk⟩ : ∃ T : World, Hid ((((((((((Y.setCell ⟨bx, 0, none⟩ (.string d'.name)).setCell ⟨bx, 1, none⟩ (.int .i64 d'.stage)).setCell ⟨bx, 2, none⟩ (.slice B1 d'.x.length e1)).setCell ⟨bx, 3, none⟩ (.string d'.bob)).setCell ⟨bx, 4, none⟩ (.string d'.sing)).setCell ⟨bx, 5, none⟩ (.int .i64 d'.step)).setCell ⟨bx, 6, none⟩ (.string d'.call)).setCell ⟨bx, 7, none⟩ (.string d'.tru)).setCell ⟨bx, 8, none⟩ (.slice B3 d'.rx.length e3)) = T) ∧ Hid (T.heap.size = (Y).heap.size) ∧ Hid (Cells T (bx) 9 (fun i => ([Value.string d'.name, .int .i64 d'.stage, .slice B1 d'.x.length e1, .string d'.bob, .string d'.sing, .int .i64 d'.step, .string d'.call, .string d'.tru, .slice B3 d'.rx.length e3] : List Value).getD i undef)) ∧ Hid (Chg (bx) (bx + 1) (Y) T) :=
      ⟨_, Lib.hid rfl, Lib.hid (by simp), Lib.hid (HC6.out.boxed [Value.string d'.name, .int .i64 d'.stage, .slice B1 d'.x.length e1, .string d'.bob, .string d'.sing, .int .i64 d'.step, .string d'.call, .string d'.tru, .slice B3 d'.rx.length e3] rfl), Lib.hid (Chg.setN (g := bx) (p := 0) (Nat.le_refl _) (Nat.lt_succ_self _) [Value.string d'.name, .int .i64 d'.stage, .slice B1 d'.x.length e1, .string d'.bob, .string d'.sing, .int .i64 d'.step, .string d'.call, .string d'.tru, .slice B3 d'.rx.length e3] (Chg.refl _ _ (Y)))⟩
     rw [hTe.out]
     clear hTe
     have hTsz := hTs.out
     go_wp2
     go_roundw
     case rel => exact ⟨k + 1, d', B1, e1, B3, e3, rows, X.heap.size, w3.heap.size, by omega, by go_num, HP6, Lib.hid (HG6.out.chgN hTk.out (by omega)), hap6, Lib.hid (HBd6.out.chg hTk.out (.inr (by omega))), by omega, by omega, by omega, by omega, by omega, hTc, Lib.hid (HZ6.out.chg hTk.out (.inl (by omega))), Lib.hid (Below.chg HW6.out hTk.out (by omega) (by omega))⟩
     case measure => simp [intOf]; omega
  ·have hkn : k = acts.length := by omega
   rw [hkn] at hP
   have hge : ¬ ((k : Int) < (acts.length : Int)) := by omega
   have q0 := (hC.out).cell (i := 0) (by omega); have q1 := (hC.out).cell (i := 1) (by omega); have q2 := (hC.out).cell (i := 2) (by omega); have q3 := (hC.out).cell (i := 3) (by omega); have q4 := (hC.out).cell (i := 4) (by omega); have q5 := (hC.out).cell (i := 5) (by omega); have q6 := (hC.out).cell (i := 6) (by omega); have q7 := (hC.out).cell (i := 7) (by omega); have q8 := (hC.out).cell (i := 8) (by omega)
   have p0 := (hZ.out).cell (i := 0) (by omega); have p1 := (hZ.out).cell (i := 1) (by omega); have p2 := (hZ.out).cell (i := 2) (by omega); have p3 := (hZ.out).cell (i := 3) (by omega); have p4 := (hZ.out).cell (i := 4) (by omega); have p5 := (hZ.out).cell (i := 5) (by omega); have p6 := (hZ.out).cell (i := 6) (by omega); have p7 := (hZ.out).cell (i := 7) (by omega); have p8 := (hZ.out).cell (i := 8) (by omega)
   have f0 := (hZ.out).free (i := 0) (by omega); have f1 := (hZ.out).free (i := 1) (by omega); have f2 := (hZ.out).free (i := 2) (by omega); have f3 := (hZ.out).free (i := 3) (by omega); have f4 := (hZ.out).free (i := 4) (by omega); have f5 := (hZ.out).free (i := 5) (by omega); have f6 := (hZ.out).free (i := 6) (by omega); have f7 := (hZ.out).free (i := 7) (by omega); have f8 := (hZ.out).free (i := 8) (by omega)
   go_wp2
   obtain ⟨AR, cR, gw, hv6, hoR, hgw⟩ := hG.out.block1 encString_len w.heap.size
   have hap9 := hap.out
   subst hv6
   refine bodyPost_ret (v := .tuple #[.agg #[Value.string d.name, .int .i64 d.stage, .slice A1 d.x.length c1, .string d.bob, .string d.sing, .int .i64 d.step, .string d.call, .string d.tru, .slice A3 d.rx.length c3], .slice AR rows.length cR]) (by simp [results, Tryz.results64, go_sem, p0, p1, p2, p3, p4, p5, p6, p7, p8, f0, f1, f2, f3, f4, f5, f6, f7, f8]) rfl ?_
   have kk : Chg ((w.heap.size + 1)) ((w.heap.size + 1) + 1) (wr) (setN (wr) ((w.heap.size + 1)) 0 [Value.string d.name, .int .i64 d.stage, .slice A1 d.x.length c1, .string d.bob, .string d.sing, .int .i64 d.step, .string d.call, .string d.tru, .slice A3 d.rx.length c3]) := Chg.setN (Nat.le_refl _) (Nat.lt_succ_self _) _ (Chg.refl _ _ (wr))
   have hBB := Below.chg hbl.out kk (by omega) hbl.out.size
   have hks := kk.size
   have hB9' := hB9.out
   refine ⟨.agg #[Value.string d.name, .int .i64 d.stage, .slice A1 d.x.length c1, .string d.bob, .string d.sing, .int .i64 d.step, .string d.call, .string d.tru, .slice A3 d.rx.length c3], AR, cR, gw, lo, hi, by rw [hP.out], by rw [hP.out]; exact hbd.out.chg kk (.inr (by omega)), by rw [hP.out]; exact hoR.chg kk (by omega), by omega, Nat.le_trans hhi hks, by omega, Nat.le_trans (show gw + 1 ≤ (wr).heap.size by omega) hks, ?_, hBB⟩
   rcases hgw with hgw | ⟨hgw, _⟩
   ·left; omega
   ·have := hap9 gw hgw; omega
end Go.Proofs.YtkegbbndmfnolaaGreatDoor
