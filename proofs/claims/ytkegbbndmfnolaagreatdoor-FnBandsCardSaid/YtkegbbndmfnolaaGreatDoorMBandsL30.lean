import Derived.Test.YtkegbbndmfnolaaGreatDoorMBandsL29
/-
 The drawn arguments of FnBands: a method, calls and a touch; a band and actions; a band and an action.
-/
namespace Go.Proofs.YtkegbbndmfnolaaGreatDoor
open Go.RowKit
set_option linter.unusedVariables false
set_option linter.unusedSimpArgs false
set_option maxRecDepth 100000









/-- A drawn method, calls and touch as a result. -/
def MktDrawn (w : World) (e : Ending) (w' : World) : Prop := ∃ (m : Mth) (b s t : ByteArray), e = .returned (.tuple #[.agg #[.string m.name, .int .i64 m.stage, .slice m.A m.x.length m.c], .agg #[.string b, .string s], .string t]) ∧ t.size ≤ 1048576 ∧ (∀ W', Chg 0 w.heap.size w' W' → MkOk m b s W') ∧ Below w.heap.size w w'
/-- A drawn band and actions as a result. -/
def BdaDrawn (w : World) (e : Ending) (w' : World) : Prop := ∃ (b : Bnd) (l : List Act_) (A : Option Addr) (c : Nat), e = .returned (.tuple #[.agg #[.string b.m.name, .int .i64 b.m.stage, .slice b.m.A b.m.x.length b.m.c, .string b.bob, .string b.sing, .int .i64 b.step, .string b.call, .string b.tru, .slice b.RA b.rx.length b.rc], .slice A l.length c]) ∧ l.length ≤ 1048576 ∧ (∀ W', Chg 0 w.heap.size w' W' → b.Ok W' ∧ RdL W' W'.heap.size A 4 Act_.enc l) ∧ Below w.heap.size w w'
/-- A drawn band and an action as a result. -/
def BdoDrawn (w : World) (e : Ending) (w' : World) : Prop := ∃ (b : Bnd) (kd bl yy : Int) (cl : ByteArray), e = .returned (.tuple #[.agg #[.string b.m.name, .int .i64 b.m.stage, .slice b.m.A b.m.x.length b.m.c, .string b.bob, .string b.sing, .int .i64 b.step, .string b.call, .string b.tru, .slice b.RA b.rx.length b.rc], .agg #[.int .i64 kd, .int .i64 bl, .int .i64 yy, .string cl]]) ∧ (∀ W', Chg 0 w.heap.size w' W' → b.Ok W') ∧ Below w.heap.size w w'


set_option maxHeartbeats 16000000 in
theorem drawRingTouch_any (A : Option Addr) (c : Nat) (l : List Int) (w : World) (h : RdL w w.heap.size A 1 encByte l) (hb : ∀ x ∈ l, 0 ≤ x ∧ x < 256) (hl : l.length ≤ 9223372036854775807) : Calls Tryz.prog 7 #[.slice A l.length c] w fun e w' => MktDrawn w e w' := by
 obtain ⟨W0, hWe, hWs, hWb, hR, hQ, HC0⟩ : ∃ W0 : World, Hid ((((w.alloc (.cells #[Value.string ⟨#[]⟩, .int .i64 0, .slice none 0 0] 26)).alloc (.cells #[Value.string ⟨#[]⟩, .string ⟨#[]⟩] 28)).alloc (.cells #[.slice A l.length c, .int .i64 0, .int .u64 0] 84)) = W0) ∧ Hid (W0.heap.size = w.heap.size + 3) ∧ Hid (Below w.heap.size w W0) ∧ Hid (Cells W0 w.heap.size 3 (fun i => (#[Value.string ⟨#[]⟩, .int .i64 0, .slice none 0 0] : Array Value).getD i undef)) ∧ Hid (Cells W0 (w.heap.size + 1) 2 (fun i => (#[Value.string ⟨#[]⟩, .string ⟨#[]⟩] : Array Value).getD i undef)) ∧ Hid (Cur W0 (w.heap.size + 2) 0) := by
  have z1 : w.heap.size + 1 = (w.alloc (.cells #[Value.string ⟨#[]⟩, .int .i64 0, .slice none 0 0] 26)).heap.size := by simp
  have z2 : ((w.alloc (.cells #[Value.string ⟨#[]⟩, .int .i64 0, .slice none 0 0] 26)).alloc (.cells #[Value.string ⟨#[]⟩, .string ⟨#[]⟩] 28)).heap.size = w.heap.size + 2 := by simp
  have hB1 : Below w.heap.size w ((w.alloc (.cells #[Value.string ⟨#[]⟩, .int .i64 0, .slice none 0 0] 26)).alloc (.cells #[Value.string ⟨#[]⟩, .string ⟨#[]⟩] 28)) := ((Below.refl _ _).alloc (Nat.le_refl _) _).alloc (by simp) _
  refine ⟨_, Lib.hid rfl, Lib.hid (by simp), Lib.hid (hB1.alloc (by simp; omega) _), Lib.hid (((Cells.newD _ #[Value.string ⟨#[]⟩, .int .i64 0, .slice none 0 0] _).alloc _).alloc _), Lib.hid ?_, Lib.hid ?_⟩
  ·rw [z1]; exact (Cells.newD _ #[Value.string ⟨#[]⟩, .string ⟨#[]⟩] _).alloc _
  ·have := Cur.new (c := c) ((h.below hB1 (Nat.le_refl _)).more hB1.size) hb hl 84
   rw [z2] at this
   exact this
 have hWs1 : w.heap.size + 3 = W0.heap.size := hWs.out.symm
 obtain ⟨g, hg⟩ : ∃ g, Hid (w.heap.size + 2 = g) := ⟨_, Lib.hid rfl⟩
 have hge := hg.out
 rw [hg.out] at HC0
 clear h hb
 go_enter Tryz.func7, Tryz.ntmps7
 go_upto_region 2 with fail
 rw [hWe.out]
 (try rw [hg.out])
 clear hWe
 go_upto_region 3 with (first | (go_at_call 52; refine (called_any g 0 W0 HC0.out (by omega)).mono ?_; rintro e w1 ⟨nm, n, x, A, c, b, s, rfl, hok, hxc, hbb, hss, ho, hc, ht⟩; have HOK := Lib.hid hok; have Hb := Lib.hid hbb; have Hs := Lib.hid hss; have HO1 := Lib.hid ho; have HC1 := Lib.hid hc; have HT1 := Lib.hid ht; have hz1 := ht.size; clear hok hbb hss ho hc ht))
 obtain ⟨V, hVe, hVb, hM, hKc, hVs⟩ : ∃ V : World, Hid (((w1.alloc (.cells #[Value.string nm, .int .i64 n, .slice A x.length c] 26)).alloc (.cells #[.string b, .string s] 28)) = V) ∧ Hid (Below w1.heap.size w1 V) ∧ Hid (Cells V w1.heap.size 3 (fun i => (#[Value.string nm, .int .i64 n, .slice A x.length c] : Array Value).getD i undef)) ∧ Hid (Cells V (w1.heap.size + 1) 2 (fun i => (#[Value.string b, .string s] : Array Value).getD i undef)) ∧ w1.heap.size + 2 ≤ V.heap.size := by
  have z1 : w1.heap.size + 1 = (w1.alloc (.cells #[Value.string nm, .int .i64 n, .slice A x.length c] 26)).heap.size := by simp
  refine ⟨_, Lib.hid rfl, Lib.hid (((Below.refl _ _).alloc (Nat.le_refl _) _).alloc (by simp) _), Lib.hid ?_, Lib.hid ?_, by simp⟩
  ·exact (Cells.newD _ #[Value.string nm, .int .i64 n, .slice A x.length c] _).alloc _
  ·rw [z1]; exact Cells.newD _ #[.string b, .string s] _
 rw [hVe.out]
 clear hVe
 obtain ⟨bm, hbm⟩ : ∃ bm, Hid (w1.heap.size = bm) := ⟨_, Lib.hid rfl⟩
 rw [hbm.out] at hM hKc hVs ⊢
 have hbe := hbm.out
 have HCV := Lib.hid (HC1.out.later hVb.out)
 have HOV := Lib.hid (HO1.out.later hVb.out)
 have HRV := Lib.hid ((hR.out.turn HT1.out (.inl (by omega))).later hVb.out)
 have HQV := Lib.hid ((hQ.out.turn HT1.out (.inl (by omega))).later hVb.out)
 have hgm : g + 1 ≤ bm := by omega
 go_upto_region 5 with (first | (go_at_call 53; refine (pick_any g 110 6 V (HCV.out.more (by omega)) (by omega) (by omega)).mono ?_; rintro e w2 ⟨p, rfl, hp0, hp1, hc2, ht2⟩; have HC2 := Lib.hid hc2; have Ht2 := Lib.hid ht2; have hz2 := ht2.size; clear hc2 ht2; obtain ⟨k, rfl⟩ : ∃ k : Nat, p = (k : Int) := ⟨p.toNat, by omega⟩; have hk6 : k < 6 := (by omega)) | fail)
 go_loopw [8, 9] (fun v i wr => ∃ (j : Nat) (t : ByteArray), i = .int .i64 (j : Int) ∧ v = .string t ∧ t.size + j ≤ 6 ∧ Cur wr g (200 - 2 * j) ∧ Turn g V wr) (fun _ i _ => (intOf i).toNat)
 case atStart => exact ⟨k + 1, ⟨#[]⟩, by go_num, by rfl, by show 0 + (k + 1) ≤ 6; omega, HC2.out.more (by omega), Ht2.out⟩
 case round =>
  obtain ⟨j, t, rfl, rfl, hj1, hcu, htu⟩ := hrel
  have HCu := Lib.hid hcu
  have HTu := Lib.hid htu
  have hzr := htu.size
  clear hcu htu
  by_cases hlt : 0 < j
  ·have k1 : ∀ s : ByteArray, s.size = 1 → ¬ 9223372036854775807 < t.size + s.size := fun s hs => by omega
   go_wp2_with (first | (go_at_call 54; refine (of_any g (200 - 2 * j) wr.heap.size 4 4 _ (fun s => s.size = 1) _ (HCu.out.later ((Below.refl _ _).alloc (Nat.le_refl _) _)) (by omega) (by omega) (by omega) (Cells.lit wr _ _ 4 rfl) (by have := HCu.out.lt; omega) (by intro k hk; rcases k with _ | _ | _ | _ | k <;> first | exact ⟨_, rfl, by decide⟩ | omega)).mono ?_; rintro e w4 ⟨s9, rfl, hs1, hc, ht⟩; have Hs1 := Lib.hid hs1; have k2 := k1 s9 hs1; have HC4 := Lib.hid hc; have HT4 := Lib.hid (HTu.out.trans ((Turn.of ((Below.refl _ _).alloc (Nat.le_refl _) _)).trans ht)); clear hc ht hs1 k1) | fail)
   go_roundw
   case rel => exact ⟨j - 1, t ++ s9, by go_num, rfl, by rw [size_app]; have := Hs1.out; omega, HC4.out.more (by omega), HT4.out⟩
   case measure => simp [intOf]; omega
  ·obtain rfl : j = 0 := by omega
   go_upto_region 9 with (first | (go_at_call 55; refine (one_any g 200 12 wr (HCu.out.more (by omega)) (by omega) (by omega)).mono ?_; rintro e w5 ⟨b5, rfl, hc5, ht5⟩; have HC5 := Lib.hid hc5; have HT5 := Lib.hid (HTu.out.trans ht5); have hz5 := ht5.size; clear hc5 ht5; cases b5) | fail)
   ·have HtV := HT5
    have HO2 := Lib.hid (HOV.out.turn HtV.out (.inr (by omega)))
    have hM2 := hM.out.turn HtV.out (.inr hgm)
    have hK2 := hKc.out.turn HtV.out (.inr (by omega))
    have m0 := hM2.cell (i := 0) (by omega)
    have m1 := hM2.cell (i := 1) (by omega)
    have m2 := hM2.cell (i := 2) (by omega)
    have k0 := hK2.cell (i := 0) (by omega)
    have k1 := hK2.cell (i := 1) (by omega)
    have hRx := (HRV.out.turn HtV.out (.inl (by omega))); have hQx := (HQV.out.turn HtV.out (.inl (by omega))); have r0 := hRx.cell (i := 0) (by omega); have r1 := hRx.cell (i := 1) (by omega); have r2 := hRx.cell (i := 2) (by omega); have rf0 := hRx.free (i := 0) (by omega); have rf1 := hRx.free (i := 1) (by omega); have rf2 := hRx.free (i := 2) (by omega); have q0 := hQx.cell (i := 0) (by omega); have q1 := hQx.cell (i := 1) (by omega); have qf0 := hQx.free (i := 0) (by omega); have qf1 := hQx.free (i := 1) (by omega); clear hRx hQx
    clear hM2 hK2
    have HTF := Lib.hid ((HT1.out.then hVb.out).trans HtV.out)
    go_region_law (first | fail)
    all_goals
     go_wp2
     refine bodyPost_ret (v := .tuple #[.agg #[Value.string nm, .int .i64 n, .slice A x.length c], .agg #[.string b, .string s], .string t]) (by simp [results, Tryz.results7, go_sem, r0, r1, r2, rf0, rf1, rf2, q0, q1, qf0, qf1]) rfl ?_
     clear r0 r1 r2 rf0 rf1 rf2 q0 q1 qf0 qf1 m0 m1 m2 k0 k1
     have key : ∀ w9, Chg w.heap.size (w.heap.size + 2) w5 w9 → MktDrawn w (.returned (.tuple #[.agg #[Value.string nm, .int .i64 n, .slice A x.length c], .agg #[.string b, .string s], .string t])) w9 := fun w9 kc => by
      refine ⟨⟨nm, n, x, A, c⟩, b, s, t, rfl, by omega, fun W' kW => ⟨((((HO2.out).chg kc (.inr (by omega))).chg kW (.inr (by omega))).rd encString_len), Nat.le_trans HOK.out.wd.2.2 (by omega), Nat.le_trans HOK.out.x9 (by omega), fun y hy => by have := (HOK.out.ch y hy).size; unfold String_small; omega, (by have := Hb.out.size; omega), by have := Hs.out.size; omega, hxc⟩, ?_⟩
      exact Below.chg (Below.chg hWb.out HTF.out (by omega) (by omega)) kc (Nat.le_refl _) (by omega)
     refine key _ ?_
     repeat (first | (with_reducible exact Chg.refl _ _ _) | (with_reducible refine Chg.setCell ?_ (by simp) (by simp) _) | (with_reducible refine Chg.drewH ?_))
   ·go_upto_region 10 with (first | (go_at_call 54; refine (of_any g 202 w5.heap.size 3 3 _ (fun s => s.size ≤ 3) _ (HC5.out.later ((Below.refl _ _).alloc (Nat.le_refl _) _)) (by omega) (by omega) (by omega) (Cells.lit w5 _ _ 3 rfl) (by have := HC5.out.lt; omega) (by intro k hk; rcases k with _ | _ | _ | k <;> first | exact ⟨_, rfl, by decide⟩ | omega)).mono ?_; rintro e w6 ⟨s9, rfl, hs3, hc, ht⟩; have Hs3 := Lib.hid hs3; have ht6 := (Turn.of ((Below.refl _ _).alloc (Nat.le_refl _) _)).trans ht; have HT6 := Lib.hid (HT5.out.trans ht6); have hz6 := ht6.size; clear hc ht ht6 hs3) | fail)
    have HtV := HT6
    have HO2 := Lib.hid (HOV.out.turn HtV.out (.inr (by omega)))
    have hM2 := hM.out.turn HtV.out (.inr hgm)
    have hK2 := hKc.out.turn HtV.out (.inr (by omega))
    have m0 := hM2.cell (i := 0) (by omega)
    have m1 := hM2.cell (i := 1) (by omega)
    have m2 := hM2.cell (i := 2) (by omega)
    have k0 := hK2.cell (i := 0) (by omega)
    have k1 := hK2.cell (i := 1) (by omega)
    have hRx := (HRV.out.turn HtV.out (.inl (by omega))); have hQx := (HQV.out.turn HtV.out (.inl (by omega))); have r0 := hRx.cell (i := 0) (by omega); have r1 := hRx.cell (i := 1) (by omega); have r2 := hRx.cell (i := 2) (by omega); have rf0 := hRx.free (i := 0) (by omega); have rf1 := hRx.free (i := 1) (by omega); have rf2 := hRx.free (i := 2) (by omega); have q0 := hQx.cell (i := 0) (by omega); have q1 := hQx.cell (i := 1) (by omega); have qf0 := hQx.free (i := 0) (by omega); have qf1 := hQx.free (i := 1) (by omega); clear hRx hQx
    clear hM2 hK2
    have HTF := Lib.hid ((HT1.out.then hVb.out).trans HtV.out)
    go_region_law (first | fail)
    all_goals
     go_wp2
     refine bodyPost_ret (v := .tuple #[.agg #[Value.string nm, .int .i64 n, .slice A x.length c], .agg #[.string b, .string s], .string s9]) (by simp [results, Tryz.results7, go_sem, r0, r1, r2, rf0, rf1, rf2, q0, q1, qf0, qf1]) rfl ?_
     clear r0 r1 r2 rf0 rf1 rf2 q0 q1 qf0 qf1 m0 m1 m2 k0 k1
     have key : ∀ w9, Chg w.heap.size (w.heap.size + 2) w6 w9 → MktDrawn w (.returned (.tuple #[.agg #[Value.string nm, .int .i64 n, .slice A x.length c], .agg #[.string b, .string s], .string s9])) w9 := fun w9 kc => by
      refine ⟨⟨nm, n, x, A, c⟩, b, s, s9, rfl, (by have := Hs3.out; omega), fun W' kW => ⟨((((HO2.out).chg kc (.inr (by omega))).chg kW (.inr (by omega))).rd encString_len), Nat.le_trans HOK.out.wd.2.2 (by omega), Nat.le_trans HOK.out.x9 (by omega), fun y hy => by have := (HOK.out.ch y hy).size; unfold String_small; omega, (by have := Hb.out.size; omega), by have := Hs.out.size; omega, hxc⟩, ?_⟩
      exact Below.chg (Below.chg hWb.out HTF.out (by omega) (by omega)) kc (Nat.le_refl _) (by omega)
     refine key _ ?_
     repeat (first | (with_reducible exact Chg.refl _ _ _) | (with_reducible refine Chg.setCell ?_ (by simp) (by simp) _) | (with_reducible refine Chg.drewH ?_))


set_option maxHeartbeats 16000000 in
theorem drawPlayBand_any (A : Option Addr) (c : Nat) (l : List Int) (w : World) (h : RdL w w.heap.size A 1 encByte l) (hb : ∀ x ∈ l, 0 ≤ x ∧ x < 256) (hl : l.length ≤ 9223372036854775807) : Calls Tryz.prog 12 #[.slice A l.length c] w fun e w' => BdaDrawn w e w' := by
 obtain ⟨W0, hWe, hWs, hWb, hZ, HC0⟩ : ∃ W0 : World, Hid (((w.alloc (.cells #[Value.string ⟨#[]⟩, .int .i64 0, .slice none 0 0, .string ⟨#[]⟩, .string ⟨#[]⟩, .int .i64 0, .string ⟨#[]⟩, .string ⟨#[]⟩, .slice none 0 0] 36)).alloc (.cells #[.slice A l.length c, .int .i64 0, .int .u64 0] 84)) = W0) ∧ Hid (W0.heap.size = w.heap.size + 2) ∧ Hid (Below w.heap.size w W0) ∧ Hid (Cells W0 w.heap.size 9 (fun i => (#[Value.string ⟨#[]⟩, .int .i64 0, .slice none 0 0, .string ⟨#[]⟩, .string ⟨#[]⟩, .int .i64 0, .string ⟨#[]⟩, .string ⟨#[]⟩, .slice none 0 0] : Array Value).getD i undef)) ∧ Hid (Cur W0 (w.heap.size + 1) 0) := by
  have z1 : (w.alloc (.cells #[Value.string ⟨#[]⟩, .int .i64 0, .slice none 0 0, .string ⟨#[]⟩, .string ⟨#[]⟩, .int .i64 0, .string ⟨#[]⟩, .string ⟨#[]⟩, .slice none 0 0] 36)).heap.size = w.heap.size + 1 := by simp
  have hB1 : Below w.heap.size w (w.alloc (.cells #[Value.string ⟨#[]⟩, .int .i64 0, .slice none 0 0, .string ⟨#[]⟩, .string ⟨#[]⟩, .int .i64 0, .string ⟨#[]⟩, .string ⟨#[]⟩, .slice none 0 0] 36)) := (Below.refl _ _).alloc (Nat.le_refl _) _
  refine ⟨_, Lib.hid rfl, Lib.hid (by simp), Lib.hid (hB1.alloc (by simp) _), Lib.hid ((Cells.newD _ #[Value.string ⟨#[]⟩, .int .i64 0, .slice none 0 0, .string ⟨#[]⟩, .string ⟨#[]⟩, .int .i64 0, .string ⟨#[]⟩, .string ⟨#[]⟩, .slice none 0 0] _).alloc _), Lib.hid ?_⟩
  have := Cur.new (c := c) ((h.below hB1 (Nat.le_refl _)).more hB1.size) hb hl 84
  rw [z1] at this
  exact this
 have hWs1 : w.heap.size + 2 = W0.heap.size := hWs.out.symm
 obtain ⟨g, hg⟩ : ∃ g, Hid (w.heap.size + 1 = g) := ⟨_, Lib.hid rfl⟩
 have hge := hg.out
 rw [hg.out] at HC0
 clear h hb
 go_enter Tryz.func12, Tryz.ntmps12
 go_upto_region 2 with fail
 rw [hWe.out]
 (try rw [hg.out])
 clear hWe
 go_upto_region 3 with (first | (go_at_call 52; refine (called_any g 0 W0 HC0.out (by omega)).mono ?_; rintro e w1 ⟨nm, n, x, A, c, b, s, rfl, hok, hxc, hbb, hss, ho, hc, ht⟩; have HOK := Lib.hid hok; have Hb := Lib.hid hbb; have Hs := Lib.hid hss; have HO1 := Lib.hid ho; have HC1 := Lib.hid hc; have HT1 := Lib.hid ht; have hz1 := ht.size; clear hok hbb hss ho hc ht) | fail)
 have hn3 := HOK.out.n3
 have hn6 := HOK.out.n6
 have hx0 := HOK.out.x0
 have hx9 := HOK.out.x9
 have hcP : Hid (callsP ⟨nm, n, x, A, c⟩ b s) := Lib.hid ⟨⟨HOK.out.wd, ⟨by show 1 ≤ x.length; omega, by show x.length ≤ 40; omega⟩, fun i hi => HOK.out.ch _ (List.getElem_mem hi)⟩, Hb.out, Hs.out⟩
 obtain ⟨N0, hN0⟩ : ∃ N0, Hid (newD0 ⟨nm, n, x, A, c⟩ b s = N0) := ⟨_, Lib.hid rfl⟩
 have hN0p : Hid (bdP N0) := Lib.hid (by rw [← hN0.out]; exact newD0_ok hcP.out)
 obtain ⟨V, hVe, hVb, hM, hKc, hVs⟩ : ∃ V : World, Hid (((w1.alloc (.cells #[Value.string nm, .int .i64 n, .slice A x.length c] 26)).alloc (.cells #[.string b, .string s] 28)) = V) ∧ Hid (Below w1.heap.size w1 V) ∧ Hid (Cells V w1.heap.size 3 (fun i => (#[Value.string nm, .int .i64 n, .slice A x.length c] : Array Value).getD i undef)) ∧ Hid (Cells V (w1.heap.size + 1) 2 (fun i => (#[Value.string b, .string s] : Array Value).getD i undef)) ∧ w1.heap.size + 2 ≤ V.heap.size := by
  have z1 : w1.heap.size + 1 = (w1.alloc (.cells #[Value.string nm, .int .i64 n, .slice A x.length c] 26)).heap.size := by simp
  refine ⟨_, Lib.hid rfl, Lib.hid (((Below.refl _ _).alloc (Nat.le_refl _) _).alloc (by simp) _), Lib.hid ?_, Lib.hid ?_, by simp⟩
  ·exact (Cells.newD _ #[Value.string nm, .int .i64 n, .slice A x.length c] _).alloc _
  ·rw [z1]; exact Cells.newD _ #[.string b, .string s] _
 rw [hVe.out]
 clear hVe
 obtain ⟨bm, hbm⟩ : ∃ bm, Hid (w1.heap.size = bm) := ⟨_, Lib.hid rfl⟩
 rw [hbm.out] at hM hKc hVs ⊢
 have hbe := hbm.out
 have hgm : g < bm := by omega
 have HTV := Lib.hid (HT1.out.then hVb.out)
 have HCV := Lib.hid (HC1.out.later hVb.out)
 have HOV := Lib.hid (HO1.out.later hVb.out)
 have HZV := Lib.hid ((hZ.out.turn HT1.out (.inl (by omega))).later hVb.out)
 have HNew : Hid (∀ W, Below V.heap.size V W → Calls Tryz.prog 65 #[.agg #[Value.string nm, .int .i64 n, .slice A x.length c], .agg #[.string b, .string s]] W fun e w' => ∃ v, e = .returned v ∧ BdAt N0 v W.heap.size w'.heap.size w' ∧ Below W.heap.size W w' ∧ Below V.heap.size V W) := Lib.hid fun W hb => by
  have := l24New_any ⟨nm, n, x, A, c⟩ b s W (((HOV.out.later hb).rd encString_len)) (by show x.length ≤ _; omega) hx0 (by show 1 ≤ n; omega) (by show n ≤ 8; omega)
  exact this.mono fun e w' hbo => by
   obtain ⟨A1, c1, A3, c3, gs, he, h1, h2, o1, o3, hb2⟩ := hbo
   exact ⟨_, he, by rw [← hN0.out]; exact ⟨A1, c1, A3, c3, gs, rfl, h1, h2, o1, o3⟩, hb2, hb⟩
 have u0 := hM.out.cell (i := 0) (by omega)
 have u1 := hM.out.cell (i := 1) (by omega)
 have u2 := hM.out.cell (i := 2) (by omega)
 have u3 := hKc.out.cell (i := 0) (by omega)
 have u4 := hKc.out.cell (i := 1) (by omega)
 clear hcP HC1 HO1 HC0
 go_region_law (first
  | (refine step_callsX (by rfl) 65 (by rfl) #[.agg #[Value.string nm, .int .i64 n, .slice A x.length c], .agg #[.string b, .string s]] (by go_simp) (HNew.out _ (by repeat (first | exact Below.refl _ _ | refine Below.drew ?_ | refine Below.alloc ?_ (Nat.le_refl _) _))) ?_; rintro v wA ⟨hbd, hbA, hbV⟩; obtain ⟨A1, c1, A3, c3, gs, rfl, hg1, hg2, o1, o3⟩ := hbd; have HO1 := Lib.hid o1; have HO3 := Lib.hid o3; have hzv := hbV.size; have hzA := hbA.size; have HBA := Lib.hid (hbV.trans (hbA.mono hbV.size)); have hMA := hM.out.later HBA.out; have m0 := hMA.cell (i := 0) (by omega); have m1 := hMA.cell (i := 1) (by omega); have m2 := hMA.cell (i := 2) (by omega); have HRA : Hid (∀ W, Below wA.heap.size wA W → Calls Tryz.prog 67 #[.pointer (some ⟨g, 0, none⟩), .int .i64 n, .int .i64 60] W fun e w' => ∃ v, e = .returned v ∧ ∃ (l : List Act_) (A2 : Option Addr) (c2 : Nat), v = .slice A2 l.length c2 ∧ l.length ≤ 60 ∧ OwnL w' W.heap.size w'.heap.size A2 4 Act_.enc l ∧ Turn g wA w' ∧ Turn g W w' ∧ Below wA.heap.size wA W) := Lib.hid (fun W hb => by
     have hca := ringActs_any g 110 n.toNat 60 W (((HCV.out.later HBA.out).later hb).more (by omega)) (by omega) (by omega) (by omega)
     rw [show ((n.toNat : Nat) : Int) = n by omega] at hca
     exact hca.mono fun e w' ⟨l, A2, c2, he, h1, h2, hc, ht⟩ => ⟨_, he, l, A2, c2, rfl, h1, h2, (Turn.of hb).trans ht, ht, hb⟩); clear hbA hbV o1 o3 hMA)
  | (refine step_callsX (by rfl) 67 (by rfl) #[.pointer (some ⟨g, 0, none⟩), .int .i64 n, .int .i64 60] (by go_simp) (HRA.out _ (by repeat (first | exact Below.refl _ _ | refine Below.drew ?_ | refine Below.alloc ?_ (Nat.le_refl _) _))) ?_; rintro v wB ⟨l2, A2, c2, rfl, hl60, hoB, htB, htW, hbAW⟩; have HTB := Lib.hid htB; have hzB := htB.size; have HoB := Lib.hid hoB; have hzW := hbAW.size; have hZx := (HZV.out.later HBA.out).turn HTB.out (.inl (by omega)); have p0 := hZx.cell (i := 0) (by decide); have p1 := hZx.cell (i := 1) (by decide); have p2 := hZx.cell (i := 2) (by decide); have p3 := hZx.cell (i := 3) (by decide); have p4 := hZx.cell (i := 4) (by decide); have p5 := hZx.cell (i := 5) (by decide); have p6 := hZx.cell (i := 6) (by decide); have p7 := hZx.cell (i := 7) (by decide); have p8 := hZx.cell (i := 8) (by decide); have f0 := hZx.free (i := 0) (by decide); have f1 := hZx.free (i := 1) (by decide); have f2 := hZx.free (i := 2) (by decide); have f3 := hZx.free (i := 3) (by decide); have f4 := hZx.free (i := 4) (by decide); have f5 := hZx.free (i := 5) (by decide); have f6 := hZx.free (i := 6) (by decide); have f7 := hZx.free (i := 7) (by decide); have f8 := hZx.free (i := 8) (by decide); clear hZx; clear htB hoB HRA htW hbAW)
  | fail)
 all_goals
  clear u0 u1 u2 u3 u4
  (try clear m0 m1 m2)
  go_wp2
  refine bodyPost_ret (v := .tuple #[.agg #[.string N0.name, .int .i64 N0.stage, .slice A1 N0.x.length c1, .string N0.bob, .string N0.sing, .int .i64 N0.step, .string N0.call, .string N0.tru, .slice A3 N0.rx.length c3], .slice A2 l2.length c2]) (by simp [results, Tryz.results12, go_sem, p0, p1, p2, p3, p4, p5, p6, p7, p8, f0, f1, f2, f3, f4, f5, f6, f7, f8]) rfl ?_
  clear p0 p1 p2 p3 p4 p5 p6 p7 p8 f0 f1 f2 f3 f4 f5 f6 f7 f8
  have key : ∀ w9, Chg w.heap.size (w.heap.size + 1) wB w9 → BdaDrawn w (.returned (.tuple #[.agg #[.string N0.name, .int .i64 N0.stage, .slice A1 N0.x.length c1, .string N0.bob, .string N0.sing, .int .i64 N0.step, .string N0.call, .string N0.tru, .slice A3 N0.rx.length c3], .slice A2 l2.length c2])) w9 := fun w9 kc => by
   have hO1 := (HO1.out.turn HTB.out (.inr (by omega))).chg kc (.inr (by omega))
   have hO3 := (HO3.out.turn HTB.out (.inr (by omega))).chg kc (.inr (by omega))
   have hOA := HoB.out.chg kc (.inr (by omega))
   refine ⟨N0.bnd A1 c1 A3 c3, l2, A2, c2, rfl, by omega, fun W' kW => ⟨Bnd.ok_of hN0p.out ((hO1.chg kW (.inr (by omega))).rd encString_len) ((hO3.chg kW (.inr (by omega))).rd Rgr_enc_len), (hOA.chg kW (.inr (by omega))).rd Act__enc_len⟩, ?_⟩
   exact Below.chg (Below.chg hWb.out ((HTV.out.then HBA.out).trans HTB.out) (by omega) (by omega)) kc (Nat.le_refl _) (by omega)
  refine key _ ?_
  repeat (first | (with_reducible exact Chg.refl _ _ _) | (with_reducible refine Chg.setCell ?_ (by simp) (by simp) _) | (with_reducible refine Chg.drewH ?_))




set_option maxHeartbeats 16000000 in
theorem drawDoBand_any (A : Option Addr) (c : Nat) (l : List Int) (w : World) (h : RdL w w.heap.size A 1 encByte l) (hb : ∀ x ∈ l, 0 ≤ x ∧ x < 256) (hl : l.length ≤ 9223372036854775807) (htab : Tab w) : Calls Tryz.prog 17 #[.slice A l.length c] w fun e w' => BdoDrawn w e w' := by
 obtain ⟨W0, hWe, hWs, hWb, hZ, hZA, HC0⟩ : ∃ W0 : World, Hid ((((w.alloc (.cells #[Value.string ⟨#[]⟩, .int .i64 0, .slice none 0 0, .string ⟨#[]⟩, .string ⟨#[]⟩, .int .i64 0, .string ⟨#[]⟩, .string ⟨#[]⟩, .slice none 0 0] 36)).alloc (.cells #[Value.int .i64 0, .int .i64 0, .int .i64 0, .string ⟨#[]⟩] 45)).alloc (.cells #[.slice A l.length c, .int .i64 0, .int .u64 0] 84)) = W0) ∧ Hid (W0.heap.size = w.heap.size + 3) ∧ Hid (Below w.heap.size w W0) ∧ Hid (Cells W0 w.heap.size 9 (fun i => (#[Value.string ⟨#[]⟩, .int .i64 0, .slice none 0 0, .string ⟨#[]⟩, .string ⟨#[]⟩, .int .i64 0, .string ⟨#[]⟩, .string ⟨#[]⟩, .slice none 0 0] : Array Value).getD i undef)) ∧ Hid (Cells W0 (w.heap.size + 1) 4 (fun i => (#[Value.int .i64 0, .int .i64 0, .int .i64 0, .string ⟨#[]⟩] : Array Value).getD i undef)) ∧ Hid (Cur W0 (w.heap.size + 2) 0) := by
  have z1 : w.heap.size + 1 = (w.alloc (.cells #[Value.string ⟨#[]⟩, .int .i64 0, .slice none 0 0, .string ⟨#[]⟩, .string ⟨#[]⟩, .int .i64 0, .string ⟨#[]⟩, .string ⟨#[]⟩, .slice none 0 0] 36)).heap.size := by simp
  have z2 : ((w.alloc (.cells #[Value.string ⟨#[]⟩, .int .i64 0, .slice none 0 0, .string ⟨#[]⟩, .string ⟨#[]⟩, .int .i64 0, .string ⟨#[]⟩, .string ⟨#[]⟩, .slice none 0 0] 36)).alloc (.cells #[Value.int .i64 0, .int .i64 0, .int .i64 0, .string ⟨#[]⟩] 45)).heap.size = w.heap.size + 2 := by simp
  have hB1 : Below w.heap.size w ((w.alloc (.cells #[Value.string ⟨#[]⟩, .int .i64 0, .slice none 0 0, .string ⟨#[]⟩, .string ⟨#[]⟩, .int .i64 0, .string ⟨#[]⟩, .string ⟨#[]⟩, .slice none 0 0] 36)).alloc (.cells #[Value.int .i64 0, .int .i64 0, .int .i64 0, .string ⟨#[]⟩] 45)) := ((Below.refl _ _).alloc (Nat.le_refl _) _).alloc (by simp) _
  refine ⟨_, Lib.hid rfl, Lib.hid (by simp), Lib.hid (hB1.alloc (by simp; omega) _), Lib.hid (((Cells.newD _ #[Value.string ⟨#[]⟩, .int .i64 0, .slice none 0 0, .string ⟨#[]⟩, .string ⟨#[]⟩, .int .i64 0, .string ⟨#[]⟩, .string ⟨#[]⟩, .slice none 0 0] _).alloc _).alloc _), Lib.hid ?_, Lib.hid ?_⟩
  ·rw [z1]; exact (Cells.newD _ #[Value.int .i64 0, .int .i64 0, .int .i64 0, .string ⟨#[]⟩] _).alloc _
  ·have := Cur.new (c := c) ((h.below hB1 (Nat.le_refl _)).more hB1.size) hb hl 84
   rw [z2] at this
   exact this
 have hWs1 : w.heap.size + 3 = W0.heap.size := hWs.out.symm
 obtain ⟨g, hg⟩ : ∃ g, Hid (w.heap.size + 2 = g) := ⟨_, Lib.hid rfl⟩
 have hge := hg.out
 rw [hg.out] at HC0
 have HB := Lib.hid (anyBand_any g 0 w W0 HC0.out (by omega) htab hWb.out (by omega))
 clear h hb htab
 go_enter Tryz.func17, Tryz.ntmps17
 go_upto_region 2 with fail
 rw [hWe.out]
 (try rw [hg.out])
 clear hWe
 go_upto_region 3 with (first | (go_at_call 75; refine HB.out.mono ?_; rintro e w1 ⟨b, rfl, hrob, hc1, ht1⟩; have HRob := Lib.hid hrob; have HC1 := Lib.hid hc1; have HT1 := Lib.hid ht1; have hz1 := ht1.size; clear hrob hc1 ht1) | fail)
 obtain ⟨V, hVe, hVb, hB, hVs⟩ : ∃ V : World, Hid (w1.alloc (.cells #[.string b.m.name, .int .i64 b.m.stage, .slice b.m.A b.m.x.length b.m.c, .string b.bob, .string b.sing, .int .i64 b.step, .string b.call, .string b.tru, .slice b.RA b.rx.length b.rc] 36) = V) ∧ Hid (Below w1.heap.size w1 V) ∧ Hid (Cells V w1.heap.size 9 (fun i => (#[Value.string b.m.name, .int .i64 b.m.stage, .slice b.m.A b.m.x.length b.m.c, .string b.bob, .string b.sing, .int .i64 b.step, .string b.call, .string b.tru, .slice b.RA b.rx.length b.rc] : Array Value).getD i undef)) ∧ w1.heap.size + 1 ≤ V.heap.size := ⟨_, Lib.hid rfl, Lib.hid ((Below.refl _ _).alloc (Nat.le_refl _) _), Lib.hid (Cells.newD _ #[.string b.m.name, .int .i64 b.m.stage, .slice b.m.A b.m.x.length b.m.c, .string b.bob, .string b.sing, .int .i64 b.step, .string b.call, .string b.tru, .slice b.RA b.rx.length b.rc] _), by simp⟩
 rw [hVe.out]
 clear hVe
 obtain ⟨bm, hbm⟩ : ∃ bm, Hid (w1.heap.size = bm) := ⟨_, Lib.hid rfl⟩
 rw [hbm.out] at hB hVs ⊢
 have hbe := hbm.out
 have HCV := Lib.hid (HC1.out.later hVb.out)
 have HTV := Lib.hid (HT1.out.then hVb.out)
 go_upto_region 4 with (first | (go_at_call 76; refine (ringAct_any g (0 + 1300) 4 V HCV.out (by omega) (by omega)).mono ?_; rintro e w2 ⟨a, rfl, hc2, ht2⟩; have HC2 := Lib.hid hc2; have HT2 := Lib.hid ht2; have hz2 := ht2.size; clear hc2 ht2) | fail)
 obtain ⟨U, hUe, hUb, hA, hUs⟩ : ∃ U : World, Hid (w2.alloc (.cells #[.int .i64 a.kind, .int .i64 a.bell, .int .i64 a.by_, .string a.call] 45) = U) ∧ Hid (Below w2.heap.size w2 U) ∧ Hid (Cells U w2.heap.size 4 (fun i => (#[Value.int .i64 a.kind, .int .i64 a.bell, .int .i64 a.by_, .string a.call] : Array Value).getD i undef)) ∧ w2.heap.size + 1 ≤ U.heap.size := ⟨_, Lib.hid rfl, Lib.hid ((Below.refl _ _).alloc (Nat.le_refl _) _), Lib.hid (Cells.newD _ #[.int .i64 a.kind, .int .i64 a.bell, .int .i64 a.by_, .string a.call] _), by simp⟩
 rw [hUe.out]
 clear hUe
 obtain ⟨am, ham⟩ : ∃ am, Hid (w2.heap.size = am) := ⟨_, Lib.hid rfl⟩
 rw [ham.out] at hA hUs ⊢
 have hae := ham.out
 have HCU := Lib.hid (HC2.out.later hUb.out)
 have HTU := Lib.hid (HT2.out.then hUb.out)
 have hzU := HTU.out.size
 go_upto_region 5 with (first | (go_at_call 55; refine (one_any g 1400 10 U (HCU.out.more (by omega)) (by omega) (by omega)).mono ?_; rintro e w3 ⟨b3, rfl, hc3, ht3⟩; have HC3 := Lib.hid hc3; have HT3 := Lib.hid ht3; have hz3 := ht3.size; clear hc3 ht3; cases b3) | fail)
 ·have hb9 := (hB.out.turn HTU.out (.inr (by omega))).turn HT3.out (.inr (by omega))
  have hUx := hb9; have u0 := hUx.cell (i := 0) (by decide); have u1 := hUx.cell (i := 1) (by decide); have u2 := hUx.cell (i := 2) (by decide); have u3 := hUx.cell (i := 3) (by decide); have u4 := hUx.cell (i := 4) (by decide); have u5 := hUx.cell (i := 5) (by decide); have u6 := hUx.cell (i := 6) (by decide); have u7 := hUx.cell (i := 7) (by decide); have u8 := hUx.cell (i := 8) (by decide); clear hUx
  have ha9 := hA.out.turn HT3.out (.inr (by omega))
  have hUx := ha9; have v0 := hUx.cell (i := 0) (by decide); have v1 := hUx.cell (i := 1) (by decide); have v2 := hUx.cell (i := 2) (by decide); have v3 := hUx.cell (i := 3) (by decide); clear hUx
  have hZx := ((hZ.out.turn HTV.out (.inl (by omega))).turn HTU.out (.inl (by omega))).turn HT3.out (.inl (by omega)); have p0 := hZx.cell (i := 0) (by decide); have p1 := hZx.cell (i := 1) (by decide); have p2 := hZx.cell (i := 2) (by decide); have p3 := hZx.cell (i := 3) (by decide); have p4 := hZx.cell (i := 4) (by decide); have p5 := hZx.cell (i := 5) (by decide); have p6 := hZx.cell (i := 6) (by decide); have p7 := hZx.cell (i := 7) (by decide); have p8 := hZx.cell (i := 8) (by decide); have f0 := hZx.free (i := 0) (by decide); have f1 := hZx.free (i := 1) (by decide); have f2 := hZx.free (i := 2) (by decide); have f3 := hZx.free (i := 3) (by decide); have f4 := hZx.free (i := 4) (by decide); have f5 := hZx.free (i := 5) (by decide); have f6 := hZx.free (i := 6) (by decide); have f7 := hZx.free (i := 7) (by decide); have f8 := hZx.free (i := 8) (by decide); clear hZx
  have hZx := ((hZA.out.turn HTV.out (.inl (by omega))).turn HTU.out (.inl (by omega))).turn HT3.out (.inl (by omega)); have q0 := hZx.cell (i := 0) (by decide); have q1 := hZx.cell (i := 1) (by decide); have q2 := hZx.cell (i := 2) (by decide); have q3 := hZx.cell (i := 3) (by decide); have qf0 := hZx.free (i := 0) (by decide); have qf1 := hZx.free (i := 1) (by decide); have qf2 := hZx.free (i := 2) (by decide); have qf3 := hZx.free (i := 3) (by decide); clear hZx
  clear hb9 ha9
  have HTW : Hid (Turn g w1 w3) := Lib.hid (((Turn.of hVb.out).trans HTU.out).trans HT3.out)
  have HTA : Hid (Chg w.heap.size w3.heap.size W0 w3) := Lib.hid (((HTV.out.trans HTU.out).trans HT3.out).mono (by omega) (by omega))
  go_region_law (first | fail)
  all_goals
   go_wp2
   refine bodyPost_ret (v := .tuple #[.agg #[.string b.m.name, .int .i64 b.m.stage, .slice b.m.A b.m.x.length b.m.c, .string b.bob, .string b.sing, .int .i64 b.step, .string b.call, .string b.tru, .slice b.RA b.rx.length b.rc], .agg #[.int .i64 a.kind, .int .i64 a.bell, .int .i64 a.by_, .string a.call]]) (by simp [results, Tryz.results17, go_sem, p0, p1, p2, p3, p4, p5, p6, p7, p8, f0, f1, f2, f3, f4, f5, f6, f7, f8, q0, q1, q2, q3, qf0, qf1, qf2, qf3]) rfl ?_
   clear p0 p1 p2 p3 p4 p5 p6 p7 p8 f0 f1 f2 f3 f4 f5 f6 f7 f8 q0 q1 q2 q3 qf0 qf1 qf2 qf3 u0 u1 u2 u3 u4 u5 u6 u7 u8 v0 v1 v2 v3
   have key : ∀ w9, Chg w.heap.size (w.heap.size + 2) w3 w9 → BdoDrawn w (.returned (.tuple #[.agg #[.string b.m.name, .int .i64 b.m.stage, .slice b.m.A b.m.x.length b.m.c, .string b.bob, .string b.sing, .int .i64 b.step, .string b.call, .string b.tru, .slice b.RA b.rx.length b.rc], .agg #[.int .i64 a.kind, .int .i64 a.bell, .int .i64 a.by_, .string a.call]])) w9 := fun w9 kc => by
    refine ⟨b, a.kind, a.bell, a.by_, a.call, rfl, fun W' kW => ?_, Below.chg (Below.chg hWb.out HTA.out (by omega) (by omega)) kc (Nat.le_refl _) (by omega)⟩
    exact HRob.out W' (((HTW.out.mono (Nat.zero_le _) (by omega)).trans (kc.mono (Nat.zero_le _) (by omega))).trans (kW.mono (Nat.le_refl _) (by omega)))
   refine key _ ?_
   repeat (first | (with_reducible exact Chg.refl _ _ _) | (with_reducible refine Chg.setCell ?_ (by simp) (by simp) _) | (with_reducible refine Chg.drewH ?_))
 ·go_upto_region 6 with (first | (go_at_call 77; refine (among_any g 1402 w3.heap.size 3 3 _ (fun _ => True) _ ((HC3.out.later ((Below.refl _ _).alloc (Nat.le_refl _) _)).more (by omega)) (by omega) (by omega) (by omega) (Cells.lit w3 _ _ 3 rfl) (by have := HC3.out.lt; omega) (by intro k hk; rcases k with _ | _ | _ | k <;> first | exact ⟨_, rfl, trivial⟩ | omega)).mono ?_; rintro e w4 ⟨bl, rfl, _, hc4, ht4⟩; have ht4' := (Turn.of ((Below.refl _ _).alloc (Nat.le_refl _) _)).trans ht4; have HT4 := Lib.hid (HT3.out.trans ht4'); have hz4 := ht4'.size; have hA4 := hA.out.turn HT4.out (.inr (by omega)); have v1 := hA4.cell (i := 1) (by omega); have vf1 := hA4.free (i := 1) (by omega); clear hc4 ht4 ht4' hA4) | fail)
  obtain ⟨Q, hQe, hQk, hAQ⟩ : ∃ Q : World, Hid (w4.setCell ⟨am, 1, none⟩ (.int .i64 bl) = Q) ∧ Hid (Chg am (am + 1) w4 Q) ∧ Hid (Cells Q am 4 (fun i => ([Value.int .i64 a.kind, .int .i64 bl, .int .i64 a.by_, .string a.call] : List Value).getD i undef)) := ⟨_, Lib.hid rfl, Lib.hid ((Chg.refl _ _ w4).setCell (p := ⟨am, 1, none⟩) (Nat.le_refl _) (Nat.lt_succ_self _) _), Lib.hid (((hA.out.turn HT4.out (.inr (by omega))).set (i := 1) (by omega) (.int .i64 bl)).congr (fun i hi => by match i, hi with | 0, _ => rfl | 1, _ => rfl | 2, _ => rfl | 3, _ => rfl))⟩
  rw [hQe.out]
  clear hQe v1 vf1
  have hzQ := hQk.out.size
  have hb9 := ((hB.out.turn HTU.out (.inr (by omega))).turn HT4.out (.inr (by omega))).chg hQk.out (.inl (by omega))
  have hUx := hb9; have u0 := hUx.cell (i := 0) (by decide); have u1 := hUx.cell (i := 1) (by decide); have u2 := hUx.cell (i := 2) (by decide); have u3 := hUx.cell (i := 3) (by decide); have u4 := hUx.cell (i := 4) (by decide); have u5 := hUx.cell (i := 5) (by decide); have u6 := hUx.cell (i := 6) (by decide); have u7 := hUx.cell (i := 7) (by decide); have u8 := hUx.cell (i := 8) (by decide); clear hUx
  have ha9 := hAQ.out
  have hUx := ha9; have v0 := hUx.cell (i := 0) (by decide); have v1 := hUx.cell (i := 1) (by decide); have v2 := hUx.cell (i := 2) (by decide); have v3 := hUx.cell (i := 3) (by decide); clear hUx
  have hZx := (((hZ.out.turn HTV.out (.inl (by omega))).turn HTU.out (.inl (by omega))).turn HT4.out (.inl (by omega))).chg hQk.out (.inl (by omega)); have p0 := hZx.cell (i := 0) (by decide); have p1 := hZx.cell (i := 1) (by decide); have p2 := hZx.cell (i := 2) (by decide); have p3 := hZx.cell (i := 3) (by decide); have p4 := hZx.cell (i := 4) (by decide); have p5 := hZx.cell (i := 5) (by decide); have p6 := hZx.cell (i := 6) (by decide); have p7 := hZx.cell (i := 7) (by decide); have p8 := hZx.cell (i := 8) (by decide); have f0 := hZx.free (i := 0) (by decide); have f1 := hZx.free (i := 1) (by decide); have f2 := hZx.free (i := 2) (by decide); have f3 := hZx.free (i := 3) (by decide); have f4 := hZx.free (i := 4) (by decide); have f5 := hZx.free (i := 5) (by decide); have f6 := hZx.free (i := 6) (by decide); have f7 := hZx.free (i := 7) (by decide); have f8 := hZx.free (i := 8) (by decide); clear hZx
  have hZx := (((hZA.out.turn HTV.out (.inl (by omega))).turn HTU.out (.inl (by omega))).turn HT4.out (.inl (by omega))).chg hQk.out (.inl (by omega)); have q0 := hZx.cell (i := 0) (by decide); have q1 := hZx.cell (i := 1) (by decide); have q2 := hZx.cell (i := 2) (by decide); have q3 := hZx.cell (i := 3) (by decide); have qf0 := hZx.free (i := 0) (by decide); have qf1 := hZx.free (i := 1) (by decide); have qf2 := hZx.free (i := 2) (by decide); have qf3 := hZx.free (i := 3) (by decide); clear hZx
  clear hb9 ha9
  have HTW : Hid (Turn g w1 Q) := Lib.hid ((((Turn.of hVb.out).trans HTU.out).trans HT4.out).thenB (Below.chg (Below.refl _ _) hQk.out (by omega) (by omega)))
  have HTA : Hid (Chg w.heap.size Q.heap.size W0 Q) := Lib.hid ((((HTV.out.trans HTU.out).trans HT4.out).mono (by omega) (by omega)).trans (hQk.out.mono (by omega) (by omega)))
  go_region_law (first | fail)
  all_goals
   go_wp2
   refine bodyPost_ret (v := .tuple #[.agg #[.string b.m.name, .int .i64 b.m.stage, .slice b.m.A b.m.x.length b.m.c, .string b.bob, .string b.sing, .int .i64 b.step, .string b.call, .string b.tru, .slice b.RA b.rx.length b.rc], .agg #[.int .i64 a.kind, .int .i64 bl, .int .i64 a.by_, .string a.call]]) (by simp [results, Tryz.results17, go_sem, p0, p1, p2, p3, p4, p5, p6, p7, p8, f0, f1, f2, f3, f4, f5, f6, f7, f8, q0, q1, q2, q3, qf0, qf1, qf2, qf3]) rfl ?_
   clear p0 p1 p2 p3 p4 p5 p6 p7 p8 f0 f1 f2 f3 f4 f5 f6 f7 f8 q0 q1 q2 q3 qf0 qf1 qf2 qf3 u0 u1 u2 u3 u4 u5 u6 u7 u8 v0 v1 v2 v3
   have key : ∀ w9, Chg w.heap.size (w.heap.size + 2) Q w9 → BdoDrawn w (.returned (.tuple #[.agg #[.string b.m.name, .int .i64 b.m.stage, .slice b.m.A b.m.x.length b.m.c, .string b.bob, .string b.sing, .int .i64 b.step, .string b.call, .string b.tru, .slice b.RA b.rx.length b.rc], .agg #[.int .i64 a.kind, .int .i64 bl, .int .i64 a.by_, .string a.call]])) w9 := fun w9 kc => by
    refine ⟨b, a.kind, bl, a.by_, a.call, rfl, fun W' kW => ?_, Below.chg (Below.chg hWb.out HTA.out (by omega) (by omega)) kc (Nat.le_refl _) (by omega)⟩
    exact HRob.out W' (((HTW.out.mono (Nat.zero_le _) (by omega)).trans (kc.mono (Nat.zero_le _) (by omega))).trans (kW.mono (Nat.le_refl _) (by omega)))
   refine key _ ?_
   repeat (first | (with_reducible exact Chg.refl _ _ _) | (with_reducible refine Chg.setCell ?_ (by simp) (by simp) _) | (with_reducible refine Chg.drewH ?_))
end Go.Proofs.YtkegbbndmfnolaaGreatDoor
