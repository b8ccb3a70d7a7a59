import Derived.Test.YtkegbbndmfnolaaGreatDoorMHeardL15
import Derived.Test.YtkegbbndmfnolaaGreatDoorMHeardL20
import Derived.Test.YtkegbbndmfnolaaGreatDoorMHeardL09
/-
  Drawn methods, calls and touches that are round, mostly.
-/
namespace Go.Proofs.YtkegbbndmfnolaaGreatDoor
open Go.RowKit
set_option linter.unusedVariables false
set_option linter.unusedSimpArgs false
set_option maxRecDepth 100000






theorem Cells.turn {g n gc : Nat} {f : Nat → Value} {w w' : World} (h : Cells w gc n f) (ht : Turn g w w') (hne : gc < g ∨ g + 1 ≤ gc) : Cells w' gc n f := h.chg ht hne
theorem OwnL.turn {α : Type} {enc : α → List Value} {w w' : World} {lo hi g size : Nat} {A : Option Addr} {l : List α} (h : OwnL w lo hi A size enc l) (ht : Turn g w w') (hne : hi ≤ g ∨ g + 1 ≤ lo) : OwnL w' lo hi A size enc l := h.chg ht (by omega)
theorem Chg.drewH {b c : Nat} {a w : World} (h : Chg b c a w) : Chg b c a w.drew := ⟨h.os, h.tape, h.output, h.size, h.block⟩
set_option maxHeartbeats 1600000 in
theorem l12Whole_any (m : Mth) (b s u : ByteArray) (w : World) (h : MkOk m b s w) (hc : callsP m b s) (hu : u.size ≤ 1000) :
    Calls Tryz.prog 174 #[.agg #[Value.string m.name, .int .i64 m.stage, .slice m.A m.x.length m.c], .agg #[Value.string b, .string s], .string u] w fun e w' => ∃ t : ByteArray, e = .returned (.string t) ∧ t.size ≤ 840000 ∧ Below w.heap.size w w' := by
  have hg := hc.geo
  obtain ⟨N, hN⟩ : ∃ N, Hid (m.stage.toNat = N) := ⟨_, Lib.hid rfl⟩
  rw [hN.out] at hg
  have hrow : Hid (isRow (headS N m.x b s u u.size)) := Lib.hid (headS_row hg.n3 hg.n8 m.x b s u u.size).1
  have hEnd : Hid (∀ W, MkOk m b s W → Calls Tryz.prog 177 #[.agg #[Value.string m.name, .int .i64 m.stage, .slice m.A m.x.length m.c], .agg #[Value.string b, .string s], .string u] W fun e w' => e = .returned (.string (headS N m.x b s u u.size)) ∧ Below W.heap.size W w') := Lib.hid fun W hW => l9End_any m N b s u W hW hg (by omega)
  obtain ⟨T, hT⟩ : ∃ T, Hid (headS N m.x b s u u.size = T) := ⟨_, Lib.hid rfl⟩
  rw [hT.out] at hrow hEnd
  clear hg hc
  obtain ⟨W, hWe, hWb, hWs, hM, hK⟩ : ∃ W : World, Hid ((w.alloc (.cells #[Value.string m.name, .int .i64 m.stage, .slice m.A m.x.length m.c] 26)).alloc (.cells #[Value.string b, .string s] 28) = W) ∧ Hid (Below w.heap.size w W) ∧ w.heap.size + 2 ≤ W.heap.size ∧ Hid (Cells W w.heap.size 3 (fun i => (#[Value.string m.name, .int .i64 m.stage, .slice m.A m.x.length m.c] : Array Value).getD i undef)) ∧ Hid (Cells W (w.heap.size + 1) 2 (fun i => (#[Value.string b, .string s] : Array Value).getD i undef)) := by
    have z1 : w.heap.size + 1 = (w.alloc (.cells #[Value.string m.name, .int .i64 m.stage, .slice m.A m.x.length m.c] 26)).heap.size := by simp
    refine ⟨_, Lib.hid rfl, Lib.hid (((Below.refl _ _).alloc (Nat.le_refl _) _).alloc (by simp) _), by simp, Lib.hid ?_, Lib.hid ?_⟩
    · exact (Cells.newD _ #[Value.string m.name, .int .i64 m.stage, .slice m.A m.x.length m.c] _).alloc _
    · rw [z1]; exact Cells.newD _ #[Value.string b, .string s] _
  have H := Lib.hid (h.later hWb.out)
  clear h
  have m0 := hM.out.cell (i := 0) (by omega)
  have m1 := hM.out.cell (i := 1) (by omega)
  have m2 := hM.out.cell (i := 2) (by omega)
  have k0 := hK.out.cell (i := 0) (by omega)
  have k1 := hK.out.cell (i := 1) (by omega)
  go_enter Tryz.func174, Tryz.ntmps174
  go_upto_region 1 with fail
  rw [hWe.out]
  clear hWe
  go_wp2_with (first
    | (go_at_call 177; refine (hEnd.out W H.out).mono ?_; rintro e w1 ⟨rfl, hb1⟩; have HB1 := Lib.hid hb1; clear hb1 m0 m1 m2 k0 k1)
    | (go_at_call 197; refine (l1Order_any T w1 hrow.out).mono ?_; rintro e w2 ⟨k, rfl, hk1, hk2, hb2⟩; have HB2 := Lib.hid (HB1.out.trans (hb2.mono HB1.out.size)); clear hb2)
    | fail)
  go_loopw [7, 8] (fun v i wr => ∃ (j : Nat) (t : ByteArray), i = .int .i64 (j : Int) ∧ v = .string t ∧ t.size + 1000 * j ≤ 840000 ∧ Below w.heap.size w wr) (fun _ i _ => (intOf i).toNat)
  case atStart => exact ⟨k, ⟨#[]⟩, by rfl, by rfl, by show 0 + 1000 * k ≤ 840000; omega, hWb.out.trans (HB2.out.mono hWb.out.size)⟩
  case round =>
    obtain ⟨j, t, rfl, rfl, hj, hbl⟩ := hrel
    have HB := Lib.hid hbl
    clear hbl
    by_cases hlt : 0 < j
    · have k1 : ¬ 9223372036854775807 < t.size + u.size := by omega
      go_wp2
      go_roundw
      case rel => exact ⟨j - 1, t ++ u, by go_num, rfl, by rw [size_app]; omega, HB.out⟩
      case measure => simp [intOf]; omega
    · obtain rfl : j = 0 := by omega
      go_wp2
      go_ret
      exact ⟨t, rfl, by omega, HB.out⟩


set_option maxHeartbeats 3200000 in
theorem anyCalls_any (g K : Nat) (nm : ByteArray) (n : Int) (x : List ByteArray) (A : Option Addr) (c : Nat) (w : World) (h : Cur w g K) (hK : K ≤ 1000000) (hok : MthOk nm n x) (hr : RdL w w.heap.size A 1 encString x) :
    Calls Tryz.prog 172 #[.pointer (some ⟨g, 0, none⟩), .agg #[Value.string nm, .int .i64 n, .slice A x.length c]] w fun e w' => ∃ b s : ByteArray, e = .returned (.agg #[.string b, .string s]) ∧ b.size ≤ 1048576 ∧ s.size ≤ 1048576 ∧ Cur w' g (K + 24) ∧ Turn g w w' := by
  have H := Lib.hid h
  have hgw := h.lt
  have HOK := Lib.hid hok
  have hn3 := hok.n3
  have hn6 := hok.n6
  have hx0 := hok.x0
  have hx9 := hok.x9
  obtain ⟨W0, hWe, hWs, hWb, hM, hR⟩ : ∃ W0 : World, Hid ((w.alloc (.cells #[Value.string nm, .int .i64 n, .slice A x.length c] 26)).alloc (.cells #[Value.string ⟨#[]⟩, .string ⟨#[]⟩] 28) = W0) ∧ Hid (W0.heap.size = w.heap.size + 2) ∧ Hid (Below w.heap.size w W0) ∧ Hid (Cells W0 w.heap.size 3 (fun i => (#[Value.string nm, .int .i64 n, .slice A x.length c] : Array Value).getD i undef)) ∧ Hid (Cells W0 (w.heap.size + 1) 2 (fun i => (#[Value.string ⟨#[]⟩, .string ⟨#[]⟩] : Array Value).getD i undef)) := by
    have z1 : w.heap.size + 1 = (w.alloc (.cells #[Value.string nm, .int .i64 n, .slice A x.length c] 26)).heap.size := by simp
    refine ⟨_, Lib.hid rfl, Lib.hid (by simp), Lib.hid (((Below.refl _ _).alloc (Nat.le_refl _) _).alloc (by simp) _), Lib.hid ?_, Lib.hid ?_⟩
    · exact (Cells.newD _ #[Value.string nm, .int .i64 n, .slice A x.length c] _).alloc _
    · rw [z1]; exact Cells.newD _ #[Value.string ⟨#[]⟩, .string ⟨#[]⟩] _
  have hWs1 : w.heap.size + 2 = W0.heap.size := hWs.out.symm
  have hg0 : Hid (∀ W, Below W0.heap.size W0 W → Calls Tryz.prog 60 #[.agg #[Value.string nm, .int .i64 n, .slice A x.length c]] W fun e w' => e = .returned (.bool true) ∧ Below W.heap.size W w') := Lib.hid fun W hb => by
    have hb' := hWb.out.trans (hb.mono hWb.out.size)
    have := l4Good_any ⟨nm, n, x, A, c⟩ W ((hr.below hb' (Nat.le_refl _)).more hb'.size) (Nat.le_trans HOK.out.wd.2.2 (by omega)) (Nat.le_trans HOK.out.x9 (by omega)) (fun y hy => by have := (HOK.out.ch y hy).size; unfold String_small; omega)
    rw [B_t (show methP ⟨nm, n, x, A, c⟩ from ⟨HOK.out.wd, ⟨by show 1 ≤ x.length; omega, by show x.length ≤ 40; omega⟩, fun i hi => HOK.out.ch _ (List.getElem_mem hi)⟩)] at this
    exact this
  have HC0 := Lib.hid (H.out.later hWb.out)
  clear h hok hr
  have m0 := hM.out.cell (i := 0) (by omega)
  have m1 := hM.out.cell (i := 1) (by omega)
  have m2 := hM.out.cell (i := 2) (by omega)
  go_enter Tryz.func172, Tryz.ntmps172
  go_upto_region 1 with fail
  rw [hWe.out]
  clear hWe
  go_upto_region 3 with (first | (go_at_call 60; refine (hg0.out W0 (Below.refl _ _)).mono ?_; rintro e w1 ⟨rfl, hb1⟩; have HB1 := Lib.hid hb1; have hz1 := hb1.size; clear m0 m1 m2 hb1) | fail)
  have HC1 := Lib.hid (HC0.out.later HB1.out)
  have HT1 := Lib.hid (Turn.of (g := g) HB1.out)
  have hM1 := hM.out.later HB1.out
  have m0 := hM1.cell (i := 0) (by omega)
  have m1 := hM1.cell (i := 1) (by omega)
  have m2 := hM1.cell (i := 2) (by omega)
  clear hM1
  go_upto_region 4 with (first | (go_at_call 196; refine (calls_any g K nm n A x.length c w1 HC1.out (by omega) ⟨hn3, hn6⟩).mono ?_; rintro e w2 ⟨b, s, rfl, hbb, hss, hc, ht⟩; have Hb := Lib.hid (show b.size ≤ 1048576 by have := hbb.size; omega); have Hs := Lib.hid (show s.size ≤ 1048576 by have := hss.size; omega); have HC2 := Lib.hid hc; have HT2 := Lib.hid (HT1.out.trans ht); have hz2 := ht.size; clear hbb hss hc ht m0 m1 m2) | fail)
  obtain ⟨V, hVe, hVb, hKc⟩ : ∃ V : World, Hid (w2.alloc (.cells #[Value.string b, .string s] 28) = V) ∧ Hid (Below w2.heap.size w2 V) ∧ Hid (Cells V w2.heap.size 2 (fun i => (#[Value.string b, .string s] : Array Value).getD i undef)) := ⟨_, Lib.hid rfl, Lib.hid ((Below.refl _ _).alloc (Nat.le_refl _) _), Lib.hid (Cells.newD _ #[Value.string b, .string s] _)⟩
  rw [hVe.out]
  clear hVe
  obtain ⟨bk, hbk⟩ : ∃ bk, Hid (w2.heap.size = bk) := ⟨_, Lib.hid rfl⟩
  have hVz := hKc.out.lt
  rw [hbk.out] at hKc hVz ⊢
  have hbe := hbk.out
  have HCV := Lib.hid (HC2.out.later hVb.out)
  have HTV := Lib.hid (HT2.out.then hVb.out)
  go_upto_region 5 with (first | (go_at_call 55; refine (one_any g (K + 20) 16 V HCV.out (by omega) (by omega)).mono ?_; rintro e w3 ⟨b3, rfl, hc3, ht3⟩; have HC3 := Lib.hid hc3; have HT3 := Lib.hid (HTV.out.trans ht3); have HtV := Lib.hid ht3; have hz3 := ht3.size; have hK3 := hKc.out.turn HtV.out (.inr (by omega)); have k0 : w3.cell? ⟨bk, 0, none⟩ = some (.string b) := hK3.cell (i := 0) (by omega); have k1 : w3.cell? ⟨bk, 1, none⟩ = some (.string s) := hK3.cell (i := 1) (by omega); have hs3 : bk < w3.heap.size := (by omega); have hRx := (hR.out.turn HT3.out (.inr (by omega))); have r0 : (w3).cell? ⟨w.heap.size + 1, 0, none⟩ = some (.string ⟨#[]⟩) := hRx.cell (i := 0) (by omega); have r1 : (w3).cell? ⟨w.heap.size + 1, 1, none⟩ = some (.string ⟨#[]⟩) := hRx.cell (i := 1) (by omega); have rf0 := hRx.free (i := 0) (by omega); have rf1 := hRx.free (i := 1) (by omega); clear hRx; clear hc3 ht3 hK3; cases b3) | fail)
  · skip
    refine bodyPost_ret (v := .agg #[.string b, .string s]) (by simp [results, Tryz.results172, go_sem, r0, r1, rf0, rf1]) rfl ?_
    have kk : Chg (w.heap.size + 1) (w.heap.size + 2) w3 (setN w3 (w.heap.size + 1) 0 [Value.string b, .string s]) := Chg.setN (Nat.le_refl _) (Nat.lt_succ_self _) _ (Chg.refl _ _ w3)
    have kb : Below w.heap.size w3 (setN w3 (w.heap.size + 1) 0 [Value.string b, .string s]) := Below.chg (Below.refl _ _) kk (Nat.le_succ _) (by omega)
    exact ⟨b, s, rfl, Hb.out, Hs.out, (HC3.out.keep kb hgw).more (by omega), ((Turn.of hWb.out).trans HT3.out).thenB kb⟩
  · clear k0 k1 r0 r1 rf0 rf1
    go_upto_region 6 with (first | (go_at_call 54; refine (of_any g (K + 22) w3.heap.size 5 5 _ (fun s => s.size ≤ 2) _ (HC3.out.later ((Below.refl _ _).alloc (Nat.le_refl _) _)) (by omega) (by omega) (by omega) (Cells.lit w3 _ _ 5 rfl) (by have := HC3.out.lt; omega) (by intro k hk; rcases k with _ | _ | _ | _ | _ | k <;> first | exact ⟨_, rfl, by decide⟩ | omega)).mono ?_; rintro e w4 ⟨s9, rfl, hs9, hc4, ht4⟩; have Hs9 := Lib.hid hs9; have HC4 := Lib.hid hc4; have ht4' := (Turn.of ((Below.refl _ _).alloc (Nat.le_refl _) _)).trans ht4; have HT4 := Lib.hid (HT3.out.trans ht4'); have HtW := Lib.hid (HtV.out.trans ht4'); have hz4 := ht4'.size; have hK4 := hKc.out.turn HtW.out (.inr (by omega)); have k0 := hK4.cell (i := 0) (by omega); have kf0 := hK4.free (i := 0) (by omega); clear hc4 ht4 ht4' hs9 hK4) | fail)
    obtain ⟨Q, hQe, hQk, hKQ⟩ : ∃ Q : World, Hid (w4.setCell ⟨bk, 0, none⟩ (.string s9) = Q) ∧ Hid (Chg bk (bk + 1) w4 Q) ∧ Hid (Cells Q bk 2 (fun i => ([Value.string s9, .string s] : List Value).getD i undef)) := ⟨_, Lib.hid rfl, Lib.hid ((Chg.refl _ _ w4).setCell (p := ⟨bk, 0, none⟩) (Nat.le_refl _) (Nat.lt_succ_self _) _), Lib.hid (((hKc.out.turn HtW.out (.inr (by omega))).set (i := 0) (by omega) (.string s9)).congr (fun i hi => by match i, hi with | 0, _ => rfl | 1, _ => rfl))⟩
    rw [hQe.out]
    clear hQe k0 kf0
    have hzQ := hQk.out.size
    have hbQ : Below bk w4 Q := Below.chg (Below.refl _ _) hQk.out (Nat.le_refl _) (by omega)
    have HCQ := Lib.hid (HC4.out.keep hbQ (by omega))
    have HTQ := Lib.hid (HT4.out.thenB (hbQ.mono (by omega)))
    have k0 : Q.cell? ⟨bk, 0, none⟩ = some (.string s9) := hKQ.out.cell (i := 0) (by omega)
    have k1 : Q.cell? ⟨bk, 1, none⟩ = some (.string s) := hKQ.out.cell (i := 1) (by omega)
    have hRx := ((hR.out.turn HT4.out (.inr (by omega))).chg hQk.out (.inl (by omega))); have r0 : (Q).cell? ⟨w.heap.size + 1, 0, none⟩ = some (.string ⟨#[]⟩) := hRx.cell (i := 0) (by omega); have r1 : (Q).cell? ⟨w.heap.size + 1, 1, none⟩ = some (.string ⟨#[]⟩) := hRx.cell (i := 1) (by omega); have rf0 := hRx.free (i := 0) (by omega); have rf1 := hRx.free (i := 1) (by omega); clear hRx
    clear hbQ
    go_wp2
    refine bodyPost_ret (v := .agg #[.string s9, .string s]) (by simp [results, Tryz.results172, go_sem, r0, r1, rf0, rf1]) rfl ?_
    have kk : Chg (w.heap.size + 1) (w.heap.size + 2) Q (setN Q (w.heap.size + 1) 0 [Value.string s9, .string s]) := Chg.setN (Nat.le_refl _) (Nat.lt_succ_self _) _ (Chg.refl _ _ Q)
    have kb : Below w.heap.size Q (setN Q (w.heap.size + 1) 0 [Value.string s9, .string s]) := Below.chg (Below.refl _ _) kk (Nat.le_succ _) (by omega)
    exact ⟨s9, s, rfl, (by have := Hs9.out; omega), Hs.out, (HCQ.out.keep kb hgw).more (by omega), ((Turn.of hWb.out).trans HTQ.out).thenB kb⟩


/-- A drawn method, calls and a touch as a result, with the reader. -/
def RTDrawn (g K : Nat) (w : World) (e : Ending) (w' : World) : Prop := ∃ (nm : ByteArray) (n : Int) (x : List ByteArray) (A : Option Addr) (c : Nat) (b s t : ByteArray), e = .returned (.tuple #[.agg #[Value.string nm, .int .i64 n, .slice A x.length c], .agg #[Value.string b, .string s], .string t]) ∧ MthOk nm n x ∧ x.length ≤ c ∧ b.size ≤ 1048576 ∧ s.size ≤ 1048576 ∧ t.size ≤ 1048576 ∧ OwnL w' w.heap.size w'.heap.size A 1 encString x ∧ Cur w' g (K + 2000) ∧ Turn g w w'



set_option maxHeartbeats 16000000 in
theorem roundTouch_any (g K : Nat) (w : World) (h : Cur w g K) (hK : K ≤ 100000) :
    Calls Tryz.prog 143 #[.pointer (some ⟨g, 0, none⟩)] w fun e w' => RTDrawn g K w e w' := by
  have H := Lib.hid h
  have hgw := h.lt
  clear h
  obtain ⟨W0, hWe, hWs, hWb, hR, hQ⟩ : ∃ W0 : World, Hid (((w.alloc (.cells #[Value.string ⟨#[]⟩, .int .i64 0, .slice none 0 0] 26)).alloc (.cells #[Value.string ⟨#[]⟩, .string ⟨#[]⟩] 28)) = W0) ∧ Hid (W0.heap.size = w.heap.size + 2) ∧ Hid (Below w.heap.size w W0) ∧ Hid (Cells W0 w.heap.size 3 (fun i => (#[Value.string ⟨#[]⟩, .int .i64 0, .slice none 0 0] : Array Value).getD i undef)) ∧ Hid (Cells W0 (w.heap.size + 1) 2 (fun i => (#[Value.string ⟨#[]⟩, .string ⟨#[]⟩] : Array Value).getD i undef)) := by
    have z1 : w.heap.size + 1 = (w.alloc (.cells #[Value.string ⟨#[]⟩, .int .i64 0, .slice none 0 0] 26)).heap.size := by simp
    refine ⟨_, Lib.hid rfl, Lib.hid (by simp), Lib.hid (((Below.refl _ _).alloc (Nat.le_refl _) _).alloc (by simp) _), Lib.hid ?_, Lib.hid ?_⟩
    · exact (Cells.newD _ #[Value.string ⟨#[]⟩, .int .i64 0, .slice none 0 0] _).alloc _
    · rw [z1]; exact Cells.newD _ #[Value.string ⟨#[]⟩, .string ⟨#[]⟩] _
  have hWs1 : w.heap.size + 2 = W0.heap.size := hWs.out.symm
  have HC0 := Lib.hid (H.out.later hWb.out)
  go_enter Tryz.func143, Tryz.ntmps143
  go_upto_region 1 with fail
  rw [hWe.out]
  clear hWe
  go_upto_region 2 with (first | (go_at_call 106; refine (method_any g K W0 HC0.out (by omega)).mono ?_; rintro e w1 ⟨nm, n, x, A, c, rfl, hok, hxc, ho, hc, ht⟩; have HOK := Lib.hid hok; have HO0 := Lib.hid ho; have HC1 := Lib.hid hc; have HT1 := Lib.hid ht; have hz1 := ht.size; clear hok ho hc ht) | fail)
  obtain ⟨U, hUe, hUb, hM0⟩ : ∃ U : World, Hid (w1.alloc (.cells #[Value.string nm, .int .i64 n, .slice A x.length c] 26) = U) ∧ Hid (Below w1.heap.size w1 U) ∧ Hid (Cells U w1.heap.size 3 (fun i => (#[Value.string nm, .int .i64 n, .slice A x.length c] : Array Value).getD i undef)) := ⟨_, Lib.hid rfl, Lib.hid ((Below.refl _ _).alloc (Nat.le_refl _) _), Lib.hid (Cells.newD _ #[Value.string nm, .int .i64 n, .slice A x.length c] _)⟩
  rw [hUe.out]
  clear hUe
  obtain ⟨bx, hbx⟩ : ∃ bx, Hid (w1.heap.size = bx) := ⟨_, Lib.hid rfl⟩
  have hUz := hM0.out.lt
  rw [hbx.out] at hM0 hUz ⊢
  have hbxe := hbx.out
  have HCU := Lib.hid (HC1.out.later hUb.out)
  have HTU := Lib.hid (HT1.out.then hUb.out)
  have HOU := Lib.hid (HO0.out.later hUb.out)
  clear HC1 HT1 HO0 HC0
  go_wp2
  go_loopw [6] (fun i wr => ∃ (j : Nat) (nm : ByteArray) (n : Int) (x : List ByteArray) (A : Option Addr) (c lo hi : Nat), j ≤ 9 ∧ i = .int .i64 (j : Int) ∧ MthOk nm n x ∧ x.length ≤ c ∧ Cells wr bx 3 (fun i => (#[Value.string nm, .int .i64 n, .slice A x.length c] : Array Value).getD i undef) ∧ OwnL wr lo hi A 1 encString x ∧ W0.heap.size ≤ lo ∧ hi ≤ wr.heap.size ∧ (hi ≤ bx ∨ bx + 1 ≤ lo) ∧ Cur wr g (K + 100 + 100 * j) ∧ Turn g W0 wr ∧ bx < wr.heap.size) (fun i _ => 9 - (intOf i).toNat)
  case atStart => exact ⟨0, nm, n, x, A, c, W0.heap.size, w1.heap.size, by omega, by rfl, HOK.out, hxc, hM0.out, HOU.out, Nat.le_refl _, by omega, .inl (by omega), HCU.out.more (by omega), HTU.out, hUz⟩
  case round =>
    clear HOK HCU HTU HOU hM0 hxc
    obtain ⟨j, nm, n, x, A, c, lo, hi, hj, rfl, hok, hxc, hm, ho, hlo, hhi, hap, hcu, htu, hbz⟩ := hrel
    have HOK := Lib.hid hok
    have hM1 := Lib.hid hm
    have HO1 := Lib.hid ho
    have HC1 := Lib.hid hcu
    have HT1 := Lib.hid htu
    have hzr := htu.size
    have hx12 := hok.x9
    clear hok hm ho hcu htu
    by_cases hj9 : j < 9
    · have d1 : decide ((j : Int) < 9) = true := by simp; omega
      by_cases hx2 : x.length < 2
      · have hm0 := hM1.out.cell (i := 0) (by omega)
        have hm1 := hM1.out.cell (i := 1) (by omega)
        have hm2 := hM1.out.cell (i := 2) (by omega)
        have hf0 := hM1.out.free (i := 0) (by omega)
        have hf1 := hM1.out.free (i := 1) (by omega)
        have hf2 := hM1.out.free (i := 2) (by omega)
        go_wp2_with (first | (go_at_call 106; refine (method_any g (K + 100 + 100 * j) wr HC1.out (by omega)).mono ?_; rintro e w2 ⟨nm', n', x', A', c', rfl, hok, hxc', ho, hc, ht⟩; have HOK' := Lib.hid hok; have HO2 := Lib.hid ho; have HC2 := Lib.hid hc; have HT2 := Lib.hid ht; have hz2 := ht.size; have hM2 := Lib.hid (hM1.out.turn ht (.inr (by omega))); have e0 := hM2.out.cell (i := 0) (by omega); have e1 := hM2.out.cell (i := 1) (by omega); have e2 := hM2.out.cell (i := 2) (by omega); have y0 := hM2.out.free (i := 0) (by omega); have y1 := hM2.out.free (i := 1) (by omega); have y2 := hM2.out.free (i := 2) (by omega); clear hok ho hc ht hm0 hm1 hm2 hf0 hf1 hf2) | fail)
        go_roundw
        case rel =>
          obtain ⟨Q, hQe, hCQ, hQk⟩ : ∃ Q : World, ((w2.setCell ⟨bx, 0, none⟩ (.string nm')).setCell ⟨bx, 1, none⟩ (.int .i64 n')).setCell ⟨bx, 2, none⟩ (.slice A' x'.length c') = Q ∧ Cells Q bx 3 (fun i => (#[Value.string nm', .int .i64 n', .slice A' x'.length c'] : Array Value).getD i undef) ∧ Chg bx (bx + 1) w2 Q := ⟨_, rfl, (hM2.out.boxed [Value.string nm', .int .i64 n', .slice A' x'.length c'] rfl).congr (fun i hi => by match i, hi with | 0, _ => rfl | 1, _ => rfl | 2, _ => rfl), Chg.setN (g := bx) (p := 0) (Nat.le_refl _) (Nat.lt_succ_self _) [Value.string nm', .int .i64 n', .slice A' x'.length c'] (Chg.refl _ _ w2)⟩
          rw [hQe]
          have kb : Below bx w2 Q := Below.chg (Below.refl _ _) hQk (Nat.le_refl _) (by omega)
          have kz := hQk.size
          exact ⟨j + 1, nm', n', x', A', c', wr.heap.size, w2.heap.size, by omega, by go_num, HOK'.out, hxc', hCQ, HO2.out.chg hQk (.inr (by omega)), by omega, kz, .inr (by omega), (HC2.out.keep kb (by omega)).more (by omega), (HT1.out.trans HT2.out).thenB (kb.mono (by omega)), by omega⟩
        case measure => simp [intOf]; omega
      · clear hap
        have hm0 := hM1.out.cell (i := 0) (by omega)
        have hm1 := hM1.out.cell (i := 1) (by omega)
        have hm2 := hM1.out.cell (i := 2) (by omega)
        have HRD : Hid (RdL wr wr.heap.size A 1 encString x) := Lib.hid ((HO1.out.mono (Nat.le_refl _) hhi).rd encString_len)
        go_upto_region 7 with (first | (go_at_call 172; refine (anyCalls_any g (K + 1000) nm n x A c wr (HC1.out.more (by omega)) (by omega) HOK.out HRD.out).mono ?_; rintro e w2 ⟨b, s, rfl, hbb, hss, hc, ht⟩; have Hb := Lib.hid hbb; have Hs := Lib.hid hss; have HC2 := Lib.hid hc; have HT2 := Lib.hid ht; have hz2 := ht.size; clear hbb hss hc ht hm0 hm1 hm2) | fail)
        obtain ⟨V, hVe, hVb, hKc⟩ : ∃ V : World, Hid (w2.alloc (.cells #[Value.string b, .string s] 28) = V) ∧ Hid (Below w2.heap.size w2 V) ∧ Hid (Cells V w2.heap.size 2 (fun i => (#[Value.string b, .string s] : Array Value).getD i undef)) := ⟨_, Lib.hid rfl, Lib.hid ((Below.refl _ _).alloc (Nat.le_refl _) _), Lib.hid (Cells.newD _ #[Value.string b, .string s] _)⟩
        rw [hVe.out]
        clear hVe
        obtain ⟨bk, hbk⟩ : ∃ bk, Hid (w2.heap.size = bk) := ⟨_, Lib.hid rfl⟩
        have hVz := hKc.out.lt
        rw [hbk.out] at hKc hVz ⊢
        have hbe := hbk.out
        have hK2 := hKc
        have HCV := Lib.hid (HC2.out.later hVb.out)
        have HTV := Lib.hid ((HT1.out.trans HT2.out).then hVb.out)
        have hM2 := Lib.hid ((hM1.out.turn HT2.out (.inr (by omega))).later hVb.out)
        have HO2 := Lib.hid ((HO1.out.turn HT2.out (.inr (by omega))).later hVb.out)
        have hR2 := Lib.hid (hR.out.turn HTV.out (.inr (by omega)))
        have hQ2 := Lib.hid (hQ.out.turn HTV.out (.inr (by omega)))
        clear HC1 HC2 hM1 HO1 hKc HRD
        have HMK : Hid (∀ W, Turn g V W → MkOk ⟨nm, n, x, A, c⟩ b s W) := Lib.hid fun W ht => ⟨((HO2.out.turn ht (.inr (by omega))).mono (Nat.le_refl _) (by have := ht.size; omega)).rd encString_len, Nat.le_trans HOK.out.wd.2.2 (by omega), Nat.le_trans HOK.out.x9 (by omega), fun y hy => by have := (HOK.out.ch y hy).size; unfold String_small; omega, Hb.out, Hs.out, hxc⟩
        go_upto_region 8 with (first | (go_at_call 173; refine (touchD_any g (K + 1024) 3 V HCV.out (by omega) (by omega)).mono ?_; rintro e w3 ⟨t, rfl, _, _, ht6, hc, ht⟩; have HC3 := Lib.hid hc; have HT3 := Lib.hid ht; have hz3 := ht.size; clear hc ht) | fail)
        by_cases hcp : callsP ⟨nm, n, x, A, c⟩ b s
        · have ecp := B_t hcp
          have HCP := Lib.hid hcp
          clear hcp
          go_upto_region 10 with (first
            | (go_at_call 55; refine (one_any g (K + 1064) 6 w3 HC3.out (by omega) (by omega)).mono ?_; rintro e w4 ⟨b4, rfl, hc4, ht4⟩; have HC4 := Lib.hid hc4; have HT4 := Lib.hid (HT3.out.trans ht4); have hz4 := HT4.out.size; clear hc4 ht4; have hMx := hM2.out.turn (HT4.out) (.inr (by omega)); have hKx := hK2.out.turn (HT4.out) (.inr (by omega)); have m0 := hMx.cell (i := 0) (by omega); have m1 := hMx.cell (i := 1) (by omega); have m2 := hMx.cell (i := 2) (by omega); have k0 := hKx.cell (i := 0) (by omega); have k1 := hKx.cell (i := 1) (by omega); clear hMx hKx; cases b4)
            | (go_at_call 116; refine (l8Good_any ⟨nm, n, x, A, c⟩ b s w4 (HMK.out w4 HT4.out).rd (HMK.out w4 HT4.out).nm (HMK.out w4 HT4.out).xl (HMK.out w4 HT4.out).xs (HMK.out w4 HT4.out).bs (HMK.out w4 HT4.out).ss).mono ?_; rintro e w5 ⟨rfl, hb5⟩; have HC5 := Lib.hid (HC4.out.later hb5); have HT5 := Lib.hid (HT4.out.then hb5); have hz5 := HT5.out.size; clear hb5 m0 m1 m2 k0 k1; have hMx := hM2.out.turn (HT5.out) (.inr (by omega)); have hKx := hK2.out.turn (HT5.out) (.inr (by omega)); have m0 := hMx.cell (i := 0) (by omega); have m1 := hMx.cell (i := 1) (by omega); have m2 := hMx.cell (i := 2) (by omega); have k0 := hKx.cell (i := 0) (by omega); have k1 := hKx.cell (i := 1) (by omega); clear hMx hKx)
            | (go_at_call 174; refine (l12Whole_any ⟨nm, n, x, A, c⟩ b s t w5 (HMK.out w5 HT5.out) HCP.out (by omega)).mono ?_; rintro e w6 ⟨t6, rfl, hs6, hb6⟩; have HC6 := Lib.hid (HC5.out.later hb6); have HT6 := Lib.hid (HT5.out.then hb6); have hz6 := HT6.out.size; clear hb6 m0 m1 m2 k0 k1; have hMx := hM2.out.turn (HT6.out) (.inr (by omega)); have hKx := hK2.out.turn (HT6.out) (.inr (by omega)); have m0 := hMx.cell (i := 0) (by omega); have m1 := hMx.cell (i := 1) (by omega); have m2 := hMx.cell (i := 2) (by omega); have k0 := hKx.cell (i := 0) (by omega); have k1 := hKx.cell (i := 1) (by omega); clear hMx hKx)
            | (go_at_call 174; refine (l12Whole_any ⟨nm, n, x, A, c⟩ b s t w6 (HMK.out w6 HT6.out) HCP.out (by omega)).mono ?_; rintro e w7 ⟨t7, rfl, hs7, hb7⟩; have HC7 := Lib.hid (HC6.out.later hb7); have HT7 := Lib.hid (HT6.out.then hb7); have hz7 := HT7.out.size; clear hb7 m0 m1 m2 k0 k1)
            | fail)
          · have hMx := hM2.out.turn (HT7.out) (.inr (by omega)); have hKx := hK2.out.turn (HT7.out) (.inr (by omega)); have m0 := hMx.cell (i := 0) (by omega); have m1 := hMx.cell (i := 1) (by omega); have m2 := hMx.cell (i := 2) (by omega); have k0 := hKx.cell (i := 0) (by omega); have k1 := hKx.cell (i := 1) (by omega); clear hMx hKx
            have hRx := (hR2.out.turn (HT7.out) (.inr (by omega))); have hQx := (hQ2.out.turn (HT7.out) (.inr (by omega))); have r0 := hRx.cell (i := 0) (by omega); have r1 := hRx.cell (i := 1) (by omega); have r2 := hRx.cell (i := 2) (by omega); have rf0 := hRx.free (i := 0) (by omega); have rf1 := hRx.free (i := 1) (by omega); have rf2 := hRx.free (i := 2) (by omega); have q0 := hQx.cell (i := 0) (by omega); have q1 := hQx.cell (i := 1) (by omega); have qf0 := hQx.free (i := 0) (by omega); have qf1 := hQx.free (i := 1) (by omega); clear hRx hQx
            have HOF := Lib.hid (HO2.out.turn (HT7.out) (.inr (by omega)))
            have hzF := (HT7.out).size
            go_region_law (first | fail)
            all_goals
              go_wp2
              refine bodyPost_ret (v := .tuple #[.agg #[Value.string nm, .int .i64 n, .slice A x.length c], .agg #[Value.string b, .string s], .string t7]) (by simp [results, Tryz.results143, go_sem, r0, r1, r2, rf0, rf1, rf2, q0, q1, qf0, qf1]) rfl ?_
              clear r0 r1 r2 rf0 rf1 rf2 q0 q1 qf0 qf1 m0 m1 m2 k0 k1
              have key : ∀ w9, Chg w.heap.size (w.heap.size + 2) w7 w9 → RTDrawn g K w (.returned (.tuple #[.agg #[Value.string nm, .int .i64 n, .slice A x.length c], .agg #[Value.string b, .string s], .string t7])) w9 := fun w9 kc => by
                have kb : Below w.heap.size w7 w9 := Below.chg (Below.refl _ _) kc (Nat.le_refl _) (by omega)
                have kz := kc.size
                exact ⟨nm, n, x, A, c, b, s, t7, rfl, HOK.out, hxc, Hb.out, Hs.out, (by omega), (HOF.out.chg kc (.inr (by omega))).mono (by omega) (by omega), (HC7.out.keep kb hgw).more (by omega), ((Turn.of hWb.out).trans (HTV.out.trans HT7.out)).thenB kb⟩
              refine key _ ?_
              repeat (first | (with_reducible exact Chg.refl _ _ _) | (with_reducible refine Chg.setCell ?_ (by simp) (by simp) _) | (with_reducible refine Chg.drewH ?_))
          · clear m0 m1 m2 k0 k1
            have hMx := hM2.out.turn (HT6.out) (.inr (by omega)); have hKx := hK2.out.turn (HT6.out) (.inr (by omega)); have m0 := hMx.cell (i := 0) (by omega); have m1 := hMx.cell (i := 1) (by omega); have m2 := hMx.cell (i := 2) (by omega); have k0 := hKx.cell (i := 0) (by omega); have k1 := hKx.cell (i := 1) (by omega); clear hMx hKx
            have hRx := (hR2.out.turn (HT6.out) (.inr (by omega))); have hQx := (hQ2.out.turn (HT6.out) (.inr (by omega))); have r0 := hRx.cell (i := 0) (by omega); have r1 := hRx.cell (i := 1) (by omega); have r2 := hRx.cell (i := 2) (by omega); have rf0 := hRx.free (i := 0) (by omega); have rf1 := hRx.free (i := 1) (by omega); have rf2 := hRx.free (i := 2) (by omega); have q0 := hQx.cell (i := 0) (by omega); have q1 := hQx.cell (i := 1) (by omega); have qf0 := hQx.free (i := 0) (by omega); have qf1 := hQx.free (i := 1) (by omega); clear hRx hQx
            have HOF := Lib.hid (HO2.out.turn (HT6.out) (.inr (by omega)))
            have hzF := (HT6.out).size
            go_region_law (first | fail)
            all_goals
              go_wp2
              refine bodyPost_ret (v := .tuple #[.agg #[Value.string nm, .int .i64 n, .slice A x.length c], .agg #[Value.string b, .string s], .string t]) (by simp [results, Tryz.results143, go_sem, r0, r1, r2, rf0, rf1, rf2, q0, q1, qf0, qf1]) rfl ?_
              clear r0 r1 r2 rf0 rf1 rf2 q0 q1 qf0 qf1 m0 m1 m2 k0 k1
              have key : ∀ w9, Chg w.heap.size (w.heap.size + 2) w6 w9 → RTDrawn g K w (.returned (.tuple #[.agg #[Value.string nm, .int .i64 n, .slice A x.length c], .agg #[Value.string b, .string s], .string t])) w9 := fun w9 kc => by
                have kb : Below w.heap.size w6 w9 := Below.chg (Below.refl _ _) kc (Nat.le_refl _) (by omega)
                have kz := kc.size
                exact ⟨nm, n, x, A, c, b, s, t, rfl, HOK.out, hxc, Hb.out, Hs.out, (by omega), (HOF.out.chg kc (.inr (by omega))).mono (by omega) (by omega), (HC6.out.keep kb hgw).more (by omega), ((Turn.of hWb.out).trans (HTV.out.trans HT6.out)).thenB kb⟩
              refine key _ ?_
              repeat (first | (with_reducible exact Chg.refl _ _ _) | (with_reducible refine Chg.setCell ?_ (by simp) (by simp) _) | (with_reducible refine Chg.drewH ?_))
          · clear m0 m1 m2 k0 k1
            have hMx := hM2.out.turn (HT4.out) (.inr (by omega)); have hKx := hK2.out.turn (HT4.out) (.inr (by omega)); have m0 := hMx.cell (i := 0) (by omega); have m1 := hMx.cell (i := 1) (by omega); have m2 := hMx.cell (i := 2) (by omega); have k0 := hKx.cell (i := 0) (by omega); have k1 := hKx.cell (i := 1) (by omega); clear hMx hKx
            have hRx := (hR2.out.turn (HT4.out) (.inr (by omega))); have hQx := (hQ2.out.turn (HT4.out) (.inr (by omega))); have r0 := hRx.cell (i := 0) (by omega); have r1 := hRx.cell (i := 1) (by omega); have r2 := hRx.cell (i := 2) (by omega); have rf0 := hRx.free (i := 0) (by omega); have rf1 := hRx.free (i := 1) (by omega); have rf2 := hRx.free (i := 2) (by omega); have q0 := hQx.cell (i := 0) (by omega); have q1 := hQx.cell (i := 1) (by omega); have qf0 := hQx.free (i := 0) (by omega); have qf1 := hQx.free (i := 1) (by omega); clear hRx hQx
            have HOF := Lib.hid (HO2.out.turn (HT4.out) (.inr (by omega)))
            have hzF := (HT4.out).size
            go_region_law (first | fail)
            all_goals
              go_wp2
              refine bodyPost_ret (v := .tuple #[.agg #[Value.string nm, .int .i64 n, .slice A x.length c], .agg #[Value.string b, .string s], .string t]) (by simp [results, Tryz.results143, go_sem, r0, r1, r2, rf0, rf1, rf2, q0, q1, qf0, qf1]) rfl ?_
              clear r0 r1 r2 rf0 rf1 rf2 q0 q1 qf0 qf1 m0 m1 m2 k0 k1
              have key : ∀ w9, Chg w.heap.size (w.heap.size + 2) w4 w9 → RTDrawn g K w (.returned (.tuple #[.agg #[Value.string nm, .int .i64 n, .slice A x.length c], .agg #[Value.string b, .string s], .string t])) w9 := fun w9 kc => by
                have kb : Below w.heap.size w4 w9 := Below.chg (Below.refl _ _) kc (Nat.le_refl _) (by omega)
                have kz := kc.size
                exact ⟨nm, n, x, A, c, b, s, t, rfl, HOK.out, hxc, Hb.out, Hs.out, (by omega), (HOF.out.chg kc (.inr (by omega))).mono (by omega) (by omega), (HC4.out.keep kb hgw).more (by omega), ((Turn.of hWb.out).trans (HTV.out.trans HT4.out)).thenB kb⟩
              refine key _ ?_
              repeat (first | (with_reducible exact Chg.refl _ _ _) | (with_reducible refine Chg.setCell ?_ (by simp) (by simp) _) | (with_reducible refine Chg.drewH ?_))
        · have ecp := B_f hcp
          clear hcp
          go_upto_region 10 with (first
            | (go_at_call 55; refine (one_any g (K + 1064) 6 w3 HC3.out (by omega) (by omega)).mono ?_; rintro e w4 ⟨b4, rfl, hc4, ht4⟩; have HC4 := Lib.hid hc4; have HT4 := Lib.hid (HT3.out.trans ht4); have hz4 := HT4.out.size; clear hc4 ht4; have hMx := hM2.out.turn (HT4.out) (.inr (by omega)); have hKx := hK2.out.turn (HT4.out) (.inr (by omega)); have m0 := hMx.cell (i := 0) (by omega); have m1 := hMx.cell (i := 1) (by omega); have m2 := hMx.cell (i := 2) (by omega); have k0 := hKx.cell (i := 0) (by omega); have k1 := hKx.cell (i := 1) (by omega); clear hMx hKx; cases b4)
            | (go_at_call 116; refine (l8Good_any ⟨nm, n, x, A, c⟩ b s w4 (HMK.out w4 HT4.out).rd (HMK.out w4 HT4.out).nm (HMK.out w4 HT4.out).xl (HMK.out w4 HT4.out).xs (HMK.out w4 HT4.out).bs (HMK.out w4 HT4.out).ss).mono ?_; rintro e w5 ⟨rfl, hb5⟩; have HC5 := Lib.hid (HC4.out.later hb5); have HT5 := Lib.hid (HT4.out.then hb5); have hz5 := HT5.out.size; clear hb5 m0 m1 m2 k0 k1)
            | fail)
          · have hMx := hM2.out.turn (HT5.out) (.inr (by omega)); have hKx := hK2.out.turn (HT5.out) (.inr (by omega)); have m0 := hMx.cell (i := 0) (by omega); have m1 := hMx.cell (i := 1) (by omega); have m2 := hMx.cell (i := 2) (by omega); have k0 := hKx.cell (i := 0) (by omega); have k1 := hKx.cell (i := 1) (by omega); clear hMx hKx
            have hRx := (hR2.out.turn (HT5.out) (.inr (by omega))); have hQx := (hQ2.out.turn (HT5.out) (.inr (by omega))); have r0 := hRx.cell (i := 0) (by omega); have r1 := hRx.cell (i := 1) (by omega); have r2 := hRx.cell (i := 2) (by omega); have rf0 := hRx.free (i := 0) (by omega); have rf1 := hRx.free (i := 1) (by omega); have rf2 := hRx.free (i := 2) (by omega); have q0 := hQx.cell (i := 0) (by omega); have q1 := hQx.cell (i := 1) (by omega); have qf0 := hQx.free (i := 0) (by omega); have qf1 := hQx.free (i := 1) (by omega); clear hRx hQx
            have HOF := Lib.hid (HO2.out.turn (HT5.out) (.inr (by omega)))
            have hzF := (HT5.out).size
            go_region_law (first | fail)
            all_goals
              go_wp2
              refine bodyPost_ret (v := .tuple #[.agg #[Value.string nm, .int .i64 n, .slice A x.length c], .agg #[Value.string b, .string s], .string t]) (by simp [results, Tryz.results143, go_sem, r0, r1, r2, rf0, rf1, rf2, q0, q1, qf0, qf1]) rfl ?_
              clear r0 r1 r2 rf0 rf1 rf2 q0 q1 qf0 qf1 m0 m1 m2 k0 k1
              have key : ∀ w9, Chg w.heap.size (w.heap.size + 2) w5 w9 → RTDrawn g K w (.returned (.tuple #[.agg #[Value.string nm, .int .i64 n, .slice A x.length c], .agg #[Value.string b, .string s], .string t])) w9 := fun w9 kc => by
                have kb : Below w.heap.size w5 w9 := Below.chg (Below.refl _ _) kc (Nat.le_refl _) (by omega)
                have kz := kc.size
                exact ⟨nm, n, x, A, c, b, s, t, rfl, HOK.out, hxc, Hb.out, Hs.out, (by omega), (HOF.out.chg kc (.inr (by omega))).mono (by omega) (by omega), (HC5.out.keep kb hgw).more (by omega), ((Turn.of hWb.out).trans (HTV.out.trans HT5.out)).thenB kb⟩
              refine key _ ?_
              repeat (first | (with_reducible exact Chg.refl _ _ _) | (with_reducible refine Chg.setCell ?_ (by simp) (by simp) _) | (with_reducible refine Chg.drewH ?_))
          · clear m0 m1 m2 k0 k1
            have hMx := hM2.out.turn (HT4.out) (.inr (by omega)); have hKx := hK2.out.turn (HT4.out) (.inr (by omega)); have m0 := hMx.cell (i := 0) (by omega); have m1 := hMx.cell (i := 1) (by omega); have m2 := hMx.cell (i := 2) (by omega); have k0 := hKx.cell (i := 0) (by omega); have k1 := hKx.cell (i := 1) (by omega); clear hMx hKx
            have hRx := (hR2.out.turn (HT4.out) (.inr (by omega))); have hQx := (hQ2.out.turn (HT4.out) (.inr (by omega))); have r0 := hRx.cell (i := 0) (by omega); have r1 := hRx.cell (i := 1) (by omega); have r2 := hRx.cell (i := 2) (by omega); have rf0 := hRx.free (i := 0) (by omega); have rf1 := hRx.free (i := 1) (by omega); have rf2 := hRx.free (i := 2) (by omega); have q0 := hQx.cell (i := 0) (by omega); have q1 := hQx.cell (i := 1) (by omega); have qf0 := hQx.free (i := 0) (by omega); have qf1 := hQx.free (i := 1) (by omega); clear hRx hQx
            have HOF := Lib.hid (HO2.out.turn (HT4.out) (.inr (by omega)))
            have hzF := (HT4.out).size
            go_region_law (first | fail)
            all_goals
              go_wp2
              refine bodyPost_ret (v := .tuple #[.agg #[Value.string nm, .int .i64 n, .slice A x.length c], .agg #[Value.string b, .string s], .string t]) (by simp [results, Tryz.results143, go_sem, r0, r1, r2, rf0, rf1, rf2, q0, q1, qf0, qf1]) rfl ?_
              clear r0 r1 r2 rf0 rf1 rf2 q0 q1 qf0 qf1 m0 m1 m2 k0 k1
              have key : ∀ w9, Chg w.heap.size (w.heap.size + 2) w4 w9 → RTDrawn g K w (.returned (.tuple #[.agg #[Value.string nm, .int .i64 n, .slice A x.length c], .agg #[Value.string b, .string s], .string t])) w9 := fun w9 kc => by
                have kb : Below w.heap.size w4 w9 := Below.chg (Below.refl _ _) kc (Nat.le_refl _) (by omega)
                have kz := kc.size
                exact ⟨nm, n, x, A, c, b, s, t, rfl, HOK.out, hxc, Hb.out, Hs.out, (by omega), (HOF.out.chg kc (.inr (by omega))).mono (by omega) (by omega), (HC4.out.keep kb hgw).more (by omega), ((Turn.of hWb.out).trans (HTV.out.trans HT4.out)).thenB kb⟩
              refine key _ ?_
              repeat (first | (with_reducible exact Chg.refl _ _ _) | (with_reducible refine Chg.setCell ?_ (by simp) (by simp) _) | (with_reducible refine Chg.drewH ?_))
    · have d1 : decide ((j : Int) < 9) = false := by simp; omega
      clear hap
      have hm0 := hM1.out.cell (i := 0) (by omega)
      have hm1 := hM1.out.cell (i := 1) (by omega)
      have hm2 := hM1.out.cell (i := 2) (by omega)
      have HRD : Hid (RdL wr wr.heap.size A 1 encString x) := Lib.hid ((HO1.out.mono (Nat.le_refl _) hhi).rd encString_len)
      go_upto_region 7 with (first | (go_at_call 172; refine (anyCalls_any g (K + 1000) nm n x A c wr (HC1.out.more (by omega)) (by omega) HOK.out HRD.out).mono ?_; rintro e w2 ⟨b, s, rfl, hbb, hss, hc, ht⟩; have Hb := Lib.hid hbb; have Hs := Lib.hid hss; have HC2 := Lib.hid hc; have HT2 := Lib.hid ht; have hz2 := ht.size; clear hbb hss hc ht hm0 hm1 hm2) | fail)
      obtain ⟨V, hVe, hVb, hKc⟩ : ∃ V : World, Hid (w2.alloc (.cells #[Value.string b, .string s] 28) = V) ∧ Hid (Below w2.heap.size w2 V) ∧ Hid (Cells V w2.heap.size 2 (fun i => (#[Value.string b, .string s] : Array Value).getD i undef)) := ⟨_, Lib.hid rfl, Lib.hid ((Below.refl _ _).alloc (Nat.le_refl _) _), Lib.hid (Cells.newD _ #[Value.string b, .string s] _)⟩
      rw [hVe.out]
      clear hVe
      obtain ⟨bk, hbk⟩ : ∃ bk, Hid (w2.heap.size = bk) := ⟨_, Lib.hid rfl⟩
      have hVz := hKc.out.lt
      rw [hbk.out] at hKc hVz ⊢
      have hbe := hbk.out
      have hK2 := hKc
      have HCV := Lib.hid (HC2.out.later hVb.out)
      have HTV := Lib.hid ((HT1.out.trans HT2.out).then hVb.out)
      have hM2 := Lib.hid ((hM1.out.turn HT2.out (.inr (by omega))).later hVb.out)
      have HO2 := Lib.hid ((HO1.out.turn HT2.out (.inr (by omega))).later hVb.out)
      have hR2 := Lib.hid (hR.out.turn HTV.out (.inr (by omega)))
      have hQ2 := Lib.hid (hQ.out.turn HTV.out (.inr (by omega)))
      clear HC1 HC2 hM1 HO1 hKc HRD
      have HMK : Hid (∀ W, Turn g V W → MkOk ⟨nm, n, x, A, c⟩ b s W) := Lib.hid fun W ht => ⟨((HO2.out.turn ht (.inr (by omega))).mono (Nat.le_refl _) (by have := ht.size; omega)).rd encString_len, Nat.le_trans HOK.out.wd.2.2 (by omega), Nat.le_trans HOK.out.x9 (by omega), fun y hy => by have := (HOK.out.ch y hy).size; unfold String_small; omega, Hb.out, Hs.out, hxc⟩
      go_upto_region 8 with (first | (go_at_call 173; refine (touchD_any g (K + 1024) 3 V HCV.out (by omega) (by omega)).mono ?_; rintro e w3 ⟨t, rfl, _, _, ht6, hc, ht⟩; have HC3 := Lib.hid hc; have HT3 := Lib.hid ht; have hz3 := ht.size; clear hc ht) | fail)
      by_cases hcp : callsP ⟨nm, n, x, A, c⟩ b s
      · have ecp := B_t hcp
        have HCP := Lib.hid hcp
        clear hcp
        go_upto_region 10 with (first
          | (go_at_call 55; refine (one_any g (K + 1064) 6 w3 HC3.out (by omega) (by omega)).mono ?_; rintro e w4 ⟨b4, rfl, hc4, ht4⟩; have HC4 := Lib.hid hc4; have HT4 := Lib.hid (HT3.out.trans ht4); have hz4 := HT4.out.size; clear hc4 ht4; have hMx := hM2.out.turn (HT4.out) (.inr (by omega)); have hKx := hK2.out.turn (HT4.out) (.inr (by omega)); have m0 := hMx.cell (i := 0) (by omega); have m1 := hMx.cell (i := 1) (by omega); have m2 := hMx.cell (i := 2) (by omega); have k0 := hKx.cell (i := 0) (by omega); have k1 := hKx.cell (i := 1) (by omega); clear hMx hKx; cases b4)
          | (go_at_call 116; refine (l8Good_any ⟨nm, n, x, A, c⟩ b s w4 (HMK.out w4 HT4.out).rd (HMK.out w4 HT4.out).nm (HMK.out w4 HT4.out).xl (HMK.out w4 HT4.out).xs (HMK.out w4 HT4.out).bs (HMK.out w4 HT4.out).ss).mono ?_; rintro e w5 ⟨rfl, hb5⟩; have HC5 := Lib.hid (HC4.out.later hb5); have HT5 := Lib.hid (HT4.out.then hb5); have hz5 := HT5.out.size; clear hb5 m0 m1 m2 k0 k1; have hMx := hM2.out.turn (HT5.out) (.inr (by omega)); have hKx := hK2.out.turn (HT5.out) (.inr (by omega)); have m0 := hMx.cell (i := 0) (by omega); have m1 := hMx.cell (i := 1) (by omega); have m2 := hMx.cell (i := 2) (by omega); have k0 := hKx.cell (i := 0) (by omega); have k1 := hKx.cell (i := 1) (by omega); clear hMx hKx)
          | (go_at_call 174; refine (l12Whole_any ⟨nm, n, x, A, c⟩ b s t w5 (HMK.out w5 HT5.out) HCP.out (by omega)).mono ?_; rintro e w6 ⟨t6, rfl, hs6, hb6⟩; have HC6 := Lib.hid (HC5.out.later hb6); have HT6 := Lib.hid (HT5.out.then hb6); have hz6 := HT6.out.size; clear hb6 m0 m1 m2 k0 k1; have hMx := hM2.out.turn (HT6.out) (.inr (by omega)); have hKx := hK2.out.turn (HT6.out) (.inr (by omega)); have m0 := hMx.cell (i := 0) (by omega); have m1 := hMx.cell (i := 1) (by omega); have m2 := hMx.cell (i := 2) (by omega); have k0 := hKx.cell (i := 0) (by omega); have k1 := hKx.cell (i := 1) (by omega); clear hMx hKx)
          | (go_at_call 174; refine (l12Whole_any ⟨nm, n, x, A, c⟩ b s t w6 (HMK.out w6 HT6.out) HCP.out (by omega)).mono ?_; rintro e w7 ⟨t7, rfl, hs7, hb7⟩; have HC7 := Lib.hid (HC6.out.later hb7); have HT7 := Lib.hid (HT6.out.then hb7); have hz7 := HT7.out.size; clear hb7 m0 m1 m2 k0 k1)
          | fail)
        · have hMx := hM2.out.turn (HT7.out) (.inr (by omega)); have hKx := hK2.out.turn (HT7.out) (.inr (by omega)); have m0 := hMx.cell (i := 0) (by omega); have m1 := hMx.cell (i := 1) (by omega); have m2 := hMx.cell (i := 2) (by omega); have k0 := hKx.cell (i := 0) (by omega); have k1 := hKx.cell (i := 1) (by omega); clear hMx hKx
          have hRx := (hR2.out.turn (HT7.out) (.inr (by omega))); have hQx := (hQ2.out.turn (HT7.out) (.inr (by omega))); have r0 := hRx.cell (i := 0) (by omega); have r1 := hRx.cell (i := 1) (by omega); have r2 := hRx.cell (i := 2) (by omega); have rf0 := hRx.free (i := 0) (by omega); have rf1 := hRx.free (i := 1) (by omega); have rf2 := hRx.free (i := 2) (by omega); have q0 := hQx.cell (i := 0) (by omega); have q1 := hQx.cell (i := 1) (by omega); have qf0 := hQx.free (i := 0) (by omega); have qf1 := hQx.free (i := 1) (by omega); clear hRx hQx
          have HOF := Lib.hid (HO2.out.turn (HT7.out) (.inr (by omega)))
          have hzF := (HT7.out).size
          go_region_law (first | fail)
          all_goals
            go_wp2
            refine bodyPost_ret (v := .tuple #[.agg #[Value.string nm, .int .i64 n, .slice A x.length c], .agg #[Value.string b, .string s], .string t7]) (by simp [results, Tryz.results143, go_sem, r0, r1, r2, rf0, rf1, rf2, q0, q1, qf0, qf1]) rfl ?_
            clear r0 r1 r2 rf0 rf1 rf2 q0 q1 qf0 qf1 m0 m1 m2 k0 k1
            have key : ∀ w9, Chg w.heap.size (w.heap.size + 2) w7 w9 → RTDrawn g K w (.returned (.tuple #[.agg #[Value.string nm, .int .i64 n, .slice A x.length c], .agg #[Value.string b, .string s], .string t7])) w9 := fun w9 kc => by
              have kb : Below w.heap.size w7 w9 := Below.chg (Below.refl _ _) kc (Nat.le_refl _) (by omega)
              have kz := kc.size
              exact ⟨nm, n, x, A, c, b, s, t7, rfl, HOK.out, hxc, Hb.out, Hs.out, (by omega), (HOF.out.chg kc (.inr (by omega))).mono (by omega) (by omega), (HC7.out.keep kb hgw).more (by omega), ((Turn.of hWb.out).trans (HTV.out.trans HT7.out)).thenB kb⟩
            refine key _ ?_
            repeat (first | (with_reducible exact Chg.refl _ _ _) | (with_reducible refine Chg.setCell ?_ (by simp) (by simp) _) | (with_reducible refine Chg.drewH ?_))
        · clear m0 m1 m2 k0 k1
          have hMx := hM2.out.turn (HT6.out) (.inr (by omega)); have hKx := hK2.out.turn (HT6.out) (.inr (by omega)); have m0 := hMx.cell (i := 0) (by omega); have m1 := hMx.cell (i := 1) (by omega); have m2 := hMx.cell (i := 2) (by omega); have k0 := hKx.cell (i := 0) (by omega); have k1 := hKx.cell (i := 1) (by omega); clear hMx hKx
          have hRx := (hR2.out.turn (HT6.out) (.inr (by omega))); have hQx := (hQ2.out.turn (HT6.out) (.inr (by omega))); have r0 := hRx.cell (i := 0) (by omega); have r1 := hRx.cell (i := 1) (by omega); have r2 := hRx.cell (i := 2) (by omega); have rf0 := hRx.free (i := 0) (by omega); have rf1 := hRx.free (i := 1) (by omega); have rf2 := hRx.free (i := 2) (by omega); have q0 := hQx.cell (i := 0) (by omega); have q1 := hQx.cell (i := 1) (by omega); have qf0 := hQx.free (i := 0) (by omega); have qf1 := hQx.free (i := 1) (by omega); clear hRx hQx
          have HOF := Lib.hid (HO2.out.turn (HT6.out) (.inr (by omega)))
          have hzF := (HT6.out).size
          go_region_law (first | fail)
          all_goals
            go_wp2
            refine bodyPost_ret (v := .tuple #[.agg #[Value.string nm, .int .i64 n, .slice A x.length c], .agg #[Value.string b, .string s], .string t]) (by simp [results, Tryz.results143, go_sem, r0, r1, r2, rf0, rf1, rf2, q0, q1, qf0, qf1]) rfl ?_
            clear r0 r1 r2 rf0 rf1 rf2 q0 q1 qf0 qf1 m0 m1 m2 k0 k1
            have key : ∀ w9, Chg w.heap.size (w.heap.size + 2) w6 w9 → RTDrawn g K w (.returned (.tuple #[.agg #[Value.string nm, .int .i64 n, .slice A x.length c], .agg #[Value.string b, .string s], .string t])) w9 := fun w9 kc => by
              have kb : Below w.heap.size w6 w9 := Below.chg (Below.refl _ _) kc (Nat.le_refl _) (by omega)
              have kz := kc.size
              exact ⟨nm, n, x, A, c, b, s, t, rfl, HOK.out, hxc, Hb.out, Hs.out, (by omega), (HOF.out.chg kc (.inr (by omega))).mono (by omega) (by omega), (HC6.out.keep kb hgw).more (by omega), ((Turn.of hWb.out).trans (HTV.out.trans HT6.out)).thenB kb⟩
            refine key _ ?_
            repeat (first | (with_reducible exact Chg.refl _ _ _) | (with_reducible refine Chg.setCell ?_ (by simp) (by simp) _) | (with_reducible refine Chg.drewH ?_))
        · clear m0 m1 m2 k0 k1
          have hMx := hM2.out.turn (HT4.out) (.inr (by omega)); have hKx := hK2.out.turn (HT4.out) (.inr (by omega)); have m0 := hMx.cell (i := 0) (by omega); have m1 := hMx.cell (i := 1) (by omega); have m2 := hMx.cell (i := 2) (by omega); have k0 := hKx.cell (i := 0) (by omega); have k1 := hKx.cell (i := 1) (by omega); clear hMx hKx
          have hRx := (hR2.out.turn (HT4.out) (.inr (by omega))); have hQx := (hQ2.out.turn (HT4.out) (.inr (by omega))); have r0 := hRx.cell (i := 0) (by omega); have r1 := hRx.cell (i := 1) (by omega); have r2 := hRx.cell (i := 2) (by omega); have rf0 := hRx.free (i := 0) (by omega); have rf1 := hRx.free (i := 1) (by omega); have rf2 := hRx.free (i := 2) (by omega); have q0 := hQx.cell (i := 0) (by omega); have q1 := hQx.cell (i := 1) (by omega); have qf0 := hQx.free (i := 0) (by omega); have qf1 := hQx.free (i := 1) (by omega); clear hRx hQx
          have HOF := Lib.hid (HO2.out.turn (HT4.out) (.inr (by omega)))
          have hzF := (HT4.out).size
          go_region_law (first | fail)
          all_goals
            go_wp2
            refine bodyPost_ret (v := .tuple #[.agg #[Value.string nm, .int .i64 n, .slice A x.length c], .agg #[Value.string b, .string s], .string t]) (by simp [results, Tryz.results143, go_sem, r0, r1, r2, rf0, rf1, rf2, q0, q1, qf0, qf1]) rfl ?_
            clear r0 r1 r2 rf0 rf1 rf2 q0 q1 qf0 qf1 m0 m1 m2 k0 k1
            have key : ∀ w9, Chg w.heap.size (w.heap.size + 2) w4 w9 → RTDrawn g K w (.returned (.tuple #[.agg #[Value.string nm, .int .i64 n, .slice A x.length c], .agg #[Value.string b, .string s], .string t])) w9 := fun w9 kc => by
              have kb : Below w.heap.size w4 w9 := Below.chg (Below.refl _ _) kc (Nat.le_refl _) (by omega)
              have kz := kc.size
              exact ⟨nm, n, x, A, c, b, s, t, rfl, HOK.out, hxc, Hb.out, Hs.out, (by omega), (HOF.out.chg kc (.inr (by omega))).mono (by omega) (by omega), (HC4.out.keep kb hgw).more (by omega), ((Turn.of hWb.out).trans (HTV.out.trans HT4.out)).thenB kb⟩
            refine key _ ?_
            repeat (first | (with_reducible exact Chg.refl _ _ _) | (with_reducible refine Chg.setCell ?_ (by simp) (by simp) _) | (with_reducible refine Chg.drewH ?_))
      · have ecp := B_f hcp
        clear hcp
        go_upto_region 10 with (first
          | (go_at_call 55; refine (one_any g (K + 1064) 6 w3 HC3.out (by omega) (by omega)).mono ?_; rintro e w4 ⟨b4, rfl, hc4, ht4⟩; have HC4 := Lib.hid hc4; have HT4 := Lib.hid (HT3.out.trans ht4); have hz4 := HT4.out.size; clear hc4 ht4; have hMx := hM2.out.turn (HT4.out) (.inr (by omega)); have hKx := hK2.out.turn (HT4.out) (.inr (by omega)); have m0 := hMx.cell (i := 0) (by omega); have m1 := hMx.cell (i := 1) (by omega); have m2 := hMx.cell (i := 2) (by omega); have k0 := hKx.cell (i := 0) (by omega); have k1 := hKx.cell (i := 1) (by omega); clear hMx hKx; cases b4)
          | (go_at_call 116; refine (l8Good_any ⟨nm, n, x, A, c⟩ b s w4 (HMK.out w4 HT4.out).rd (HMK.out w4 HT4.out).nm (HMK.out w4 HT4.out).xl (HMK.out w4 HT4.out).xs (HMK.out w4 HT4.out).bs (HMK.out w4 HT4.out).ss).mono ?_; rintro e w5 ⟨rfl, hb5⟩; have HC5 := Lib.hid (HC4.out.later hb5); have HT5 := Lib.hid (HT4.out.then hb5); have hz5 := HT5.out.size; clear hb5 m0 m1 m2 k0 k1)
          | fail)
        · have hMx := hM2.out.turn (HT5.out) (.inr (by omega)); have hKx := hK2.out.turn (HT5.out) (.inr (by omega)); have m0 := hMx.cell (i := 0) (by omega); have m1 := hMx.cell (i := 1) (by omega); have m2 := hMx.cell (i := 2) (by omega); have k0 := hKx.cell (i := 0) (by omega); have k1 := hKx.cell (i := 1) (by omega); clear hMx hKx
          have hRx := (hR2.out.turn (HT5.out) (.inr (by omega))); have hQx := (hQ2.out.turn (HT5.out) (.inr (by omega))); have r0 := hRx.cell (i := 0) (by omega); have r1 := hRx.cell (i := 1) (by omega); have r2 := hRx.cell (i := 2) (by omega); have rf0 := hRx.free (i := 0) (by omega); have rf1 := hRx.free (i := 1) (by omega); have rf2 := hRx.free (i := 2) (by omega); have q0 := hQx.cell (i := 0) (by omega); have q1 := hQx.cell (i := 1) (by omega); have qf0 := hQx.free (i := 0) (by omega); have qf1 := hQx.free (i := 1) (by omega); clear hRx hQx
          have HOF := Lib.hid (HO2.out.turn (HT5.out) (.inr (by omega)))
          have hzF := (HT5.out).size
          go_region_law (first | fail)
          all_goals
            go_wp2
            refine bodyPost_ret (v := .tuple #[.agg #[Value.string nm, .int .i64 n, .slice A x.length c], .agg #[Value.string b, .string s], .string t]) (by simp [results, Tryz.results143, go_sem, r0, r1, r2, rf0, rf1, rf2, q0, q1, qf0, qf1]) rfl ?_
            clear r0 r1 r2 rf0 rf1 rf2 q0 q1 qf0 qf1 m0 m1 m2 k0 k1
            have key : ∀ w9, Chg w.heap.size (w.heap.size + 2) w5 w9 → RTDrawn g K w (.returned (.tuple #[.agg #[Value.string nm, .int .i64 n, .slice A x.length c], .agg #[Value.string b, .string s], .string t])) w9 := fun w9 kc => by
              have kb : Below w.heap.size w5 w9 := Below.chg (Below.refl _ _) kc (Nat.le_refl _) (by omega)
              have kz := kc.size
              exact ⟨nm, n, x, A, c, b, s, t, rfl, HOK.out, hxc, Hb.out, Hs.out, (by omega), (HOF.out.chg kc (.inr (by omega))).mono (by omega) (by omega), (HC5.out.keep kb hgw).more (by omega), ((Turn.of hWb.out).trans (HTV.out.trans HT5.out)).thenB kb⟩
            refine key _ ?_
            repeat (first | (with_reducible exact Chg.refl _ _ _) | (with_reducible refine Chg.setCell ?_ (by simp) (by simp) _) | (with_reducible refine Chg.drewH ?_))
        · clear m0 m1 m2 k0 k1
          have hMx := hM2.out.turn (HT4.out) (.inr (by omega)); have hKx := hK2.out.turn (HT4.out) (.inr (by omega)); have m0 := hMx.cell (i := 0) (by omega); have m1 := hMx.cell (i := 1) (by omega); have m2 := hMx.cell (i := 2) (by omega); have k0 := hKx.cell (i := 0) (by omega); have k1 := hKx.cell (i := 1) (by omega); clear hMx hKx
          have hRx := (hR2.out.turn (HT4.out) (.inr (by omega))); have hQx := (hQ2.out.turn (HT4.out) (.inr (by omega))); have r0 := hRx.cell (i := 0) (by omega); have r1 := hRx.cell (i := 1) (by omega); have r2 := hRx.cell (i := 2) (by omega); have rf0 := hRx.free (i := 0) (by omega); have rf1 := hRx.free (i := 1) (by omega); have rf2 := hRx.free (i := 2) (by omega); have q0 := hQx.cell (i := 0) (by omega); have q1 := hQx.cell (i := 1) (by omega); have qf0 := hQx.free (i := 0) (by omega); have qf1 := hQx.free (i := 1) (by omega); clear hRx hQx
          have HOF := Lib.hid (HO2.out.turn (HT4.out) (.inr (by omega)))
          have hzF := (HT4.out).size
          go_region_law (first | fail)
          all_goals
            go_wp2
            refine bodyPost_ret (v := .tuple #[.agg #[Value.string nm, .int .i64 n, .slice A x.length c], .agg #[Value.string b, .string s], .string t]) (by simp [results, Tryz.results143, go_sem, r0, r1, r2, rf0, rf1, rf2, q0, q1, qf0, qf1]) rfl ?_
            clear r0 r1 r2 rf0 rf1 rf2 q0 q1 qf0 qf1 m0 m1 m2 k0 k1
            have key : ∀ w9, Chg w.heap.size (w.heap.size + 2) w4 w9 → RTDrawn g K w (.returned (.tuple #[.agg #[Value.string nm, .int .i64 n, .slice A x.length c], .agg #[Value.string b, .string s], .string t])) w9 := fun w9 kc => by
              have kb : Below w.heap.size w4 w9 := Below.chg (Below.refl _ _) kc (Nat.le_refl _) (by omega)
              have kz := kc.size
              exact ⟨nm, n, x, A, c, b, s, t, rfl, HOK.out, hxc, Hb.out, Hs.out, (by omega), (HOF.out.chg kc (.inr (by omega))).mono (by omega) (by omega), (HC4.out.keep kb hgw).more (by omega), ((Turn.of hWb.out).trans (HTV.out.trans HT4.out)).thenB kb⟩
            refine key _ ?_
            repeat (first | (with_reducible exact Chg.refl _ _ _) | (with_reducible refine Chg.setCell ?_ (by simp) (by simp) _) | (with_reducible refine Chg.drewH ?_))
end Go.Proofs.YtkegbbndmfnolaaGreatDoor
