import Derived.Test.YtkegbbndmfnolaaGreatDoorMBandsL30
import Derived.Test.YtkegbbndmfnolaaGreatDoorMBandsL28
import Derived.Test.YtkegbbndmfnolaaGreatDoorMBandsL31
import Derived.Test.YtkegbbndmfnolaaGreatDoorMBandsL24
import Derived.Test.YtkegbbndmfnolaaGreatDoorMBandsL16
import Derived.Test.YtkegbbndmfnolaaGreatDoorMBandsL21
import Derived.Test.YtkegbbndmfnolaaGreatDoorMBandsL05
import Derived.Test.YtkegbbndmfnolaaGreatDoorMBandsL33
import Derived.Test.YtkegbbndmfnolaaGreatDoorMBandsL01
import Derived.Test.YtkegbbndmfnolaaGreatDoorMBandsL34
/-
 FnBands: both sides ring alike; a touch rung by a band has the touch's rows; what a band becomes is a good band. The tied card.
-/
namespace Go.Proofs.YtkegbbndmfnolaaGreatDoor
open Go.RowKit Go.ChangeShapes Go.WideShapes Go.Deep
set_option linter.unusedVariables false
set_option linter.unusedSimpArgs false
set_option maxRecDepth 100000












theorem bdret_of {d : Bd} {ok : Bool} {D : Bd × Bool} (hD : D = (d, ok)) {f : FuncId} {args : Array Value} {W : World} (h : Calls Tryz.prog f args W fun e w' => BdRet D.1 D.2 W e w') : Calls Tryz.prog f args W fun e w' => ∃ A1 c1 A3 c3, e = .returned (.tuple #[.agg #[.string d.name, .int .i64 d.stage, .slice A1 d.x.length c1, .string d.bob, .string d.sing, .int .i64 d.step, .string d.call, .string d.tru, .slice A3 d.rx.length c3], .bool ok]) ∧ RdL w' w'.heap.size A1 1 encString d.x ∧ RdL w' w'.heap.size A3 2 Rgr.enc d.rx ∧ Below W.heap.size W w' := by
 rw [hD] at h
 refine h.mono ?_
 rintro e w' ⟨v, rfl, ⟨A1, c1, A3, c3, gs, rfl, _, _, o1, o3⟩, hb⟩
 exact ⟨A1, c1, A3, c3, rfl, o1.rd encString_len, o3.rd Rgr_enc_len, hb⟩
theorem play_of {d : Bd} {R : List ByteArray} {ok : Bool} {D : Bd × List ByteArray × Bool} (hD : D = (d, R, ok)) {f : FuncId} {args : Array Value} {W : World} (h : Calls Tryz.prog f args W fun e w' => PlayB D W e w') : Calls Tryz.prog f args W fun e w' => ∃ A1 c1 A3 c3 A5 c5, e = .returned (.tuple #[.agg #[.string d.name, .int .i64 d.stage, .slice A1 d.x.length c1, .string d.bob, .string d.sing, .int .i64 d.step, .string d.call, .string d.tru, .slice A3 d.rx.length c3], .slice A5 R.length c5, .bool ok]) ∧ RdL w' w'.heap.size A1 1 encString d.x ∧ RdL w' w'.heap.size A3 2 Rgr.enc d.rx ∧ RdL w' w'.heap.size A5 1 encString R ∧ Below W.heap.size W w' := by
 rw [hD] at h
 refine h.mono ?_
 rintro e w' ⟨u, rfl, ⟨v, A5, c5, gw, l2, h2, rfl, _, _, _, _, _, _, ⟨A1, c1, A3, c3, gs, rfl, _, _, o1, o3⟩, o5⟩, hb'⟩
 exact ⟨A1, c1, A3, c3, A5, c5, rfl, o1.rd encString_len, o3.rd Rgr_enc_len, o5.rd encString_len, hb'⟩
theorem ring_rd {r : List ByteArray} {ok : Bool} {D : List ByteArray × Bool} (hD : D = (r, ok)) {f : FuncId} {args : Array Value} {W : World} (h : Calls Tryz.prog f args W fun e w' => RingOut D W e w') : Calls Tryz.prog f args W fun e w' => ∃ A c, e = .returned (.tuple #[.slice A r.length c, .bool ok]) ∧ RdL w' w'.heap.size A 1 encString r ∧ Below W.heap.size W w' := by
 rw [hD] at h
 exact h.mono fun e w' ⟨A, c, h1, h2, h3⟩ => ⟨A, c, h1, h2.rd encString_len, h3⟩
theorem trow_rd {r : List ByteArray} {ok : Bool} {D : List ByteArray × Bool} (hD : D = (r, ok)) {f : FuncId} {args : Array Value} {W : World} (h : Calls Tryz.prog f args W fun e w' => TRowOut D W e w') : Calls Tryz.prog f args W fun e w' => ∃ A c, e = .returned (.tuple #[.slice A r.length c, .bool ok]) ∧ RdL w' w'.heap.size A 1 encString r ∧ Below W.heap.size W w' := by
 rw [hD] at h
 exact h.mono fun e w' ⟨A, c, h1, h2, h3⟩ => ⟨A, c, h1, h2.rd encString_len, h3⟩
theorem ring_touch {m : Mth} {b s t : ByteArray} {r r2 : List ByteArray} (h : ringR m b s t = (r, true)) (h2 : trR m b s t = (r2, true)) : r2 = r := by
 unfold ringR at h
 split at h
 ·rename_i hc
  have e := play_touch hc.1.1 (fun k hk => by rw [← callOf_ext hk]; exact (isCall_ext t k hk).2 (hc.1.2.1 k hk))
  have e1 : r = rowsL9 m.stage.toNat m.x b s t := by rw [← e]; exact (congrArg Prod.fst h).symm
  rw [trR_t hc.1] at h2
  unfold tRow at h2
  split at h2
  ·rw [e1]; exact (congrArg Prod.fst h2).symm
  ·exact absurd (congrArg Prod.snd h2) (by simp)
 ·exact absurd (congrArg Prod.snd h) (by simp)
theorem playD_ok {b : Bnd} {l : List Act_} {d : Bd} {R : List ByteArray} (h : playBD b l = (d, R, true)) : bdP d := by
 unfold playBD at h
 split at h
 ·rename_i hc
  have e : (playS b.bd l l.length).1 = d := congrArg Prod.fst h
  rw [← e]
  exact (playS_inv (d := b.bd) (l := l) hc.1 _).1
 ·exact absurd (congrArg (fun x => x.2.2) h) (by simp)




set_option maxHeartbeats 64000000 in
theorem bandsLaw (w : World) (l : List Int) (A : Option Addr) (c : Nat) (h : RdL w w.heap.size A 1 encByte l) (hl : l.length ≤ 9223372036854775807) (hb : ∀ x ∈ l, Byte_small 9223372036854775807 x) (l' : List Int) (A' : Option Addr) (c' : Nat) (h' : RdL w w.heap.size A' 1 encByte l') (hl' : l'.length ≤ 9223372036854775807) (hb' : ∀ x ∈ l', Byte_small 9223372036854775807 x) (htab : Tab w) :
  Calls Tryz.prog 3 #[.slice A l.length c, .slice A' l'.length c'] w fun e w' => e = .returned (.bool true) ∧ Below w.heap.size w w' := by
 have H := Lib.hid h
 have Hb := Lib.hid hb
 have H' := Lib.hid h'
 have Hb' := Lib.hid hb'
 have HT := Lib.hid htab
 clear h hb h' hb' htab
 by_cases hbig : 1048576 < l.length + l'.length
 ·have e0 := B_t hbig
  go_enter Tryz.func3, Tryz.ntmps3
  go_wp2_with (first | (go_at_call 6; refine (calls_bool (bigB_any _ _ A A' c c' w hl hl') e0).mono ?_; rintro e w1 ⟨rfl, rfl⟩) | fail)
  go_ret
  exact ⟨rfl, Below.refl _ _⟩
 have e0 := B_f hbig
 clear hbig
 go_enter Tryz.func3, Tryz.ntmps3
 go_upto_region 4 with (first | (go_at_call 6; refine (calls_bool (bigB_any _ _ A A' c c' w hl hl') e0).mono ?_; rintro e w1 ⟨rfl, rfl⟩) | (go_at_call 7; refine (drawRingTouch_any A c l _ H.out Hb.out hl).mono ?_; rintro e w1 ⟨m, kb, ks, t, rfl, ht, hok1, hb1⟩; have HOK1 := Lib.hid hok1; have HB1 := Lib.hid hb1; clear hok1 hb1) | fail)
 obtain ⟨W1, hVe, hVb1, hM, hKc⟩ : ∃ V : World, Hid (((w1.alloc (.cells #[.string m.name, .int .i64 m.stage, .slice m.A m.x.length m.c] 26)).alloc (.cells #[.string kb, .string ks] 28)) = V) ∧ Hid (Below w1.heap.size w1 V) ∧ Hid (Cells V w1.heap.size 3 (fun i => (#[Value.string m.name, .int .i64 m.stage, .slice m.A m.x.length m.c] : Array Value).getD i undef)) ∧ Hid (Cells V (w1.heap.size + 1) 2 (fun i => (#[Value.string kb, .string ks] : Array Value).getD i undef)) := by
  have z1 : w1.heap.size + 1 = (w1.alloc (.cells #[.string m.name, .int .i64 m.stage, .slice m.A m.x.length m.c] 26)).heap.size := by simp
  refine ⟨_, Lib.hid rfl, Lib.hid (((Below.refl _ _).alloc (Nat.le_refl _) _).alloc (by simp) _), Lib.hid ?_, Lib.hid ?_⟩
  ·exact (Cells.newD _ #[.string m.name, .int .i64 m.stage, .slice m.A m.x.length m.c] _).alloc _
  ·rw [z1]; exact Cells.newD _ #[.string kb, .string ks] _
 rw [hVe.out]
 clear hVe
 have HBW : Hid (Below w.heap.size w W1) := Lib.hid (HB1.out.trans (hVb1.out.mono HB1.out.size))
 have HMK : Hid (∀ W, Below W1.heap.size W1 W → MkOk m kb ks W) := Lib.hid fun W hb => HOK1.out W ((Chg.of_below hVb1.out).below hb)
 clear HOK1
 obtain ⟨D1, hD1⟩ : ∃ D, Hid (ringR m kb ks t = D) := ⟨_, Lib.hid rfl⟩
 have hs1 : D1.1.length ≤ 400 := by rw [← hD1.out]; exact ringR_small m kb ks t
 obtain ⟨r, okr⟩ := D1
 simp only at hs1
 obtain ⟨D2, hD2⟩ : ∃ D, Hid (trR m kb ks t = D) := ⟨_, Lib.hid rfl⟩
 have hs2 : D2.1.length ≤ 800 := by rw [← hD2.out]; exact trR_small m kb ks t
 obtain ⟨r2, okt⟩ := D2
 simp only at hs2
 have hRT : Hid (okr = true → okt = true → r2 = r) := Lib.hid fun h1 h2 => ring_touch (by rw [hD1.out, h1]) (by rw [hD2.out, h2])
 have hIR : Hid (∀ W, Below W1.heap.size W1 W → Calls Tryz.prog 8 #[.agg #[.string m.name, .int .i64 m.stage, .slice m.A m.x.length m.c], .agg #[.string kb, .string ks], .string t] W fun e w' => ∃ A c, e = .returned (.tuple #[.slice A r.length c, .bool okr]) ∧ RdL w' w'.heap.size A 1 encString r ∧ Below W.heap.size W w') := Lib.hid fun W hb => ring_rd hD1.out (iRingTouch_any m kb ks t W (HMK.out W hb) ht (HT.out.later (HBW.out.trans (hb.mono HBW.out.size))))
 have hSR : Hid (∀ W, Below W1.heap.size W1 W → Calls Tryz.prog 9 #[.agg #[.string m.name, .int .i64 m.stage, .slice m.A m.x.length m.c], .agg #[.string kb, .string ks], .string t] W fun e w' => ∃ A c, e = .returned (.tuple #[.slice A r.length c, .bool okr]) ∧ RdL w' w'.heap.size A 1 encString r ∧ Below W.heap.size W w') := Lib.hid fun W hb => ring_rd hD1.out (sRingTouch_any m kb ks t W (HMK.out W hb) ht (HT.out.later (HBW.out.trans (hb.mono HBW.out.size))))
 have hIT : Hid (∀ W, Below W1.heap.size W1 W → Calls Tryz.prog 11 #[.agg #[.string m.name, .int .i64 m.stage, .slice m.A m.x.length m.c], .agg #[.string kb, .string ks], .string t] W fun e w' => ∃ A c, e = .returned (.tuple #[.slice A r2.length c, .bool okt]) ∧ RdL w' w'.heap.size A 1 encString r2 ∧ Below W.heap.size W w') := Lib.hid fun W hb => trow_rd hD2.out (iTouchRows_any m kb ks t W (HMK.out W hb) ht)
 clear hD1 hD2
 have hUx := hM.out; have m0 := hUx.cell (i := 0) (by decide); have m1 := hUx.cell (i := 1) (by decide); have m2 := hUx.cell (i := 2) (by decide); clear hUx; have hUx := hKc.out; have k0 := hUx.cell (i := 0) (by decide); have k1 := hUx.cell (i := 1) (by decide); clear hUx
 go_upto_region 6 with (first
  | (go_at_call 8; refine (hIR.out W1 (Below.refl _ _)).mono ?_; rintro e w2 ⟨A2, c2, rfl, hr2, hb2⟩; have R2 := Lib.hid hr2; have K2 := Lib.hid hb2; clear hr2 hb2; clear m0 m1 m2 k0 k1; have hUx := hM.out.later K2.out; have m0 := hUx.cell (i := 0) (by decide); have m1 := hUx.cell (i := 1) (by decide); have m2 := hUx.cell (i := 2) (by decide); clear hUx; have hUx := hKc.out.later K2.out; have k0 := hUx.cell (i := 0) (by decide); have k1 := hUx.cell (i := 1) (by decide); clear hUx)
  | (go_at_call 9; refine (hSR.out w2 K2.out).mono ?_; rintro e w3 ⟨A3, c3, rfl, hr3, hb3⟩; have R3 := Lib.hid hr3; have R23 := Lib.hid ((R2.out.below hb3 (Nat.le_refl _)).more hb3.size); have K3 := Lib.hid (K2.out.trans (hb3.mono K2.out.size)); clear hr3 hb3; clear m0 m1 m2 k0 k1)
  | fail)
 cases okr
 focus
  go_upto_region 12 with (first
   | (go_at_call 10; refine (sameTexts_t r A2 A3 c2 c3 w3 R23.out R3.out (by omega)).mono ?_; rintro e w4 ⟨rfl, hd6⟩; have K4 : Hid (Below w.heap.size w w4) := Lib.hid (by obtain ⟨n6, rfl⟩ := hd6; exact below_drewN (HBW.out.trans (K3.out.mono HBW.out.size)) n6); clear hd6)
   | fail)
  have HPB := K4
 rotate_left
 focus
  go_upto_region 9 with (first
   | (go_at_call 10; refine (sameTexts_t r A2 A3 c2 c3 w3 R23.out R3.out (by omega)).mono ?_; rintro e w4 ⟨rfl, hd6⟩; have J4 : Hid (Below w3.heap.size w3 w4) := Lib.hid (by obtain ⟨n6, rfl⟩ := hd6; exact below_drewN (Below.refl _ _) n6); clear hd6)
   | fail)
  have K4 := Lib.hid (K3.out.trans (J4.out.mono K3.out.size))
  have R24 := Lib.hid ((R23.out.below J4.out (Nat.le_refl _)).more J4.out.size)
  have hUx := hM.out.later K4.out; have m0 := hUx.cell (i := 0) (by decide); have m1 := hUx.cell (i := 1) (by decide); have m2 := hUx.cell (i := 2) (by decide); clear hUx; have hUx := hKc.out.later K4.out; have k0 := hUx.cell (i := 0) (by decide); have k1 := hUx.cell (i := 1) (by decide); clear hUx
  go_upto_region 10 with (first
   | (go_at_call 11; refine (hIT.out w4 K4.out).mono ?_; rintro e w5 ⟨A5, c5, rfl, hr5, hb5⟩; have R5 := Lib.hid hr5; have R25 := Lib.hid ((R24.out.below hb5 (Nat.le_refl _)).more hb5.size); have K5 : Hid (Below w.heap.size w w5) := Lib.hid (HBW.out.trans ((K4.out.trans (hb5.mono K4.out.size)).mono HBW.out.size)); clear hr5 hb5; clear m0 m1 m2 k0 k1)
   | fail)
  cases okt
  focus
   go_upto_region 12 with fail
   have HPB := K5
  rotate_left
  focus
   have hrr : r2 = r := by have := hRT.out; simpa using this
   subst hrr
   go_upto_region 12 with (first
    | (go_at_call 10; refine (sameTexts_t r2 A2 A5 c2 c5 w5 R25.out R5.out (by omega)).mono ?_; rintro e w6 ⟨rfl, hd6⟩; have K6 : Hid (Below w.heap.size w w6) := Lib.hid (by obtain ⟨n6, rfl⟩ := hd6; exact below_drewN K5.out n6); clear hd6)
    | fail)
   have HPB := K6
 all_goals
  skip
  go_upto_region 13 with (first | (go_at_call 12; refine (drawPlayBand_any A' c' l' _ ((H'.out.below HPB.out (Nat.le_refl _)).more (HPB.out).size) Hb'.out hl').mono ?_; rintro e wa ⟨b, acts, A5, c5, rfl, hacl, hok, hba⟩; have HOA := Lib.hid hok; have HBa := Lib.hid ((HPB.out).trans (hba.mono (HPB.out).size)); clear hok hba) | fail)
  obtain ⟨Va, hVe, hVb, hB⟩ : ∃ V : World, Hid (wa.alloc (.cells #[.string b.m.name, .int .i64 b.m.stage, .slice b.m.A b.m.x.length b.m.c, .string b.bob, .string b.sing, .int .i64 b.step, .string b.call, .string b.tru, .slice b.RA b.rx.length b.rc] 36) = V) ∧ Hid (Below wa.heap.size wa V) ∧ Hid (Cells V wa.heap.size 9 (fun i => (#[Value.string b.m.name, .int .i64 b.m.stage, .slice b.m.A b.m.x.length b.m.c, .string b.bob, .string b.sing, .int .i64 b.step, .string b.call, .string b.tru, .slice b.RA b.rx.length b.rc] : Array Value).getD i undef)) := ⟨_, Lib.hid rfl, Lib.hid ((Below.refl _ _).alloc (Nat.le_refl _) _), Lib.hid (Cells.newD _ #[Value.string b.m.name, .int .i64 b.m.stage, .slice b.m.A b.m.x.length b.m.c, .string b.bob, .string b.sing, .int .i64 b.step, .string b.call, .string b.tru, .slice b.RA b.rx.length b.rc] _)⟩
  rw [hVe.out]
  clear hVe
  have HBV : Hid (Below w.heap.size w Va) := Lib.hid (HBa.out.trans (hVb.out.mono HBa.out.size))
  have HOV : Hid (∀ W, Below Va.heap.size Va W → b.Ok W ∧ RdL W W.heap.size A5 4 Act_.enc acts) := Lib.hid fun W hb => HOA.out W ((Chg.of_below hVb.out).below hb)
  clear HOA
  obtain ⟨D, hD⟩ : ∃ D, Hid (playBD b acts = D) := ⟨_, Lib.hid rfl⟩
  have hsm : Hid (D.1.x.length ≤ 1048576 ∧ D.1.rx.length ≤ 1048576 ∧ D.2.1.length ≤ 1048576) := Lib.hid (by rw [← hD.out]; exact playBD_small (HOV.out Va (Below.refl _ _)).1.cl (HOV.out Va (Below.refl _ _)).1.rl hacl)
  obtain ⟨dp, R, okp⟩ := D
  simp only at hsm
  have hIPB : Hid (∀ W, Below Va.heap.size Va W → Calls Tryz.prog 13 #[.agg #[.string b.m.name, .int .i64 b.m.stage, .slice b.m.A b.m.x.length b.m.c, .string b.bob, .string b.sing, .int .i64 b.step, .string b.call, .string b.tru, .slice b.RA b.rx.length b.rc], .slice A5 acts.length c5] W fun e w' => ∃ A1 c1 A3 c3 A5 c5, e = .returned (.tuple #[.agg #[.string dp.name, .int .i64 dp.stage, .slice A1 dp.x.length c1, .string dp.bob, .string dp.sing, .int .i64 dp.step, .string dp.call, .string dp.tru, .slice A3 dp.rx.length c3], .slice A5 R.length c5, .bool okp]) ∧ RdL w' w'.heap.size A1 1 encString dp.x ∧ RdL w' w'.heap.size A3 2 Rgr.enc dp.rx ∧ RdL w' w'.heap.size A5 1 encString R ∧ Below W.heap.size W w') := Lib.hid fun W hb => play_of hD.out (iPlayBand_any b acts A5 c5 W (HOV.out W hb).1 (HOV.out W hb).2 hacl (HT.out.later (HBV.out.trans (hb.mono HBV.out.size))))
  have hSPB : Hid (∀ W, Below Va.heap.size Va W → Calls Tryz.prog 14 #[.agg #[.string b.m.name, .int .i64 b.m.stage, .slice b.m.A b.m.x.length b.m.c, .string b.bob, .string b.sing, .int .i64 b.step, .string b.call, .string b.tru, .slice b.RA b.rx.length b.rc], .slice A5 acts.length c5] W fun e w' => ∃ A1 c1 A3 c3 A5 c5, e = .returned (.tuple #[.agg #[.string dp.name, .int .i64 dp.stage, .slice A1 dp.x.length c1, .string dp.bob, .string dp.sing, .int .i64 dp.step, .string dp.call, .string dp.tru, .slice A3 dp.rx.length c3], .slice A5 R.length c5, .bool okp]) ∧ RdL w' w'.heap.size A1 1 encString dp.x ∧ RdL w' w'.heap.size A3 2 Rgr.enc dp.rx ∧ RdL w' w'.heap.size A5 1 encString R ∧ Below W.heap.size W w') := Lib.hid fun W hb => play_of hD.out (sPlayBand_any b acts A5 c5 W (HOV.out W hb).1 (HOV.out W hb).2 hacl (HT.out.later (HBV.out.trans (hb.mono HBV.out.size))))
  have hUx := hB.out; have u0 := hUx.cell (i := 0) (by decide); have u1 := hUx.cell (i := 1) (by decide); have u2 := hUx.cell (i := 2) (by decide); have u3 := hUx.cell (i := 3) (by decide); have u4 := hUx.cell (i := 4) (by decide); have u5 := hUx.cell (i := 5) (by decide); have u6 := hUx.cell (i := 6) (by decide); have u7 := hUx.cell (i := 7) (by decide); have u8 := hUx.cell (i := 8) (by decide); clear hUx
  go_upto_region 14 with (first | (go_at_call 13; refine (hIPB.out Va (Below.refl _ _)).mono ?_; rintro e wb ⟨N1, n1, N3, n3, N5, n5, rfl, hn1, hn3, hn5, hbb⟩; have HN1 := Lib.hid hn1; have HN3 := Lib.hid hn3; have HN5 := Lib.hid hn5; have HBb := Lib.hid hbb; clear hn1 hn3 hn5 hbb) | fail)
  clear u0 u1 u2 u3 u4 u5 u6 u7 u8
  obtain ⟨Vb, hVe, hVbb, hY⟩ : ∃ V : World, Hid (wb.alloc (.cells #[Value.string dp.name, .int .i64 dp.stage, .slice N1 dp.x.length n1, .string dp.bob, .string dp.sing, .int .i64 dp.step, .string dp.call, .string dp.tru, .slice N3 dp.rx.length n3] 36) = V) ∧ Hid (Below wb.heap.size wb V) ∧ Hid (Cells V wb.heap.size 9 (fun i => (#[Value.string dp.name, .int .i64 dp.stage, .slice N1 dp.x.length n1, .string dp.bob, .string dp.sing, .int .i64 dp.step, .string dp.call, .string dp.tru, .slice N3 dp.rx.length n3] : Array Value).getD i undef)) := ⟨_, Lib.hid rfl, Lib.hid ((Below.refl _ _).alloc (Nat.le_refl _) _), Lib.hid (Cells.newD _ #[Value.string dp.name, .int .i64 dp.stage, .slice N1 dp.x.length n1, .string dp.bob, .string dp.sing, .int .i64 dp.step, .string dp.call, .string dp.tru, .slice N3 dp.rx.length n3] _)⟩
  rw [hVe.out]
  clear hVe
  have KVb : Hid (Below Va.heap.size Va Vb) := Lib.hid (HBb.out.trans (hVbb.out.mono HBb.out.size))
  have hUx := hB.out.later KVb.out; have u0 := hUx.cell (i := 0) (by decide); have u1 := hUx.cell (i := 1) (by decide); have u2 := hUx.cell (i := 2) (by decide); have u3 := hUx.cell (i := 3) (by decide); have u4 := hUx.cell (i := 4) (by decide); have u5 := hUx.cell (i := 5) (by decide); have u6 := hUx.cell (i := 6) (by decide); have u7 := hUx.cell (i := 7) (by decide); have u8 := hUx.cell (i := 8) (by decide); clear hUx
  go_upto_region 15 with (first | (go_at_call 14; refine (hSPB.out Vb KVb.out).mono ?_; rintro e wc ⟨M1, m1', M3, m3', M5, m5', rfl, hm1, hm3, hm5, hbc⟩; have HM1 := Lib.hid hm1; have HM3 := Lib.hid hm3; have HM5 := Lib.hid hm5; have HBc := Lib.hid hbc; clear hm1 hm3 hm5 hbc) | fail)
  clear u0 u1 u2 u3 u4 u5 u6 u7 u8
  obtain ⟨Vc, hVe, hVcb, hZ⟩ : ∃ V : World, Hid (wc.alloc (.cells #[Value.string dp.name, .int .i64 dp.stage, .slice M1 dp.x.length m1', .string dp.bob, .string dp.sing, .int .i64 dp.step, .string dp.call, .string dp.tru, .slice M3 dp.rx.length m3'] 36) = V) ∧ Hid (Below wc.heap.size wc V) ∧ Hid (Cells V wc.heap.size 9 (fun i => (#[Value.string dp.name, .int .i64 dp.stage, .slice M1 dp.x.length m1', .string dp.bob, .string dp.sing, .int .i64 dp.step, .string dp.call, .string dp.tru, .slice M3 dp.rx.length m3'] : Array Value).getD i undef)) := ⟨_, Lib.hid rfl, Lib.hid ((Below.refl _ _).alloc (Nat.le_refl _) _), Lib.hid (Cells.newD _ #[Value.string dp.name, .int .i64 dp.stage, .slice M1 dp.x.length m1', .string dp.bob, .string dp.sing, .int .i64 dp.step, .string dp.call, .string dp.tru, .slice M3 dp.rx.length m3'] _)⟩
  rw [hVe.out]
  clear hVe
  have KVc : Hid (Below Vb.heap.size Vb Vc) := Lib.hid (HBc.out.trans (hVcb.out.mono HBc.out.size))
  have KVbc := Lib.hid (hVbb.out.trans (KVc.out.mono hVbb.out.size))
  have HBVc : Hid (Below w.heap.size w Vc) := Lib.hid (HBV.out.trans ((KVb.out.trans (KVc.out.mono KVb.out.size)).mono HBV.out.size))
  have RY1 := Lib.hid ((HN1.out.below KVbc.out (Nat.le_refl _)).more KVbc.out.size)
  have RY3 := Lib.hid ((HN3.out.below KVbc.out (Nat.le_refl _)).more KVbc.out.size)
  have RY5 := Lib.hid ((HN5.out.below KVbc.out (Nat.le_refl _)).more KVbc.out.size)
  have RZ1 := Lib.hid ((HM1.out.below hVcb.out (Nat.le_refl _)).more hVcb.out.size)
  have RZ3 := Lib.hid ((HM3.out.below hVcb.out (Nat.le_refl _)).more hVcb.out.size)
  have RZ5 := Lib.hid ((HM5.out.below hVcb.out (Nat.le_refl _)).more hVcb.out.size)
  clear HN1 HN3 HN5 HM1 HM3 HM5
  have hUx := hY.out.later KVc.out; have y0 := hUx.cell (i := 0) (by decide); have y1 := hUx.cell (i := 1) (by decide); have y2 := hUx.cell (i := 2) (by decide); have y3 := hUx.cell (i := 3) (by decide); have y4 := hUx.cell (i := 4) (by decide); have y5 := hUx.cell (i := 5) (by decide); have y6 := hUx.cell (i := 6) (by decide); have y7 := hUx.cell (i := 7) (by decide); have y8 := hUx.cell (i := 8) (by decide); clear hUx
  have hUx := hZ.out; have z0 := hUx.cell (i := 0) (by decide); have z1 := hUx.cell (i := 1) (by decide); have z2 := hUx.cell (i := 2) (by decide); have z3 := hUx.cell (i := 3) (by decide); have z4 := hUx.cell (i := 4) (by decide); have z5 := hUx.cell (i := 5) (by decide); have z6 := hUx.cell (i := 6) (by decide); have z7 := hUx.cell (i := 7) (by decide); have z8 := hUx.cell (i := 8) (by decide); clear hUx
  have hGP : Hid (okp = true → ∀ W, Below Vc.heap.size Vc W → Calls Tryz.prog 16 #[.agg #[.string dp.name, .int .i64 dp.stage, .slice N1 dp.x.length n1, .string dp.bob, .string dp.sing, .int .i64 dp.step, .string dp.call, .string dp.tru, .slice N3 dp.rx.length n3]] W fun e w' => e = .returned (.bool true) ∧ Below W.heap.size W w') := Lib.hid fun h1 W hb => by
   have hdp : bdP dp := playD_ok (by rw [hD.out, h1])
   have := iBand_any (dp.bnd N1 n1 N3 n3) W (Bnd.ok_of hdp ((RY1.out.below hb (Nat.le_refl _)).more hb.size) ((RY3.out.below hb (Nat.le_refl _)).more hb.size))
   rw [B_t ((bandP_bnd dp N1 n1 N3 n3).2 hdp)] at this
   exact this
  have hSB : Hid (∀ W, Below Vc.heap.size Vc W → Calls Tryz.prog 15 #[.agg #[.string dp.name, .int .i64 dp.stage, .slice N1 dp.x.length n1, .string dp.bob, .string dp.sing, .int .i64 dp.step, .string dp.call, .string dp.tru, .slice N3 dp.rx.length n3], .agg #[.string dp.name, .int .i64 dp.stage, .slice M1 dp.x.length m1', .string dp.bob, .string dp.sing, .int .i64 dp.step, .string dp.call, .string dp.tru, .slice M3 dp.rx.length m3']] W fun e w' => e = .returned (.bool true) ∧ Below W.heap.size W w') := Lib.hid fun W hb => sameBand_t dp N1 n1 N3 n3 M1 m1' M3 m3' W ((RY1.out.below hb (Nat.le_refl _)).more hb.size) ((RZ1.out.below hb (Nat.le_refl _)).more hb.size) ((RY3.out.below hb (Nat.le_refl _)).more hb.size) ((RZ3.out.below hb (Nat.le_refl _)).more hb.size) hsm.out.1 hsm.out.2.1
  clear hIPB hSPB
  cases okp
  focus
   go_upto_region 17 with (first
    | (go_at_call 15; refine (hSB.out Vc (Below.refl _ _)).mono ?_; rintro e wd ⟨rfl, hbd⟩; have HBd := Lib.hid hbd; clear hbd)
    | (go_at_call 10; refine (sameTexts_t R N5 M5 n5 m5' wd ((RY5.out.below HBd.out (Nat.le_refl _)).more HBd.out.size) ((RZ5.out.below HBd.out (Nat.le_refl _)).more HBd.out.size) hsm.out.2.2).mono ?_; rintro e we ⟨rfl, hd6⟩; have HBe : Hid (Below w.heap.size w we) := Lib.hid (by obtain ⟨n6, rfl⟩ := hd6; exact below_drewN (HBVc.out.trans (HBd.out.mono HBVc.out.size)) n6); clear hd6)
    | fail)
   clear y0 y1 y2 y3 y4 y5 y6 y7 y8
   clear z0 z1 z2 z3 z4 z5 z6 z7 z8
   have HPC := HBe
  rotate_left
  focus
   have hGP2 := Lib.hid (hGP.out rfl)
   go_upto_region 17 with (first
    | (go_at_call 15; refine (hSB.out Vc (Below.refl _ _)).mono ?_; rintro e wd ⟨rfl, hbd⟩; have HBd := Lib.hid hbd; clear hbd)
    | (go_at_call 10; refine (sameTexts_t R N5 M5 n5 m5' wd ((RY5.out.below HBd.out (Nat.le_refl _)).more HBd.out.size) ((RZ5.out.below HBd.out (Nat.le_refl _)).more HBd.out.size) hsm.out.2.2).mono ?_; rintro e we ⟨rfl, hd6⟩; have HBce : Hid (Below Vc.heap.size Vc we) := Lib.hid (by obtain ⟨n6, rfl⟩ := hd6; exact below_drewN HBd.out n6); clear hd6; clear y0 y1 y2 y3 y4 y5 y6 y7 y8; have hUx := hY.out.later (KVc.out.trans (HBce.out.mono KVc.out.size)); have y0 := hUx.cell (i := 0) (by decide); have y1 := hUx.cell (i := 1) (by decide); have y2 := hUx.cell (i := 2) (by decide); have y3 := hUx.cell (i := 3) (by decide); have y4 := hUx.cell (i := 4) (by decide); have y5 := hUx.cell (i := 5) (by decide); have y6 := hUx.cell (i := 6) (by decide); have y7 := hUx.cell (i := 7) (by decide); have y8 := hUx.cell (i := 8) (by decide); clear hUx)
    | (go_at_call 16; refine (hGP2.out _ HBce.out).mono ?_; rintro e wf ⟨rfl, hbf⟩; have HBf : Hid (Below w.heap.size w wf) := Lib.hid (HBVc.out.trans ((HBce.out.trans (hbf.mono HBce.out.size)).mono HBVc.out.size)); clear hbf)
    | fail)
   clear y0 y1 y2 y3 y4 y5 y6 y7 y8
   clear z0 z1 z2 z3 z4 z5 z6 z7 z8
   have HPC := HBf
  all_goals
   skip
   go_upto_region 18 with (first | (go_at_call 17; refine (drawDoBand_any A' c' l' _ ((H'.out.below HPC.out (Nat.le_refl _)).more (HPC.out).size) Hb'.out hl' (HT.out.later HPC.out)).mono ?_; rintro e xa ⟨b2, kd, bl, yy, cl, rfl, hok, hba⟩; have HOB := Lib.hid hok; have HXa := Lib.hid ((HPC.out).trans (hba.mono (HPC.out).size)); clear hok hba) | fail)
   obtain ⟨Xa, hVe, hXb, hC2, hA2⟩ : ∃ V : World, Hid (((xa.alloc (.cells #[.string b2.m.name, .int .i64 b2.m.stage, .slice b2.m.A b2.m.x.length b2.m.c, .string b2.bob, .string b2.sing, .int .i64 b2.step, .string b2.call, .string b2.tru, .slice b2.RA b2.rx.length b2.rc] 36)).alloc (.cells #[.int .i64 kd, .int .i64 bl, .int .i64 yy, .string cl] 45)) = V) ∧ Hid (Below xa.heap.size xa V) ∧ Hid (Cells V xa.heap.size 9 (fun i => (#[Value.string b2.m.name, .int .i64 b2.m.stage, .slice b2.m.A b2.m.x.length b2.m.c, .string b2.bob, .string b2.sing, .int .i64 b2.step, .string b2.call, .string b2.tru, .slice b2.RA b2.rx.length b2.rc] : Array Value).getD i undef)) ∧ Hid (Cells V (xa.heap.size + 1) 4 (fun i => (#[Value.int .i64 kd, .int .i64 bl, .int .i64 yy, .string cl] : Array Value).getD i undef)) := by
    have z1 : xa.heap.size + 1 = (xa.alloc (.cells #[.string b2.m.name, .int .i64 b2.m.stage, .slice b2.m.A b2.m.x.length b2.m.c, .string b2.bob, .string b2.sing, .int .i64 b2.step, .string b2.call, .string b2.tru, .slice b2.RA b2.rx.length b2.rc] 36)).heap.size := by simp
    refine ⟨_, Lib.hid rfl, Lib.hid (((Below.refl _ _).alloc (Nat.le_refl _) _).alloc (by simp) _), Lib.hid ?_, Lib.hid ?_⟩
    ·exact (Cells.newD _ #[Value.string b2.m.name, .int .i64 b2.m.stage, .slice b2.m.A b2.m.x.length b2.m.c, .string b2.bob, .string b2.sing, .int .i64 b2.step, .string b2.call, .string b2.tru, .slice b2.RA b2.rx.length b2.rc] _).alloc _
    ·rw [z1]; exact Cells.newD _ #[Value.int .i64 kd, .int .i64 bl, .int .i64 yy, .string cl] _
   rw [hVe.out]
   clear hVe
   have HXV : Hid (Below w.heap.size w Xa) := Lib.hid (HXa.out.trans (hXb.out.mono HXa.out.size))
   have HOX : Hid (∀ W, Below Xa.heap.size Xa W → b2.Ok W) := Lib.hid fun W hb => HOB.out W ((Chg.of_below hXb.out).below hb)
   clear HOB
   obtain ⟨E2, hE2⟩ : ∃ D, Hid (doBD b2 kd bl yy cl = D) := ⟨_, Lib.hid rfl⟩
   have hsd : Hid (E2.1.x.length ≤ 1048576 ∧ E2.1.rx.length ≤ 1048576) := Lib.hid (by rw [← hE2.out]; exact doBD_small (HOX.out Xa (Below.refl _ _)).cl (HOX.out Xa (Below.refl _ _)).rl)
   obtain ⟨dd, okd⟩ := E2
   simp only at hsd
   obtain ⟨gb, hgb⟩ : ∃ gb, Hid (B (bandP b2) = gb) := ⟨_, Lib.hid rfl⟩
   have hIG : Hid (∀ W, Below Xa.heap.size Xa W → Calls Tryz.prog 16 #[.agg #[.string b2.m.name, .int .i64 b2.m.stage, .slice b2.m.A b2.m.x.length b2.m.c, .string b2.bob, .string b2.sing, .int .i64 b2.step, .string b2.call, .string b2.tru, .slice b2.RA b2.rx.length b2.rc]] W fun e w' => e = .returned (.bool gb) ∧ Below W.heap.size W w') := Lib.hid fun W hb => by
    have := iBand_any b2 W (HOX.out W hb); rw [hgb.out] at this; exact this
   have hSG : Hid (∀ W, Below Xa.heap.size Xa W → Calls Tryz.prog 23 #[.agg #[.string b2.m.name, .int .i64 b2.m.stage, .slice b2.m.A b2.m.x.length b2.m.c, .string b2.bob, .string b2.sing, .int .i64 b2.step, .string b2.call, .string b2.tru, .slice b2.RA b2.rx.length b2.rc]] W fun e w' => e = .returned (.bool gb) ∧ Below W.heap.size W w') := Lib.hid fun W hb => by
    have := sBand_any b2 W (HOX.out W hb); rw [hgb.out] at this; exact this
   have hID : Hid (∀ W, Below Xa.heap.size Xa W → Calls Tryz.prog 18 #[.agg #[.string b2.m.name, .int .i64 b2.m.stage, .slice b2.m.A b2.m.x.length b2.m.c, .string b2.bob, .string b2.sing, .int .i64 b2.step, .string b2.call, .string b2.tru, .slice b2.RA b2.rx.length b2.rc], .agg #[.int .i64 kd, .int .i64 bl, .int .i64 yy, .string cl]] W fun e w' => ∃ A1 c1 A3 c3, e = .returned (.tuple #[.agg #[.string dd.name, .int .i64 dd.stage, .slice A1 dd.x.length c1, .string dd.bob, .string dd.sing, .int .i64 dd.step, .string dd.call, .string dd.tru, .slice A3 dd.rx.length c3], .bool okd]) ∧ RdL w' w'.heap.size A1 1 encString dd.x ∧ RdL w' w'.heap.size A3 2 Rgr.enc dd.rx ∧ Below W.heap.size W w') := Lib.hid fun W hb => bdret_of hE2.out (iDoBand_any b2 kd bl yy cl W (HOX.out W hb))
   have hSD : Hid (∀ W, Below Xa.heap.size Xa W → Calls Tryz.prog 19 #[.agg #[.string b2.m.name, .int .i64 b2.m.stage, .slice b2.m.A b2.m.x.length b2.m.c, .string b2.bob, .string b2.sing, .int .i64 b2.step, .string b2.call, .string b2.tru, .slice b2.RA b2.rx.length b2.rc], .agg #[.int .i64 kd, .int .i64 bl, .int .i64 yy, .string cl]] W fun e w' => ∃ A1 c1 A3 c3, e = .returned (.tuple #[.agg #[.string dd.name, .int .i64 dd.stage, .slice A1 dd.x.length c1, .string dd.bob, .string dd.sing, .int .i64 dd.step, .string dd.call, .string dd.tru, .slice A3 dd.rx.length c3], .bool okd]) ∧ RdL w' w'.heap.size A1 1 encString dd.x ∧ RdL w' w'.heap.size A3 2 Rgr.enc dd.rx ∧ Below W.heap.size W w') := Lib.hid fun W hb => bdret_of hE2.out (sDoBand_any b2 kd bl yy cl W (HOX.out W hb))
   have hUx := hC2.out; have u0 := hUx.cell (i := 0) (by decide); have u1 := hUx.cell (i := 1) (by decide); have u2 := hUx.cell (i := 2) (by decide); have u3 := hUx.cell (i := 3) (by decide); have u4 := hUx.cell (i := 4) (by decide); have u5 := hUx.cell (i := 5) (by decide); have u6 := hUx.cell (i := 6) (by decide); have u7 := hUx.cell (i := 7) (by decide); have u8 := hUx.cell (i := 8) (by decide); clear hUx
   have hUx := hA2.out; have a0 := hUx.cell (i := 0) (by decide); have a1 := hUx.cell (i := 1) (by decide); have a2 := hUx.cell (i := 2) (by decide); have a3 := hUx.cell (i := 3) (by decide); clear hUx
   go_upto_region 19 with (first | (go_at_call 18; refine (hID.out Xa (Below.refl _ _)).mono ?_; rintro e xb ⟨P1, p1, P3, p3, rfl, hn1, hn3, hbb⟩; have HP1 := Lib.hid hn1; have HP3 := Lib.hid hn3; have HXb := Lib.hid hbb; clear hn1 hn3 hbb) | fail)
   clear u0 u1 u2 u3 u4 u5 u6 u7 u8
   clear a0 a1 a2 a3
   obtain ⟨Xb, hVe, hXbb, hP⟩ : ∃ V : World, Hid (xb.alloc (.cells #[Value.string dd.name, .int .i64 dd.stage, .slice P1 dd.x.length p1, .string dd.bob, .string dd.sing, .int .i64 dd.step, .string dd.call, .string dd.tru, .slice P3 dd.rx.length p3] 36) = V) ∧ Hid (Below xb.heap.size xb V) ∧ Hid (Cells V xb.heap.size 9 (fun i => (#[Value.string dd.name, .int .i64 dd.stage, .slice P1 dd.x.length p1, .string dd.bob, .string dd.sing, .int .i64 dd.step, .string dd.call, .string dd.tru, .slice P3 dd.rx.length p3] : Array Value).getD i undef)) := ⟨_, Lib.hid rfl, Lib.hid ((Below.refl _ _).alloc (Nat.le_refl _) _), Lib.hid (Cells.newD _ #[Value.string dd.name, .int .i64 dd.stage, .slice P1 dd.x.length p1, .string dd.bob, .string dd.sing, .int .i64 dd.step, .string dd.call, .string dd.tru, .slice P3 dd.rx.length p3] _)⟩
   rw [hVe.out]
   clear hVe
   have KXb : Hid (Below Xa.heap.size Xa Xb) := Lib.hid (HXb.out.trans (hXbb.out.mono HXb.out.size))
   have hUx := hC2.out.later KXb.out; have u0 := hUx.cell (i := 0) (by decide); have u1 := hUx.cell (i := 1) (by decide); have u2 := hUx.cell (i := 2) (by decide); have u3 := hUx.cell (i := 3) (by decide); have u4 := hUx.cell (i := 4) (by decide); have u5 := hUx.cell (i := 5) (by decide); have u6 := hUx.cell (i := 6) (by decide); have u7 := hUx.cell (i := 7) (by decide); have u8 := hUx.cell (i := 8) (by decide); clear hUx
   have hUx := hA2.out.later KXb.out; have a0 := hUx.cell (i := 0) (by decide); have a1 := hUx.cell (i := 1) (by decide); have a2 := hUx.cell (i := 2) (by decide); have a3 := hUx.cell (i := 3) (by decide); clear hUx
   go_upto_region 20 with (first | (go_at_call 19; refine (hSD.out Xb KXb.out).mono ?_; rintro e xc ⟨Q1, q1, Q3, q3, rfl, hn1, hn3, hbb⟩; have HQ1 := Lib.hid hn1; have HQ3 := Lib.hid hn3; have HXc := Lib.hid hbb; clear hn1 hn3 hbb) | fail)
   clear u0 u1 u2 u3 u4 u5 u6 u7 u8
   clear a0 a1 a2 a3
   obtain ⟨Xc, hVe, hXcb, hQ⟩ : ∃ V : World, Hid (xc.alloc (.cells #[Value.string dd.name, .int .i64 dd.stage, .slice Q1 dd.x.length q1, .string dd.bob, .string dd.sing, .int .i64 dd.step, .string dd.call, .string dd.tru, .slice Q3 dd.rx.length q3] 36) = V) ∧ Hid (Below xc.heap.size xc V) ∧ Hid (Cells V xc.heap.size 9 (fun i => (#[Value.string dd.name, .int .i64 dd.stage, .slice Q1 dd.x.length q1, .string dd.bob, .string dd.sing, .int .i64 dd.step, .string dd.call, .string dd.tru, .slice Q3 dd.rx.length q3] : Array Value).getD i undef)) := ⟨_, Lib.hid rfl, Lib.hid ((Below.refl _ _).alloc (Nat.le_refl _) _), Lib.hid (Cells.newD _ #[Value.string dd.name, .int .i64 dd.stage, .slice Q1 dd.x.length q1, .string dd.bob, .string dd.sing, .int .i64 dd.step, .string dd.call, .string dd.tru, .slice Q3 dd.rx.length q3] _)⟩
   rw [hVe.out]
   clear hVe
   have KXbc : Hid (Below Xb.heap.size Xb Xc) := Lib.hid (HXc.out.trans (hXcb.out.mono HXc.out.size))
   have KXc : Hid (Below Xa.heap.size Xa Xc) := Lib.hid (KXb.out.trans (KXbc.out.mono KXb.out.size))
   have HXVc : Hid (Below w.heap.size w Xc) := Lib.hid (HXV.out.trans (KXc.out.mono HXV.out.size))
   go_upto_region 21 with (first | (go_at_call 20; refine (drawStepBand_any A' c' l' _ ((H'.out.below HXVc.out (Nat.le_refl _)).more HXVc.out.size) Hb'.out hl' (HT.out.later HXVc.out)).mono ?_; rintro e xd ⟨b3, rfl, hok, hba⟩; have HOC := Lib.hid hok; have HXd := Lib.hid hba; clear hok hba) | fail)
   obtain ⟨Xd, hVe, hXdb, hC3⟩ : ∃ V : World, Hid (xd.alloc (.cells #[.string b3.m.name, .int .i64 b3.m.stage, .slice b3.m.A b3.m.x.length b3.m.c, .string b3.bob, .string b3.sing, .int .i64 b3.step, .string b3.call, .string b3.tru, .slice b3.RA b3.rx.length b3.rc] 36) = V) ∧ Hid (Below xd.heap.size xd V) ∧ Hid (Cells V xd.heap.size 9 (fun i => (#[Value.string b3.m.name, .int .i64 b3.m.stage, .slice b3.m.A b3.m.x.length b3.m.c, .string b3.bob, .string b3.sing, .int .i64 b3.step, .string b3.call, .string b3.tru, .slice b3.RA b3.rx.length b3.rc] : Array Value).getD i undef)) := ⟨_, Lib.hid rfl, Lib.hid ((Below.refl _ _).alloc (Nat.le_refl _) _), Lib.hid (Cells.newD _ #[Value.string b3.m.name, .int .i64 b3.m.stage, .slice b3.m.A b3.m.x.length b3.m.c, .string b3.bob, .string b3.sing, .int .i64 b3.step, .string b3.call, .string b3.tru, .slice b3.RA b3.rx.length b3.rc] _)⟩
   rw [hVe.out]
   clear hVe
   have KXcd : Hid (Below Xc.heap.size Xc Xd) := Lib.hid (HXd.out.trans (hXdb.out.mono HXd.out.size))
   have HOX3 : Hid (∀ W, Below Xd.heap.size Xd W → b3.Ok W) := Lib.hid fun W hb => HOC.out W ((Chg.of_below hXdb.out).below hb)
   clear HOC
   obtain ⟨E3, hE3⟩ : ∃ D, Hid (stepBD b3 = D) := ⟨_, Lib.hid rfl⟩
   have hse : Hid (E3.1.x.length ≤ 1048576 ∧ E3.1.rx.length ≤ 1048576) := Lib.hid (by rw [← hE3.out]; exact stepBD_small (HOX3.out Xd (Below.refl _ _)).cl (HOX3.out Xd (Below.refl _ _)).rl)
   obtain ⟨ds, oks⟩ := E3
   simp only at hse
   have hIS : Hid (∀ W, Below Xd.heap.size Xd W → Calls Tryz.prog 21 #[.agg #[.string b3.m.name, .int .i64 b3.m.stage, .slice b3.m.A b3.m.x.length b3.m.c, .string b3.bob, .string b3.sing, .int .i64 b3.step, .string b3.call, .string b3.tru, .slice b3.RA b3.rx.length b3.rc]] W fun e w' => ∃ A1 c1 A3 c3, e = .returned (.tuple #[.agg #[.string ds.name, .int .i64 ds.stage, .slice A1 ds.x.length c1, .string ds.bob, .string ds.sing, .int .i64 ds.step, .string ds.call, .string ds.tru, .slice A3 ds.rx.length c3], .bool oks]) ∧ RdL w' w'.heap.size A1 1 encString ds.x ∧ RdL w' w'.heap.size A3 2 Rgr.enc ds.rx ∧ Below W.heap.size W w') := Lib.hid fun W hb => bdret_of hE3.out (iStepBand_any b3 W (HOX3.out W hb))
   have hSS : Hid (∀ W, Below Xd.heap.size Xd W → Calls Tryz.prog 22 #[.agg #[.string b3.m.name, .int .i64 b3.m.stage, .slice b3.m.A b3.m.x.length b3.m.c, .string b3.bob, .string b3.sing, .int .i64 b3.step, .string b3.call, .string b3.tru, .slice b3.RA b3.rx.length b3.rc]] W fun e w' => ∃ A1 c1 A3 c3, e = .returned (.tuple #[.agg #[.string ds.name, .int .i64 ds.stage, .slice A1 ds.x.length c1, .string ds.bob, .string ds.sing, .int .i64 ds.step, .string ds.call, .string ds.tru, .slice A3 ds.rx.length c3], .bool oks]) ∧ RdL w' w'.heap.size A1 1 encString ds.x ∧ RdL w' w'.heap.size A3 2 Rgr.enc ds.rx ∧ Below W.heap.size W w') := Lib.hid fun W hb => bdret_of hE3.out (sStepBand_any b3 W (HOX3.out W hb))
   have hUx := hC3.out; have v0 := hUx.cell (i := 0) (by decide); have v1 := hUx.cell (i := 1) (by decide); have v2 := hUx.cell (i := 2) (by decide); have v3 := hUx.cell (i := 3) (by decide); have v4 := hUx.cell (i := 4) (by decide); have v5 := hUx.cell (i := 5) (by decide); have v6 := hUx.cell (i := 6) (by decide); have v7 := hUx.cell (i := 7) (by decide); have v8 := hUx.cell (i := 8) (by decide); clear hUx
   go_upto_region 22 with (first | (go_at_call 21; refine (hIS.out Xd (Below.refl _ _)).mono ?_; rintro e xe ⟨S1, s1, S3, s3, rfl, hn1, hn3, hbb⟩; have HS1 := Lib.hid hn1; have HS3 := Lib.hid hn3; have HXe := Lib.hid hbb; clear hn1 hn3 hbb) | fail)
   clear v0 v1 v2 v3 v4 v5 v6 v7 v8
   obtain ⟨Xe, hVe, hXeb, hS⟩ : ∃ V : World, Hid (xe.alloc (.cells #[Value.string ds.name, .int .i64 ds.stage, .slice S1 ds.x.length s1, .string ds.bob, .string ds.sing, .int .i64 ds.step, .string ds.call, .string ds.tru, .slice S3 ds.rx.length s3] 36) = V) ∧ Hid (Below xe.heap.size xe V) ∧ Hid (Cells V xe.heap.size 9 (fun i => (#[Value.string ds.name, .int .i64 ds.stage, .slice S1 ds.x.length s1, .string ds.bob, .string ds.sing, .int .i64 ds.step, .string ds.call, .string ds.tru, .slice S3 ds.rx.length s3] : Array Value).getD i undef)) := ⟨_, Lib.hid rfl, Lib.hid ((Below.refl _ _).alloc (Nat.le_refl _) _), Lib.hid (Cells.newD _ #[Value.string ds.name, .int .i64 ds.stage, .slice S1 ds.x.length s1, .string ds.bob, .string ds.sing, .int .i64 ds.step, .string ds.call, .string ds.tru, .slice S3 ds.rx.length s3] _)⟩
   rw [hVe.out]
   clear hVe
   have KXde : Hid (Below Xd.heap.size Xd Xe) := Lib.hid (HXe.out.trans (hXeb.out.mono HXe.out.size))
   have hUx := hC3.out.later KXde.out; have v0 := hUx.cell (i := 0) (by decide); have v1 := hUx.cell (i := 1) (by decide); have v2 := hUx.cell (i := 2) (by decide); have v3 := hUx.cell (i := 3) (by decide); have v4 := hUx.cell (i := 4) (by decide); have v5 := hUx.cell (i := 5) (by decide); have v6 := hUx.cell (i := 6) (by decide); have v7 := hUx.cell (i := 7) (by decide); have v8 := hUx.cell (i := 8) (by decide); clear hUx
   go_upto_region 23 with (first | (go_at_call 22; refine (hSS.out Xe KXde.out).mono ?_; rintro e xf ⟨T1, t1, T3, t3, rfl, hn1, hn3, hbb⟩; have HT1 := Lib.hid hn1; have HT3 := Lib.hid hn3; have HXf := Lib.hid hbb; clear hn1 hn3 hbb) | fail)
   clear v0 v1 v2 v3 v4 v5 v6 v7 v8
   obtain ⟨Xf, hVe, hXfb, hTT⟩ : ∃ V : World, Hid (xf.alloc (.cells #[Value.string ds.name, .int .i64 ds.stage, .slice T1 ds.x.length t1, .string ds.bob, .string ds.sing, .int .i64 ds.step, .string ds.call, .string ds.tru, .slice T3 ds.rx.length t3] 36) = V) ∧ Hid (Below xf.heap.size xf V) ∧ Hid (Cells V xf.heap.size 9 (fun i => (#[Value.string ds.name, .int .i64 ds.stage, .slice T1 ds.x.length t1, .string ds.bob, .string ds.sing, .int .i64 ds.step, .string ds.call, .string ds.tru, .slice T3 ds.rx.length t3] : Array Value).getD i undef)) := ⟨_, Lib.hid rfl, Lib.hid ((Below.refl _ _).alloc (Nat.le_refl _) _), Lib.hid (Cells.newD _ #[Value.string ds.name, .int .i64 ds.stage, .slice T1 ds.x.length t1, .string ds.bob, .string ds.sing, .int .i64 ds.step, .string ds.call, .string ds.tru, .slice T3 ds.rx.length t3] _)⟩
   rw [hVe.out]
   clear hVe
   have KXef : Hid (Below Xe.heap.size Xe Xf) := Lib.hid (HXf.out.trans (hXfb.out.mono HXf.out.size))
   have KXdf : Hid (Below Xd.heap.size Xd Xf) := Lib.hid (KXde.out.trans (KXef.out.mono KXde.out.size))
   have KXcf : Hid (Below Xc.heap.size Xc Xf) := Lib.hid (KXcd.out.trans (KXdf.out.mono KXcd.out.size))
   have KXbf : Hid (Below Xb.heap.size Xb Xf) := Lib.hid (KXbc.out.trans (KXcf.out.mono KXbc.out.size))
   have KXaf : Hid (Below Xa.heap.size Xa Xf) := Lib.hid (KXb.out.trans (KXbf.out.mono KXb.out.size))
   have HXF : Hid (Below w.heap.size w Xf) := Lib.hid (HXV.out.trans (KXaf.out.mono HXV.out.size))
   have RP1 := Lib.hid ((HP1.out.below (hXbb.out.trans (KXbf.out.mono hXbb.out.size)) (Nat.le_refl _)).more (hXbb.out.trans (KXbf.out.mono hXbb.out.size)).size)
   have RP3 := Lib.hid ((HP3.out.below (hXbb.out.trans (KXbf.out.mono hXbb.out.size)) (Nat.le_refl _)).more (hXbb.out.trans (KXbf.out.mono hXbb.out.size)).size)
   have RQ1 := Lib.hid ((HQ1.out.below (hXcb.out.trans (KXcf.out.mono hXcb.out.size)) (Nat.le_refl _)).more (hXcb.out.trans (KXcf.out.mono hXcb.out.size)).size)
   have RQ3 := Lib.hid ((HQ3.out.below (hXcb.out.trans (KXcf.out.mono hXcb.out.size)) (Nat.le_refl _)).more (hXcb.out.trans (KXcf.out.mono hXcb.out.size)).size)
   have RS1 := Lib.hid ((HS1.out.below (hXeb.out.trans (KXef.out.mono hXeb.out.size)) (Nat.le_refl _)).more (hXeb.out.trans (KXef.out.mono hXeb.out.size)).size)
   have RS3 := Lib.hid ((HS3.out.below (hXeb.out.trans (KXef.out.mono hXeb.out.size)) (Nat.le_refl _)).more (hXeb.out.trans (KXef.out.mono hXeb.out.size)).size)
   have RT1 := Lib.hid ((HT1.out.below hXfb.out (Nat.le_refl _)).more hXfb.out.size)
   have RT3 := Lib.hid ((HT3.out.below hXfb.out (Nat.le_refl _)).more hXfb.out.size)
   have hSBD : Hid (∀ W, Below Xf.heap.size Xf W → Calls Tryz.prog 15 #[.agg #[.string dd.name, .int .i64 dd.stage, .slice P1 dd.x.length p1, .string dd.bob, .string dd.sing, .int .i64 dd.step, .string dd.call, .string dd.tru, .slice P3 dd.rx.length p3], .agg #[.string dd.name, .int .i64 dd.stage, .slice Q1 dd.x.length q1, .string dd.bob, .string dd.sing, .int .i64 dd.step, .string dd.call, .string dd.tru, .slice Q3 dd.rx.length q3]] W fun e w' => e = .returned (.bool true) ∧ Below W.heap.size W w') := Lib.hid fun W hb => sameBand_t dd P1 p1 P3 p3 Q1 q1 Q3 q3 W ((RP1.out.below hb (Nat.le_refl _)).more hb.size) ((RQ1.out.below hb (Nat.le_refl _)).more hb.size) ((RP3.out.below hb (Nat.le_refl _)).more hb.size) ((RQ3.out.below hb (Nat.le_refl _)).more hb.size) hsd.out.1 hsd.out.2
   have hSBS : Hid (∀ W, Below Xf.heap.size Xf W → Calls Tryz.prog 15 #[.agg #[.string ds.name, .int .i64 ds.stage, .slice S1 ds.x.length s1, .string ds.bob, .string ds.sing, .int .i64 ds.step, .string ds.call, .string ds.tru, .slice S3 ds.rx.length s3], .agg #[.string ds.name, .int .i64 ds.stage, .slice T1 ds.x.length t1, .string ds.bob, .string ds.sing, .int .i64 ds.step, .string ds.call, .string ds.tru, .slice T3 ds.rx.length t3]] W fun e w' => e = .returned (.bool true) ∧ Below W.heap.size W w') := Lib.hid fun W hb => sameBand_t ds S1 s1 S3 s3 T1 t1 T3 t3 W ((RS1.out.below hb (Nat.le_refl _)).more hb.size) ((RT1.out.below hb (Nat.le_refl _)).more hb.size) ((RS3.out.below hb (Nat.le_refl _)).more hb.size) ((RT3.out.below hb (Nat.le_refl _)).more hb.size) hse.out.1 hse.out.2
   have hIGf : Hid (∀ W, Below Xf.heap.size Xf W → Calls Tryz.prog 16 #[.agg #[.string b2.m.name, .int .i64 b2.m.stage, .slice b2.m.A b2.m.x.length b2.m.c, .string b2.bob, .string b2.sing, .int .i64 b2.step, .string b2.call, .string b2.tru, .slice b2.RA b2.rx.length b2.rc]] W fun e w' => e = .returned (.bool gb) ∧ Below W.heap.size W w') := Lib.hid fun W hb => hIG.out W (KXaf.out.trans (hb.mono KXaf.out.size))
   have hSGf : Hid (∀ W, Below Xf.heap.size Xf W → Calls Tryz.prog 23 #[.agg #[.string b2.m.name, .int .i64 b2.m.stage, .slice b2.m.A b2.m.x.length b2.m.c, .string b2.bob, .string b2.sing, .int .i64 b2.step, .string b2.call, .string b2.tru, .slice b2.RA b2.rx.length b2.rc]] W fun e w' => e = .returned (.bool gb) ∧ Below W.heap.size W w') := Lib.hid fun W hb => hSG.out W (KXaf.out.trans (hb.mono KXaf.out.size))
   clear hIG hSG hID hSD hIS hSS HP1 HP3 HQ1 HQ3 HS1 HS3 HT1 HT3
   have h1 : (okd == okd) = true := by simp
   have h2 : (oks == oks) = true := by simp
   have h3 : (gb == gb) = true := by simp
   have hUx := hP.out.later KXbf.out; have x0 := hUx.cell (i := 0) (by decide); have x1 := hUx.cell (i := 1) (by decide); have x2 := hUx.cell (i := 2) (by decide); have x3 := hUx.cell (i := 3) (by decide); have x4 := hUx.cell (i := 4) (by decide); have x5 := hUx.cell (i := 5) (by decide); have x6 := hUx.cell (i := 6) (by decide); have x7 := hUx.cell (i := 7) (by decide); have x8 := hUx.cell (i := 8) (by decide); clear hUx
   have hUx := hQ.out.later KXcf.out; have y0 := hUx.cell (i := 0) (by decide); have y1 := hUx.cell (i := 1) (by decide); have y2 := hUx.cell (i := 2) (by decide); have y3 := hUx.cell (i := 3) (by decide); have y4 := hUx.cell (i := 4) (by decide); have y5 := hUx.cell (i := 5) (by decide); have y6 := hUx.cell (i := 6) (by decide); have y7 := hUx.cell (i := 7) (by decide); have y8 := hUx.cell (i := 8) (by decide); clear hUx
   have hUx := hC2.out.later KXaf.out; have u0 := hUx.cell (i := 0) (by decide); have u1 := hUx.cell (i := 1) (by decide); have u2 := hUx.cell (i := 2) (by decide); have u3 := hUx.cell (i := 3) (by decide); have u4 := hUx.cell (i := 4) (by decide); have u5 := hUx.cell (i := 5) (by decide); have u6 := hUx.cell (i := 6) (by decide); have u7 := hUx.cell (i := 7) (by decide); have u8 := hUx.cell (i := 8) (by decide); clear hUx
   have hUx := hS.out.later KXef.out; have z0 := hUx.cell (i := 0) (by decide); have z1 := hUx.cell (i := 1) (by decide); have z2 := hUx.cell (i := 2) (by decide); have z3 := hUx.cell (i := 3) (by decide); have z4 := hUx.cell (i := 4) (by decide); have z5 := hUx.cell (i := 5) (by decide); have z6 := hUx.cell (i := 6) (by decide); have z7 := hUx.cell (i := 7) (by decide); have z8 := hUx.cell (i := 8) (by decide); clear hUx
   have hUx := hTT.out; have v0 := hUx.cell (i := 0) (by decide); have v1 := hUx.cell (i := 1) (by decide); have v2 := hUx.cell (i := 2) (by decide); have v3 := hUx.cell (i := 3) (by decide); have v4 := hUx.cell (i := 4) (by decide); have v5 := hUx.cell (i := 5) (by decide); have v6 := hUx.cell (i := 6) (by decide); have v7 := hUx.cell (i := 7) (by decide); have v8 := hUx.cell (i := 8) (by decide); clear hUx
   skip
   have hlt_ := (hP.out.later KXbf.out).lt; have xL0 := Later.cell x0 hlt_; have xL1 := Later.cell x1 hlt_; have xL2 := Later.cell x2 hlt_; have xL3 := Later.cell x3 hlt_; have xL4 := Later.cell x4 hlt_; have xL5 := Later.cell x5 hlt_; have xL6 := Later.cell x6 hlt_; have xL7 := Later.cell x7 hlt_; have xL8 := Later.cell x8 hlt_; clear hlt_ x0 x1 x2 x3 x4 x5 x6 x7 x8
   have hlt_ := (hQ.out.later KXcf.out).lt; have yL0 := Later.cell y0 hlt_; have yL1 := Later.cell y1 hlt_; have yL2 := Later.cell y2 hlt_; have yL3 := Later.cell y3 hlt_; have yL4 := Later.cell y4 hlt_; have yL5 := Later.cell y5 hlt_; have yL6 := Later.cell y6 hlt_; have yL7 := Later.cell y7 hlt_; have yL8 := Later.cell y8 hlt_; clear hlt_ y0 y1 y2 y3 y4 y5 y6 y7 y8
   have hlt_ := (hC2.out.later KXaf.out).lt; have uL0 := Later.cell u0 hlt_; have uL1 := Later.cell u1 hlt_; have uL2 := Later.cell u2 hlt_; have uL3 := Later.cell u3 hlt_; have uL4 := Later.cell u4 hlt_; have uL5 := Later.cell u5 hlt_; have uL6 := Later.cell u6 hlt_; have uL7 := Later.cell u7 hlt_; have uL8 := Later.cell u8 hlt_; clear hlt_ u0 u1 u2 u3 u4 u5 u6 u7 u8
   have hlt_ := (hS.out.later KXef.out).lt; have zL0 := Later.cell z0 hlt_; have zL1 := Later.cell z1 hlt_; have zL2 := Later.cell z2 hlt_; have zL3 := Later.cell z3 hlt_; have zL4 := Later.cell z4 hlt_; have zL5 := Later.cell z5 hlt_; have zL6 := Later.cell z6 hlt_; have zL7 := Later.cell z7 hlt_; have zL8 := Later.cell z8 hlt_; clear hlt_ z0 z1 z2 z3 z4 z5 z6 z7 z8
   have hlt_ := (hTT.out).lt; have vL0 := Later.cell v0 hlt_; have vL1 := Later.cell v1 hlt_; have vL2 := Later.cell v2 hlt_; have vL3 := Later.cell v3 hlt_; have vL4 := Later.cell v4 hlt_; have vL5 := Later.cell v5 hlt_; have vL6 := Later.cell v6 hlt_; have vL7 := Later.cell v7 hlt_; have vL8 := Later.cell v8 hlt_; clear hlt_ v0 v1 v2 v3 v4 v5 v6 v7 v8
   (refine wp_region_later (by kernel_rfl) (by kernel_rfl) ?_; (repeat (go_big_quiet_step ((first | (go_at_call 15; with_reducible show Calls _ _ #[Value.agg #[Value.string dd.name, _, _, _, _, _, _, _, _], _] _ _; exact Later.call (hSBD.out _ (Later.hb _))) | (go_at_call 15; with_reducible show Calls _ _ #[Value.agg #[Value.string ds.name, _, _, _, _, _, _, _, _], _] _ _; exact Later.call (hSBS.out _ (Later.hb _))) | (go_at_call 16; exact Later.call (hIGf.out _ (Later.hb _))) | (go_at_call 23; exact Later.call (hSGf.out _ (Later.hb _))))))); refine wpQuiet_nil ?_; intro _ hw'; obtain ⟨y, hw''⟩ := hw'; subst hw'')
   go_wp2
   go_ret
   exact ⟨by simp, HXF.out.trans (y.hb.mono HXF.out.size)⟩
namespace fnBands
open Go.ChangeShapes Go.WideShapes Go.ChangeAt Go.RowKit Go.Deep
open Go.ChangeMaps (open_string shut_string)
theorem own : ownKnob Tryz.prog.godebug = none := by kernel_rfl
theorem laid : laidOutB Tryz.prog = true := by kernel_rfl
theorem reads : Tryz.f3.params.toList.all (fun t => Tryz.prog.readableRec t && decide (t < Tryz.prog.types.size)) = true := by kernel_rfl
theorem door_met (os : Os) (args : Array Value) : laidMetH Tryz.prog Rows.fnBandsRow.laid ((World.doorLaid Tryz.prog 400 os).forCall (fun _ _ => 0) ⟨#[], args, []⟩).memory :=
 laidMetH_of_parts3 (fuel := 8) (laidMet_of_run' 8 (by kernel_rfl) (by kernel_rfl)) (by kernel_rfl) (by kernel_rfl)
set_option maxRecDepth 100000 in
theorem lifted (os : Os) (started : os.Started) (H : Type) (enc : TypeId × Value → H) :
  ReturnsInHanded {} Tryz.checked os 3 .any (fun w args => (Rows.fnBandsSpec.pre enc Tryz.prog Tryz.f3 [] false w args ∧ laidMetH Tryz.prog Rows.fnBandsRow.laid w) ∧ sizedMet enc Tryz.prog Tryz.f3 (OpenSpec.ofChange Rows.fnBandsSpec) false w args) (Rows.fnBandsSpec.post enc Tryz.prog Tryz.f3 false true false false) := by
 refine returnsInHanded_of_change_and (C := Tryz.checked) (X := fun w _ => laidMetH Tryz.prog Rows.fnBandsRow.laid w) (fun _ _ _ hh h => h.of_heap hh) own started (by kernel_rfl) Tryz.func3
  (ChangeSpec.witness_shaped (enc := enc) (C := Tryz.checked) (os := os) (X := fun w _ => laidMetH Tryz.prog Rows.fnBandsRow.laid w) false (World.doorLaid Tryz.prog 400 os) #[.slice none 0 0, .slice none 0 0] 8 rfl (World.shaped_of_RefB (by kernel_rfl) (by kernel_rfl)) (by kernel_rfl) (by kernel_rfl) (by kernel_rfl) (door_met os _)) ?_
 intro W base args ds gs before hval0 hW _ _ hL _
 have htabW : Tab W := tab_of (by rw [MakeChecks.laidMetH_plain _ _ _ (by kernel_rfl)] at hL; exact hL)
 have hval : ∀ (j : Nat) t v, Tryz.f3.params[j]? = some t → args[j]? = some v → Value.okWide Tryz.prog W .any base t v := hval0
 have hW' := hW
 obtain ⟨p, q, hA0, hV, rfl, hfz, hnd⟩ := hW
 have hA : DataW.TrodAll enc Tryz.prog W 0 (fun _ => true) true Tryz.f3.params.toList args.toList ds p := hA0
 rw [Tryz.params3] at hA hval
 obtain ⟨rfl, rfl⟩ := trodVars_none hV
 have hlt : ∀ x ∈ p, x.block < W.heap.size := fun x hx => by simpa using hW'.lt x (List.mem_append.2 (.inl hx))
 clear hA0 hval0
 obtain ⟨v0, vs0, d0, ds0, p0, q0, hargs, rfl, rfl, h0, r0⟩ := trodAll_cons hA
 obtain ⟨v1, vs1, d1, ds1, p1, q1, rfl, rfl, rfl, h1, r1⟩ := trodAll_cons r0
 obtain ⟨rfl, rfl, rfl⟩ := trodAll_nil r1
 obtain rfl : args = #[v0, v1] := by cases args; simp_all
 clear hargs
 obtain ⟨A0, a0, c0, rfl, y0, x0, z0⟩ := open_list Tryz.underlying22 1 (by kernel_rfl) (by omega) encByte _ Byte_el (hval 0 22 v0 rfl rfl) h0
 obtain ⟨A1, a1, c1, rfl, y1, x1, z1⟩ := open_list Tryz.underlying22 1 (by kernel_rfl) (by omega) encByte _ Byte_el (hval 1 22 v1 rfl rfl) h1
 refine (bandsLaw W a0 A0 c0 x0 (by unfold maxLen at y0; omega) z0 a1 A1 c1 x1 (by unfold maxLen at y1; omega) z1 htabW).mono fun e W' ⟨he, hg⟩ => ?_
 subst he
 exact ⟨_, rfl, law_post laid reads rfl Tryz.underlying4 rfl rfl hW' hg⟩
theorem over : Rows.fnBandsRow.holds Tryz.pinned (OpenSpec.ofChange Rows.fnBandsSpec) :=
 OpenClaim.holds_of_wide 3 Tryz.f3 rfl rfl rfl rfl rfl rfl rfl ⟨rfl, rfl, rfl, rfl, rfl⟩ rfl rfl rfl rfl rfl (by kernel_rfl) Tryz.func3 facts
  (of_decide_eq_true (by kernel_rfl)) (by unfold Func.isWrapper; first | (rw [if_pos (by decide +kernel)]; kernel_rfl) | (rw [if_neg (by decide +kernel)]; exact ⟨rfl, rfl⟩))
  (fun os started H enc _ => lifted os started H enc)
theorem proved : Rows.FnBandsCardSaid :=
 Claim7.holds_tied_plain_at .later [] [.data, .data, .data] true (true, "c9dff07b3bdef47f20fb2973a65faf6ce1f9196787a7a18bb3eee8ad2dabd9d8") false
  over (fun _ h => by cases h) (by kernel_rfl) (fun _ h => by cases h) fnBands_row_tie rfl ⟨rfl, rfl⟩ (by kernel_rfl) rfl
  (fun f fn hf hfn => by
   obtain rfl : f = 3 := Option.some.inj ((show Tryz.prog.funcNamed "loop.example/g00894/laws.FnBands" = some 3 by kernel_rfl).symm.trans hf) |>.symm
   obtain rfl : fn = Tryz.f3 := (Option.some.inj (Tryz.func3.symm.trans hfn)).symm
   exact ⟨by kernel_rfl, fun j t ht => by
    have hm : t ∈ Tryz.f3.params.toList := Array.mem_toList_iff.2 (Array.mem_of_getElem? ht)
    have hall : (Tryz.f3.params.toList.all fun u => !Tryz.prog.wantsStandIn u) = true := by kernel_rfl
    exact (show Tryz.prog.wantsStandIn t = false by simpa using List.all_eq_true.1 hall t hm)⟩)
  (by kernel_rfl)
end fnBands
end Go.Proofs.YtkegbbndmfnolaaGreatDoor
