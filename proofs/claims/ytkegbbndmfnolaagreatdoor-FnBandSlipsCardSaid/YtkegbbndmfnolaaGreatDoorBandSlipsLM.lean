import Derived.Test.YtkegbbndmfnolaaGreatDoorMBandSlipsL30
import Derived.Test.YtkegbbndmfnolaaGreatDoorMBandSlipsL31
import Derived.Test.YtkegbbndmfnolaaGreatDoorMBandSlipsL24
import Derived.Test.YtkegbbndmfnolaaGreatDoorMBandSlipsL17
import Derived.Test.YtkegbbndmfnolaaGreatDoorMBandSlipsL32
import Derived.Test.YtkegbbndmfnolaaGreatDoorMBandSlipsL25
import Derived.Test.YtkegbbndmfnolaaGreatDoorMBandSlipsL18
import Derived.Test.YtkegbbndmfnolaaGreatDoorMBandSlipsL01
import Derived.Test.YtkegbbndmfnolaaGreatDoorMBandSlipsL33
/-
  FnBandSlips: a ringer who slips remains wrong until told; behind PutRight nobody is wrong. The tied card.
-/
namespace Go.Proofs.YtkegbbndmfnolaaGreatDoor
open Go.RowKit Go.ChangeShapes Go.WideShapes Go.Deep
set_option linter.unusedVariables false
set_option linter.unusedSimpArgs false
set_option maxRecDepth 100000








theorem neAct_f (k b y : Int) (c : ByteArray) (w : World) : (binOp .neq 45 (.agg #[.int .i64 k, .int .i64 b, .int .i64 y, .string c]) (.agg #[.int .i64 k, .int .i64 b, .int .i64 y, .string c])).run Tryz.prog w = .ok (.bool false) w := by
  have hs : (Tryz.prog).stoodInHeld 45 = false := by kernel_rfl
  rw [run_neq_struct, show (10000 : Nat) = 9999 + 1 from rfl, run_equalIn_struct w 9999 45 _ _ (by simp [Program.fieldsOf, Tryz.underlying45]) hs]
  simp only [Program.fieldsOf, Tryz.underlying45]
  simp [go_sem]
/-- All ringers up to there hear their calls. -/
def cmB (l : List Rgr) : Nat → Bool
  | 0 => true
  | k + 1 => cmB l k && !(l.getD k ⟨0, false⟩).deaf
theorem cmB_succ {l : List Rgr} {k : Nat} (h : k < l.length) : cmB l (k + 1) = (cmB l k && !l[k].deaf) := by
  simp only [cmB]; rw [List.getD_eq_getElem?_getD, List.getElem?_eq_getElem h]; rfl
theorem cmB_calm {l : List Rgr} : ∀ k, cmB l k = true → ∀ (i : Nat) (hi : i < l.length), i < k → l[i].deaf = false := by
  intro k
  induction k with
  | zero => intro _ i hi h; omega
  | succ k ih =>
    intro h i hi hk
    simp only [cmB, Bool.and_eq_true] at h
    by_cases hik : i < k
    · exact ih h.1 i hi hik
    · obtain rfl : i = k := by omega
      have h2 := h.2
      rw [List.getD_eq_getElem?_getD, List.getElem?_eq_getElem hi] at h2
      simpa using h2
theorem calm_of {l : List Rgr} (h : cmB l l.length = true) : calmL l := fun i hi => cmB_calm _ h i hi hi
open Classical in
/-- What RowOfBand answers. -/
noncomputable def rowR (b : Bnd) : ByteArray × Bool := if bandP b then (rbO b.rx b.rx.length, true) else (⟨#[]⟩, false)
theorem rowR_row {b : Bnd} (h : (rowR b).2 = true) : isRow (rowR b).1 := by
  unfold rowR at h ⊢
  by_cases hp : bandP b
  · rw [if_pos hp]; exact rbO_row hp
  · rw [if_neg hp] at h; cases h
theorem rowR_size (b : Bnd) : (rowR b).1.size ≤ 8 := by
  unfold rowR
  by_cases hp : bandP b
  · rw [if_pos hp]; exact (rbO_row hp).2.1
  · rw [if_neg hp]; exact Nat.zero_le _

theorem iRowB_r (b : Bnd) (w : World) (h : b.Ok w) (ht : Tab w) : Calls Tryz.prog 45 #[.agg #[.string b.m.name, .int .i64 b.m.stage, .slice b.m.A b.m.x.length b.m.c, .string b.bob, .string b.sing, .int .i64 b.step, .string b.call, .string b.tru, .slice b.RA b.rx.length b.rc]] w fun e w' => e = .returned (.tuple #[.string (rowR b).1, .bool (rowR b).2]) ∧ Below w.heap.size w w' := by
  unfold rowR
  by_cases hp : bandP b
  · rw [if_pos hp]; exact iRowOfBand_t b w h hp ht
  · rw [if_neg hp]; exact iRowOfBand_f b w h hp
theorem sRowB_r (b : Bnd) (w : World) (h : b.Ok w) (ht : Tab w) : Calls Tryz.prog 50 #[.agg #[.string b.m.name, .int .i64 b.m.stage, .slice b.m.A b.m.x.length b.m.c, .string b.bob, .string b.sing, .int .i64 b.step, .string b.call, .string b.tru, .slice b.RA b.rx.length b.rc]] w fun e w' => e = .returned (.tuple #[.string (rowR b).1, .bool (rowR b).2]) ∧ Below w.heap.size w w' := by
  unfold rowR
  by_cases hp : bandP b
  · rw [if_pos hp]; exact sRowOfBand_t b w h hp ht
  · rw [if_neg hp]; exact sRowOfBand_f b w h hp
theorem playD_t {b : Bnd} {l : List Act_} (h : bandP b) (hl : l.length ≤ 400) : playBD b l = ((playS b.bd l l.length).1, (playS b.bd l l.length).2, true) := by
  unfold playBD; rw [if_pos ⟨h, hl⟩]
theorem newD_ret {m : Mth} {kb ks : ByteArray} {d : Bd} {ok : Bool} (hD : newD m kb ks = (d, ok)) {f : FuncId} {args : Array Value} {W : World} (h : Calls Tryz.prog f args W fun e w' => BdRet (newD m kb ks).1 (newD m kb ks).2 W e w') : Calls Tryz.prog f args W fun e w' => ∃ A1 c1 A3 c3, e = .returned (.tuple #[.agg #[.string d.name, .int .i64 d.stage, .slice A1 d.x.length c1, .string d.bob, .string d.sing, .int .i64 d.step, .string d.call, .string d.tru, .slice A3 d.rx.length c3], .bool ok]) ∧ RdL w' w'.heap.size A1 1 encString d.x ∧ RdL w' w'.heap.size A3 2 Rgr.enc d.rx ∧ Below W.heap.size W w' := by
  rw [hD] at h
  refine h.mono ?_
  rintro e w' ⟨v, rfl, ⟨A1, c1, A3, c3, gs, rfl, _, _, o1, o3⟩, hb⟩
  exact ⟨A1, c1, A3, c3, rfl, o1.rd encString_len, o3.rd Rgr_enc_len, hb⟩

set_option maxHeartbeats 64000000 in
theorem bandSlipsLaw (w : World) (l : List Int) (A : Option Addr) (c : Nat) (h : RdL w w.heap.size A 1 encByte l) (hl : l.length ≤ 9223372036854775807) (hb : ∀ x ∈ l, Byte_small 9223372036854775807 x) (l' : List Int) (A' : Option Addr) (c' : Nat) (h' : RdL w w.heap.size A' 1 encByte l') (hl' : l'.length ≤ 9223372036854775807) (hb' : ∀ x ∈ l', Byte_small 9223372036854775807 x) (htab : Tab w) :
    Calls Tryz.prog 5 #[.slice A l.length c, .slice A' l'.length c'] w fun e w' => e = .returned (.bool true) ∧ Below w.heap.size w w' := by
  have H := Lib.hid h
  have Hb := Lib.hid hb
  have H' := Lib.hid h'
  have Hb' := Lib.hid hb'
  have HT := Lib.hid htab
  clear h hb h' hb' htab
  by_cases hbig : 1048576 < l.length + l'.length
  · have e0 := B_t hbig
    go_enter Tryz.func5, Tryz.ntmps5
    go_wp2_with (first | (go_at_call 6; refine (calls_bool (bigB_any _ _ A A' c c' w hl hl') e0).mono ?_; rintro e w1 ⟨rfl, rfl⟩) | fail)
    go_ret
    exact ⟨rfl, Below.refl _ _⟩
  have e0 := B_f hbig
  clear hbig
  go_enter Tryz.func5, Tryz.ntmps5
  go_upto_region 4 with (first | (go_at_call 6; refine (calls_bool (bigB_any _ _ A A' c c' w hl hl') e0).mono ?_; rintro e w1 ⟨rfl, rfl⟩) | (go_at_call 39; refine (drawPutRight_any A c l _ H.out Hb.out hl HT.out).mono ?_; rintro e w1 ⟨b, rfl, hok1, hb1⟩; have HOK1 := Lib.hid hok1; have HB1 := Lib.hid hb1; clear hok1 hb1) | fail)
  obtain ⟨W1, hVe, hVb1, hB⟩ : ∃ V : World, Hid (w1.alloc (.cells #[.string b.m.name, .int .i64 b.m.stage, .slice b.m.A b.m.x.length b.m.c, .string b.bob, .string b.sing, .int .i64 b.step, .string b.call, .string b.tru, .slice b.RA b.rx.length b.rc] 36) = V) ∧ Hid (Below w1.heap.size w1 V) ∧ Hid (Cells V w1.heap.size 9 (fun i => (#[Value.string b.m.name, .int .i64 b.m.stage, .slice b.m.A b.m.x.length b.m.c, .string b.bob, .string b.sing, .int .i64 b.step, .string b.call, .string b.tru, .slice b.RA b.rx.length b.rc] : Array Value).getD i undef)) := ⟨_, Lib.hid rfl, Lib.hid ((Below.refl _ _).alloc (Nat.le_refl _) _), Lib.hid (Cells.newD _ #[.string b.m.name, .int .i64 b.m.stage, .slice b.m.A b.m.x.length b.m.c, .string b.bob, .string b.sing, .int .i64 b.step, .string b.call, .string b.tru, .slice b.RA b.rx.length b.rc] _)⟩
  rw [hVe.out]
  clear hVe
  have HBW : Hid (Below w.heap.size w W1) := Lib.hid (HB1.out.trans (hVb1.out.mono HB1.out.size))
  have HOK : Hid (∀ W, Below W1.heap.size W1 W → b.Ok W) := Lib.hid fun W hb => HOK1.out W ((Chg.of_below hVb1.out).below hb)
  clear HOK1
  by_cases hp : bandP b
  rotate_left
  · have hUx := hB.out; have u0 := hUx.cell (i := 0) (by decide); have u1 := hUx.cell (i := 1) (by decide); have u2 := hUx.cell (i := 2) (by decide); have u3 := hUx.cell (i := 3) (by decide); have u4 := hUx.cell (i := 4) (by decide); have u5 := hUx.cell (i := 5) (by decide); have u6 := hUx.cell (i := 6) (by decide); have u7 := hUx.cell (i := 7) (by decide); have u8 := hUx.cell (i := 8) (by decide); clear hUx
    have HP := Lib.hid hp
    clear hp
    go_upto_region 10 with (first
      | (go_at_call 40; refine (iPutRight_f b W1 (HOK.out _ (Below.refl _ _)) HP.out).mono ?_; rintro e w2 ⟨rfl, hb2⟩; have K2 := Lib.hid hb2; clear hb2; clear u0 u1 u2 u3 u4 u5 u6 u7 u8; have hUx := hB.out.later K2.out; have u0 := hUx.cell (i := 0) (by decide); have u1 := hUx.cell (i := 1) (by decide); have u2 := hUx.cell (i := 2) (by decide); have u3 := hUx.cell (i := 3) (by decide); have u4 := hUx.cell (i := 4) (by decide); have u5 := hUx.cell (i := 5) (by decide); have u6 := hUx.cell (i := 6) (by decide); have u7 := hUx.cell (i := 7) (by decide); have u8 := hUx.cell (i := 8) (by decide); clear hUx)
      | (go_at_call 41; refine (sPutRight_f b w2 (HOK.out _ K2.out) HP.out).mono ?_; rintro e w3 ⟨rfl, hb3⟩; have K3 := Lib.hid (K2.out.trans (hb3.mono K2.out.size)); clear hb3; clear u0 u1 u2 u3 u4 u5 u6 u7 u8; have hUx := hB.out.later K3.out; have u0 := hUx.cell (i := 0) (by decide); have u1 := hUx.cell (i := 1) (by decide); have u2 := hUx.cell (i := 2) (by decide); have u3 := hUx.cell (i := 3) (by decide); have u4 := hUx.cell (i := 4) (by decide); have u5 := hUx.cell (i := 5) (by decide); have u6 := hUx.cell (i := 6) (by decide); have u7 := hUx.cell (i := 7) (by decide); have u8 := hUx.cell (i := 8) (by decide); clear hUx)
      | (go_at_call 42; refine (iWrongIn_f b w3 (HOK.out _ K3.out) HP.out).mono ?_; rintro e w4 ⟨rfl, hb4⟩; have K4 := Lib.hid (K3.out.trans (hb4.mono K3.out.size)); clear hb4; clear u0 u1 u2 u3 u4 u5 u6 u7 u8; have hUx := hB.out.later K4.out; have u0 := hUx.cell (i := 0) (by decide); have u1 := hUx.cell (i := 1) (by decide); have u2 := hUx.cell (i := 2) (by decide); have u3 := hUx.cell (i := 3) (by decide); have u4 := hUx.cell (i := 4) (by decide); have u5 := hUx.cell (i := 5) (by decide); have u6 := hUx.cell (i := 6) (by decide); have u7 := hUx.cell (i := 7) (by decide); have u8 := hUx.cell (i := 8) (by decide); clear hUx)
      | (go_at_call 43; refine (sWrongIn_f b w4 (HOK.out _ K4.out) HP.out).mono ?_; rintro e w5 ⟨rfl, hb5⟩; have K5 := Lib.hid (K4.out.trans (hb5.mono K4.out.size)); clear hb5; clear u0 u1 u2 u3 u4 u5 u6 u7 u8)
      | (go_at_call 44; refine (sameInts_t [] none none 0 0 w5 RdL.nil RdL.nil (by decide)).mono ?_; rintro e w6 ⟨rfl, hd6⟩; have K6 : Hid (Below W1.heap.size W1 w6) := Lib.hid (by obtain ⟨n6, rfl⟩ := hd6; exact below_drewN K5.out n6); clear hd6)
      | fail)
    have KE := Lib.hid (HBW.out.trans (K6.out.mono HBW.out.size))
    go_upto_region 12 with fail
    go_loopw [103] (fun i wr => i = .int .i64 0 ∧ wr = w6) (fun _ _ => 0)
    case atStart => exact ⟨rfl, rfl⟩
    case round =>
      obtain ⟨rfl, rfl⟩ := hrel
      skip
      go_upto_region 33 with (first | (go_at_call 46; refine (drawNewBand_any A' c' l' _ ((H'.out.below KE.out (Nat.le_refl _)).more (KE.out).size) Hb'.out hl').mono ?_; rintro e wa ⟨m, kb, ks, rfl, hmk, hba⟩; have HMK := Lib.hid hmk; have HBa := Lib.hid ((KE.out).trans (hba.mono (KE.out).size)); clear hmk hba) | fail)
      obtain ⟨Va, hVe, hVb, hM, hKc⟩ : ∃ V : World, Hid (((wa.alloc (.cells #[.string m.name, .int .i64 m.stage, .slice m.A m.x.length m.c] 26)).alloc (.cells #[.string kb, .string ks] 28)) = V) ∧ Hid (Below wa.heap.size wa V) ∧ Hid (Cells V wa.heap.size 3 (fun i => (#[Value.string m.name, .int .i64 m.stage, .slice m.A m.x.length m.c] : Array Value).getD i undef)) ∧ Hid (Cells V (wa.heap.size + 1) 2 (fun i => (#[Value.string kb, .string ks] : Array Value).getD i undef)) := by
        have z1 : wa.heap.size + 1 = (wa.alloc (.cells #[.string m.name, .int .i64 m.stage, .slice m.A m.x.length m.c] 26)).heap.size := by simp
        refine ⟨_, Lib.hid rfl, Lib.hid (((Below.refl _ _).alloc (Nat.le_refl _) _).alloc (by simp) _), Lib.hid ?_, Lib.hid ?_⟩
        · exact (Cells.newD _ #[.string m.name, .int .i64 m.stage, .slice m.A m.x.length m.c] _).alloc _
        · rw [z1]; exact Cells.newD _ #[.string kb, .string ks] _
      rw [hVe.out]
      clear hVe
      have HBV : Hid (Below w.heap.size w Va) := Lib.hid (HBa.out.trans (hVb.out.mono HBa.out.size))
      have HMV : Hid (∀ W, Below Va.heap.size Va W → MkOk m kb ks W) := Lib.hid fun W hb => HMK.out W ((Chg.of_below hVb.out).below hb)
      obtain ⟨D, hD⟩ : ∃ D, Hid (newD m kb ks = D) := ⟨_, Lib.hid rfl⟩
      have hsm : Hid (D.1.x.length ≤ 1048576 ∧ D.1.rx.length ≤ 1048576) := Lib.hid (by rw [← hD.out]; exact newD_small (HMV.out Va (Below.refl _ _)).xl)
      obtain ⟨dn, okn⟩ := D
      simp only at hsm
      have hUx := hM.out; have m0 := hUx.cell (i := 0) (by decide); have m1 := hUx.cell (i := 1) (by decide); have m2 := hUx.cell (i := 2) (by decide); clear hUx; have hUx := hKc.out; have k0 := hUx.cell (i := 0) (by decide); have k1 := hUx.cell (i := 1) (by decide); clear hUx
      go_upto_region 34 with (first | (go_at_call 47; refine (newD_ret hD.out (iNewBand_any m kb ks Va (HMV.out _ (Below.refl _ _)).rd (HMV.out _ (Below.refl _ _)).nm (HMV.out _ (Below.refl _ _)).xl (HMV.out _ (Below.refl _ _)).xs (HMV.out _ (Below.refl _ _)).bs (HMV.out _ (Below.refl _ _)).ss)).mono ?_; rintro e wb ⟨N1, n1, N3, n3, rfl, hn1, hn3, hbb⟩; have HN1 := Lib.hid hn1; have HN3 := Lib.hid hn3; have HBb := Lib.hid hbb; clear hn1 hn3 hbb) | fail)
      clear m0 m1 m2 k0 k1
      obtain ⟨Vb, hVe, hVbb, hY⟩ : ∃ V : World, Hid (wb.alloc (.cells #[Value.string dn.name, .int .i64 dn.stage, .slice N1 dn.x.length n1, .string dn.bob, .string dn.sing, .int .i64 dn.step, .string dn.call, .string dn.tru, .slice N3 dn.rx.length n3] 36) = V) ∧ Hid (Below wb.heap.size wb V) ∧ Hid (Cells V wb.heap.size 9 (fun i => (#[Value.string dn.name, .int .i64 dn.stage, .slice N1 dn.x.length n1, .string dn.bob, .string dn.sing, .int .i64 dn.step, .string dn.call, .string dn.tru, .slice N3 dn.rx.length n3] : Array Value).getD i undef)) := ⟨_, Lib.hid rfl, Lib.hid ((Below.refl _ _).alloc (Nat.le_refl _) _), Lib.hid (Cells.newD _ #[Value.string dn.name, .int .i64 dn.stage, .slice N1 dn.x.length n1, .string dn.bob, .string dn.sing, .int .i64 dn.step, .string dn.call, .string dn.tru, .slice N3 dn.rx.length n3] _)⟩
      rw [hVe.out]
      clear hVe
      have KVb : Hid (Below Va.heap.size Va Vb) := Lib.hid (HBb.out.trans (hVbb.out.mono HBb.out.size))
      have hUx := hM.out.later KVb.out; have m0 := hUx.cell (i := 0) (by decide); have m1 := hUx.cell (i := 1) (by decide); have m2 := hUx.cell (i := 2) (by decide); clear hUx; have hUx := hKc.out.later KVb.out; have k0 := hUx.cell (i := 0) (by decide); have k1 := hUx.cell (i := 1) (by decide); clear hUx
      go_upto_region 35 with (first | (go_at_call 48; refine (newD_ret hD.out (sNewBand_any m kb ks Vb (HMV.out _ KVb.out).rd (HMV.out _ KVb.out).nm (HMV.out _ KVb.out).xl (HMV.out _ KVb.out).xs (HMV.out _ KVb.out).bs (HMV.out _ KVb.out).ss)).mono ?_; rintro e wc ⟨M1, m1', M3, m3', rfl, hm1, hm3, hbc⟩; have HM1 := Lib.hid hm1; have HM3 := Lib.hid hm3; have HBc := Lib.hid hbc; clear hm1 hm3 hbc) | fail)
      clear m0 m1 m2 k0 k1
      obtain ⟨Vc, hVe, hVcb, hZ⟩ : ∃ V : World, Hid (wc.alloc (.cells #[Value.string dn.name, .int .i64 dn.stage, .slice M1 dn.x.length m1', .string dn.bob, .string dn.sing, .int .i64 dn.step, .string dn.call, .string dn.tru, .slice M3 dn.rx.length m3'] 36) = V) ∧ Hid (Below wc.heap.size wc V) ∧ Hid (Cells V wc.heap.size 9 (fun i => (#[Value.string dn.name, .int .i64 dn.stage, .slice M1 dn.x.length m1', .string dn.bob, .string dn.sing, .int .i64 dn.step, .string dn.call, .string dn.tru, .slice M3 dn.rx.length m3'] : Array Value).getD i undef)) := ⟨_, Lib.hid rfl, Lib.hid ((Below.refl _ _).alloc (Nat.le_refl _) _), Lib.hid (Cells.newD _ #[Value.string dn.name, .int .i64 dn.stage, .slice M1 dn.x.length m1', .string dn.bob, .string dn.sing, .int .i64 dn.step, .string dn.call, .string dn.tru, .slice M3 dn.rx.length m3'] _)⟩
      rw [hVe.out]
      clear hVe
      have KVc : Hid (Below Vb.heap.size Vb Vc) := Lib.hid (HBc.out.trans (hVcb.out.mono HBc.out.size))
      have HBVc : Hid (Below w.heap.size w Vc) := Lib.hid (HBV.out.trans ((KVb.out.trans (KVc.out.mono KVb.out.size)).mono HBV.out.size))
      go_upto_region 36 with (first | (go_at_call 49; refine (drawRowOfBand_any A' c' l' _ ((H'.out.below HBVc.out (Nat.le_refl _)).more HBVc.out.size) Hb'.out hl' (HT.out.later HBVc.out)).mono ?_; rintro e wd ⟨b2, rfl, hok2, hbd⟩; have HOK2 := Lib.hid hok2; have HBd := Lib.hid hbd; clear hok2 hbd) | fail)
      obtain ⟨Vd, hVe, hVdb, hC⟩ : ∃ V : World, Hid (wd.alloc (.cells #[.string b2.m.name, .int .i64 b2.m.stage, .slice b2.m.A b2.m.x.length b2.m.c, .string b2.bob, .string b2.sing, .int .i64 b2.step, .string b2.call, .string b2.tru, .slice b2.RA b2.rx.length b2.rc] 36) = V) ∧ Hid (Below wd.heap.size wd V) ∧ Hid (Cells V wd.heap.size 9 (fun i => (#[Value.string b2.m.name, .int .i64 b2.m.stage, .slice b2.m.A b2.m.x.length b2.m.c, .string b2.bob, .string b2.sing, .int .i64 b2.step, .string b2.call, .string b2.tru, .slice b2.RA b2.rx.length b2.rc] : Array Value).getD i undef)) := ⟨_, Lib.hid rfl, Lib.hid ((Below.refl _ _).alloc (Nat.le_refl _) _), Lib.hid (Cells.newD _ #[.string b2.m.name, .int .i64 b2.m.stage, .slice b2.m.A b2.m.x.length b2.m.c, .string b2.bob, .string b2.sing, .int .i64 b2.step, .string b2.call, .string b2.tru, .slice b2.RA b2.rx.length b2.rc] _)⟩
      rw [hVe.out]
      clear hVe
      have KVd : Hid (Below Vc.heap.size Vc Vd) := Lib.hid (HBd.out.trans (hVdb.out.mono HBd.out.size))
      have HBVd : Hid (Below w.heap.size w Vd) := Lib.hid (HBVc.out.trans (KVd.out.mono HBVc.out.size))
      have HOd : Hid (∀ W, Below Vd.heap.size Vd W → b2.Ok W) := Lib.hid fun W hb => HOK2.out W ((Chg.of_below hVdb.out).below hb)
      obtain ⟨S, hS⟩ : ∃ S, Hid (rowR b2 = S) := ⟨_, Lib.hid rfl⟩
      have hSr : Hid (S.2 = true → isRow S.1) := Lib.hid (by rw [← hS.out]; exact rowR_row)
      have hS8 : S.1.size ≤ 8 := by rw [← hS.out]; exact rowR_size b2
      have hIR : Hid (∀ W, Below Vd.heap.size Vd W → Calls Tryz.prog 45 #[.agg #[.string b2.m.name, .int .i64 b2.m.stage, .slice b2.m.A b2.m.x.length b2.m.c, .string b2.bob, .string b2.sing, .int .i64 b2.step, .string b2.call, .string b2.tru, .slice b2.RA b2.rx.length b2.rc]] W fun e w' => e = .returned (.tuple #[.string S.1, .bool S.2]) ∧ Below W.heap.size W w') := Lib.hid fun W hb => by
        have := iRowB_r b2 W (HOd.out W hb) (HT.out.later (HBVd.out.trans (hb.mono HBVd.out.size)))
        rw [hS.out] at this; exact this
      have hSR : Hid (∀ W, Below Vd.heap.size Vd W → Calls Tryz.prog 50 #[.agg #[.string b2.m.name, .int .i64 b2.m.stage, .slice b2.m.A b2.m.x.length b2.m.c, .string b2.bob, .string b2.sing, .int .i64 b2.step, .string b2.call, .string b2.tru, .slice b2.RA b2.rx.length b2.rc]] W fun e w' => e = .returned (.tuple #[.string S.1, .bool S.2]) ∧ Below W.heap.size W w') := Lib.hid fun W hb => by
        have := sRowB_r b2 W (HOd.out W hb) (HT.out.later (HBVd.out.trans (hb.mono HBVd.out.size)))
        rw [hS.out] at this; exact this
      obtain ⟨rw_, okr⟩ := S
      simp only at hSr hS8 hIR hSR
      have hUx := hC.out; have p0 := hUx.cell (i := 0) (by decide); have p1 := hUx.cell (i := 1) (by decide); have p2 := hUx.cell (i := 2) (by decide); have p3 := hUx.cell (i := 3) (by decide); have p4 := hUx.cell (i := 4) (by decide); have p5 := hUx.cell (i := 5) (by decide); have p6 := hUx.cell (i := 6) (by decide); have p7 := hUx.cell (i := 7) (by decide); have p8 := hUx.cell (i := 8) (by decide); clear hUx
      go_upto_region 38 with (first
        | (go_at_call 45; refine (hIR.out Vd (Below.refl _ _)).mono ?_; rintro e we ⟨rfl, hbe⟩; have HBe := Lib.hid hbe; clear hbe; clear p0 p1 p2 p3 p4 p5 p6 p7 p8; have hUx := hC.out.later HBe.out; have p0 := hUx.cell (i := 0) (by decide); have p1 := hUx.cell (i := 1) (by decide); have p2 := hUx.cell (i := 2) (by decide); have p3 := hUx.cell (i := 3) (by decide); have p4 := hUx.cell (i := 4) (by decide); have p5 := hUx.cell (i := 5) (by decide); have p6 := hUx.cell (i := 6) (by decide); have p7 := hUx.cell (i := 7) (by decide); have p8 := hUx.cell (i := 8) (by decide); clear hUx)
        | (go_at_call 50; refine (hSR.out we HBe.out).mono ?_; rintro e wf ⟨rfl, hbf⟩; have HBf := Lib.hid (HBe.out.trans (hbf.mono HBe.out.size)); clear hbf)
        | fail)
      clear p0 p1 p2 p3 p4 p5 p6 p7 p8
      have KVf : Hid (Below Vc.heap.size Vc wf) := Lib.hid (KVd.out.trans (HBf.out.mono KVd.out.size))
      have KVbf : Hid (Below Vb.heap.size Vb wf) := Lib.hid (KVc.out.trans (KVf.out.mono KVc.out.size))
      have HBwf : Hid (Below w.heap.size w wf) := Lib.hid (HBVd.out.trans (HBf.out.mono HBVd.out.size))
      have RY1 := Lib.hid ((HN1.out.below (hVbb.out.trans (KVbf.out.mono hVbb.out.size)) (Nat.le_refl _)).more (hVbb.out.trans (KVbf.out.mono hVbb.out.size)).size)
      have RY3 := Lib.hid ((HN3.out.below (hVbb.out.trans (KVbf.out.mono hVbb.out.size)) (Nat.le_refl _)).more (hVbb.out.trans (KVbf.out.mono hVbb.out.size)).size)
      have RZ1 := Lib.hid ((HM1.out.below (hVcb.out.trans (KVf.out.mono hVcb.out.size)) (Nat.le_refl _)).more (hVcb.out.trans (KVf.out.mono hVcb.out.size)).size)
      have RZ3 := Lib.hid ((HM3.out.below (hVcb.out.trans (KVf.out.mono hVcb.out.size)) (Nat.le_refl _)).more (hVcb.out.trans (KVf.out.mono hVcb.out.size)).size)
      have hUx := hY.out.later KVbf.out; have y0 := hUx.cell (i := 0) (by decide); have y1 := hUx.cell (i := 1) (by decide); have y2 := hUx.cell (i := 2) (by decide); have y3 := hUx.cell (i := 3) (by decide); have y4 := hUx.cell (i := 4) (by decide); have y5 := hUx.cell (i := 5) (by decide); have y6 := hUx.cell (i := 6) (by decide); have y7 := hUx.cell (i := 7) (by decide); have y8 := hUx.cell (i := 8) (by decide); clear hUx
      have hUx := hZ.out.later KVf.out; have z0 := hUx.cell (i := 0) (by decide); have z1 := hUx.cell (i := 1) (by decide); have z2 := hUx.cell (i := 2) (by decide); have z3 := hUx.cell (i := 3) (by decide); have z4 := hUx.cell (i := 4) (by decide); have z5 := hUx.cell (i := 5) (by decide); have z6 := hUx.cell (i := 6) (by decide); have z7 := hUx.cell (i := 7) (by decide); have z8 := hUx.cell (i := 8) (by decide); clear hUx
      go_upto_region 40 with (first
        | (go_at_call 15; refine (sameBand_t dn N1 n1 N3 n3 M1 m1' M3 m3' wf RY1.out RZ1.out RY3.out RZ3.out hsm.out.1 hsm.out.2).mono ?_; rintro e wg ⟨rfl, hbg⟩; have HBg := Lib.hid (HBwf.out.trans (hbg.mono HBwf.out.size)); clear hbg)
        | fail)
      clear y0 y1 y2 y3 y4 y5 y6 y7 y8
      clear z0 z1 z2 z3 z4 z5 z6 z7 z8
      cases okr
      · go_wp2
        go_ret
        exact ⟨rfl, HBg.out⟩
      · have hGR := hSr.out rfl
        have eGR := B_t hGR
        go_wp2_with (first | (go_at_call 51; refine (calls_bool (goodRow_any rw_ _) eGR).mono ?_; rintro e wh ⟨rfl, rfl⟩) | fail)
        go_ret
        exact ⟨rfl, HBg.out⟩
  have hst := hp.1.1.2.stage
  have h8 := hst.2
  have hrl := hp.2.2.2.2.1
  have h8' : b.m.stage ≤ 8 := h8
  have h3' : 3 ≤ b.m.stage := hst.1
  have hr8 : b.rx.length ≤ 8 := by omega
  have hr0 : 0 < b.rx.length := by omega
  clear hst h8 hrl h8' h3'
  have HP := Lib.hid hp
  clear hp
  obtain ⟨g, off, hA, hg, _⟩ := (HOK.out W1 (Below.refl _ _)).ri.at hr0
  have HA := Lib.hid hA
  clear hA
  obtain ⟨L, hL⟩ : ∃ L, Hid (wrongTo b.tru b.rx b.rx.length = L) := ⟨_, Lib.hid rfl⟩
  have hLl : L.length ≤ 8 := by rw [← hL.out]; exact Nat.le_trans (wrongTo_len _ _ _) hr8
  have hTl : Hid ((tellL L).length = L.length) := Lib.hid (tellL_len L)
  have hIP : Hid (∀ W, Below W1.heap.size W1 W → Calls Tryz.prog 40 #[.agg #[.string b.m.name, .int .i64 b.m.stage, .slice b.m.A b.m.x.length b.m.c, .string b.bob, .string b.sing, .int .i64 b.step, .string b.call, .string b.tru, .slice b.RA b.rx.length b.rc]] W fun e w' => ∃ A c, e = .returned (.tuple #[.slice A L.length c, .bool true]) ∧ RdL w' w'.heap.size A 4 Act_.enc (tellL L) ∧ Below W.heap.size W w') := Lib.hid fun W hb => by
    have := iPutRight_t b W (HOK.out W hb) HP.out
    rw [hL.out, tellL_len] at this
    exact this.mono fun e w' ⟨A, c, h1, h2, h3⟩ => ⟨A, c, h1, h2.rd Act__enc_len, h3⟩
  have hSP : Hid (∀ W, Below W1.heap.size W1 W → Calls Tryz.prog 41 #[.agg #[.string b.m.name, .int .i64 b.m.stage, .slice b.m.A b.m.x.length b.m.c, .string b.bob, .string b.sing, .int .i64 b.step, .string b.call, .string b.tru, .slice b.RA b.rx.length b.rc]] W fun e w' => ∃ A c, e = .returned (.tuple #[.slice A L.length c, .bool true]) ∧ RdL w' w'.heap.size A 4 Act_.enc (tellL L) ∧ Below W.heap.size W w') := Lib.hid fun W hb => by
    have := sPutRight_t b W (HOK.out W hb) HP.out
    rw [hL.out, tellL_len] at this
    exact this.mono fun e w' ⟨A, c, h1, h2, h3⟩ => ⟨A, c, h1, h2.rd Act__enc_len, h3⟩
  have hIW : Hid (∀ W, Below W1.heap.size W1 W → Calls Tryz.prog 42 #[.agg #[.string b.m.name, .int .i64 b.m.stage, .slice b.m.A b.m.x.length b.m.c, .string b.bob, .string b.sing, .int .i64 b.step, .string b.call, .string b.tru, .slice b.RA b.rx.length b.rc]] W fun e w' => ∃ A c, e = .returned (.tuple #[.slice A L.length c, .bool true]) ∧ RdL w' w'.heap.size A 1 encInt L ∧ Below W.heap.size W w') := Lib.hid fun W hb => by
    have := iWrongIn_t b W (HOK.out W hb) HP.out
    rw [hL.out] at this
    exact this.mono fun e w' ⟨A, c, h1, h2, h3⟩ => ⟨A, c, h1, h2.rd encInt_len, h3⟩
  have hSW : Hid (∀ W, Below W1.heap.size W1 W → Calls Tryz.prog 43 #[.agg #[.string b.m.name, .int .i64 b.m.stage, .slice b.m.A b.m.x.length b.m.c, .string b.bob, .string b.sing, .int .i64 b.step, .string b.call, .string b.tru, .slice b.RA b.rx.length b.rc]] W fun e w' => ∃ A c, e = .returned (.tuple #[.slice A L.length c, .bool true]) ∧ RdL w' w'.heap.size A 1 encInt L ∧ Below W.heap.size W w') := Lib.hid fun W hb => by
    have := sWrongIn_t b W (HOK.out W hb) HP.out
    rw [hL.out] at this
    exact this.mono fun e w' ⟨A, c, h1, h2, h3⟩ => ⟨A, c, h1, h2.rd encInt_len, h3⟩
  -- the band that all actions have put right
  have hpr := put_right (d := b.bd) HP.out
  obtain ⟨d, hd⟩ : ∃ d, Hid ((playS b.bd (tellL L) (tellL L).length).1 = d) := ⟨_, Lib.hid rfl⟩
  obtain ⟨R, hR⟩ : ∃ R, Hid ((playS b.bd (tellL L) (tellL L).length).2 = R) := ⟨_, Lib.hid rfl⟩
  have hpd : Hid (bdP d) := Lib.hid (by rw [← hd.out]; exact (playS_inv (d := b.bd) (l := tellL L) HP.out _).1)
  have hin : Hid (inL d.tru d.rx ∧ d.tru = b.tru) := Lib.hid (by
    have e1 : wrongTo b.bd.tru b.bd.rx b.bd.rx.length = L := hL.out
    rw [e1, hd.out] at hpr
    exact ⟨by rw [hpr.2.1]; exact hpr.1, hpr.2.1⟩)
  clear hpr
  have hPD : Hid (playBD b (tellL L) = (d, R, true)) := Lib.hid (by rw [playD_t HP.out (by rw [tellL_len]; omega), hd.out, hR.out])
  have hPB : Hid (∀ (A2 : Option Addr) (c2 : Nat) (W : World), Below W1.heap.size W1 W → RdL W W.heap.size A2 4 Act_.enc (tellL L) → Calls Tryz.prog 13 #[.agg #[.string b.m.name, .int .i64 b.m.stage, .slice b.m.A b.m.x.length b.m.c, .string b.bob, .string b.sing, .int .i64 b.step, .string b.call, .string b.tru, .slice b.RA b.rx.length b.rc], .slice A2 L.length c2] W fun e w' => ∃ A1 c1 A3 c3 A5 c5, e = .returned (.tuple #[.agg #[.string d.name, .int .i64 d.stage, .slice A1 d.x.length c1, .string d.bob, .string d.sing, .int .i64 d.step, .string d.call, .string d.tru, .slice A3 d.rx.length c3], .slice A5 R.length c5, .bool true]) ∧ RdL w' w'.heap.size A1 1 encString d.x ∧ RdL w' w'.heap.size A3 2 Rgr.enc d.rx ∧ Below W.heap.size W w') := Lib.hid fun A2 c2 W hb hr => by
    have := iPlayBand_any b (tellL L) A2 c2 W (HOK.out W hb) hr (by rw [tellL_len]; omega) (HT.out.later (HBW.out.trans (hb.mono HBW.out.size)))
    rw [hPD.out, tellL_len] at this
    refine this.mono ?_
    rintro e w' ⟨u, rfl, ⟨v, A5, c5, gw, l2, h2, rfl, _, _, _, _, _, _, ⟨A1, c1, A3, c3, gs, rfl, _, _, o1, o3⟩, o5⟩, hb'⟩
    exact ⟨A1, c1, A3, c3, A5, c5, rfl, o1.rd encString_len, o3.rd Rgr_enc_len, hb'⟩
  have hWx : Hid (∀ (A1 : Option Addr) (c1 : Nat) (A3 : Option Addr) (c3 : Nat) (W : World), RdL W W.heap.size A1 1 encString d.x → RdL W W.heap.size A3 2 Rgr.enc d.rx → Calls Tryz.prog 42 #[.agg #[.string d.name, .int .i64 d.stage, .slice A1 d.x.length c1, .string d.bob, .string d.sing, .int .i64 d.step, .string d.call, .string d.tru, .slice A3 d.rx.length c3]] W fun e w' => ∃ A c, e = .returned (.tuple #[.slice A 0 c, .bool true]) ∧ Below W.heap.size W w') := Lib.hid fun A1 c1 A3 c3 W k1 k3 => by
    have := iWrongIn_t (d.bnd A1 c1 A3 c3) W (Bnd.ok_of hpd.out k1 k3) hpd.out
    have e1 : wrongTo (d.bnd A1 c1 A3 c3).tru (d.bnd A1 c1 A3 c3).rx (d.bnd A1 c1 A3 c3).rx.length = [] := wrongTo_nil hin.out.1 _
    rw [e1] at this
    exact this.mono fun e w' ⟨A, c, h1, h2, h3⟩ => ⟨A, c, h1, h3⟩
  have hRx : Hid (∀ (A1 : Option Addr) (c1 : Nat) (A3 : Option Addr) (c3 : Nat) (W : World), RdL W W.heap.size A1 1 encString d.x → RdL W W.heap.size A3 2 Rgr.enc d.rx → Tab W → Calls Tryz.prog 45 #[.agg #[.string d.name, .int .i64 d.stage, .slice A1 d.x.length c1, .string d.bob, .string d.sing, .int .i64 d.step, .string d.call, .string d.tru, .slice A3 d.rx.length c3]] W fun e w' => e = .returned (.tuple #[.string b.tru, .bool true]) ∧ Below W.heap.size W w') := Lib.hid fun A1 c1 A3 c3 W k1 k3 ht => by
    have := iRowOfBand_t (d.bnd A1 c1 A3 c3) W (Bnd.ok_of hpd.out k1 k3) hpd.out ht
    have e1 : rbO (d.bnd A1 c1 A3 c3).rx (d.bnd A1 c1 A3 c3).rx.length = b.tru := (rbO_in hin.out.1 hpd.out.2.2.2.1.2 (by have h1 := hpd.out.2.2.2.1.1; have h2 := hpd.out.2.2.2.2.1; have e1 : (d.tru.size : Int) = d.stage := h1; have e2 : (d.rx.length : Int) = d.stage := h2; omega)).trans hin.out.2
    rw [e1] at this
    exact this
  obtain ⟨s, hs⟩ : ∃ s, Hid (stepD b = s) := ⟨_, Lib.hid rfl⟩
  have hps : Hid (bdP s) := Lib.hid (by rw [← hs.out]; exact stepD_bdP HP.out)
  have hST : Hid (∀ W, Below W1.heap.size W1 W → Calls Tryz.prog 21 #[.agg #[.string b.m.name, .int .i64 b.m.stage, .slice b.m.A b.m.x.length b.m.c, .string b.bob, .string b.sing, .int .i64 b.step, .string b.call, .string b.tru, .slice b.RA b.rx.length b.rc]] W fun e w' => ∃ A1 c1 A3 c3, e = .returned (.tuple #[.agg #[.string s.name, .int .i64 s.stage, .slice A1 s.x.length c1, .string s.bob, .string s.sing, .int .i64 s.step, .string s.call, .string s.tru, .slice A3 s.rx.length c3], .bool true]) ∧ RdL w' w'.heap.size A1 1 encString s.x ∧ RdL w' w'.heap.size A3 2 Rgr.enc s.rx ∧ Below W.heap.size W w') := Lib.hid fun W hb => by
    have := iStepBand_any b W (HOK.out W hb)
    have e1 : stepBD b = (s, true) := by unfold stepBD; rw [if_pos HP.out, hs.out]
    rw [e1] at this
    refine this.mono ?_
    rintro e w' ⟨v, rfl, ⟨A1, c1, A3, c3, gs, rfl, _, _, o1, o3⟩, hb'⟩
    exact ⟨A1, c1, A3, c3, rfl, o1.rd encString_len, o3.rd Rgr_enc_len, hb'⟩
  obtain ⟨L2, hL2⟩ : ∃ L2, Hid (wrongTo s.tru s.rx s.rx.length = L2) := ⟨_, Lib.hid rfl⟩
  have hL28 : L2.length ≤ 8 := by
    rw [← hL2.out]
    have h1 := hps.out.2.2.2.2.1
    have e1 : (s.rx.length : Int) = s.stage := h1
    have h2 := hps.out.1.1.2.stage.2
    have e2 : s.stage ≤ 8 := h2
    exact Nat.le_trans (wrongTo_len _ _ _) (by omega)
  have hcal : Hid (cmB b.rx b.rx.length = true → L2 = L) := Lib.hid fun hc => by
    have := wrong_stays HP.out (calm_of hc)
    rw [hL.out] at this
    rw [← hL2.out, ← hs.out]
    exact this
  have hWs : Hid (∀ (A1 : Option Addr) (c1 : Nat) (A3 : Option Addr) (c3 : Nat) (W : World), RdL W W.heap.size A1 1 encString s.x → RdL W W.heap.size A3 2 Rgr.enc s.rx → Calls Tryz.prog 42 #[.agg #[.string s.name, .int .i64 s.stage, .slice A1 s.x.length c1, .string s.bob, .string s.sing, .int .i64 s.step, .string s.call, .string s.tru, .slice A3 s.rx.length c3]] W fun e w' => ∃ A c, e = .returned (.tuple #[.slice A L2.length c, .bool true]) ∧ RdL w' w'.heap.size A 1 encInt L2 ∧ Below W.heap.size W w') := Lib.hid fun A1 c1 A3 c3 W k1 k3 => by
    have := iWrongIn_t (s.bnd A1 c1 A3 c3) W (Bnd.ok_of hps.out k1 k3) hps.out
    have e1 : wrongTo (s.bnd A1 c1 A3 c3).tru (s.bnd A1 c1 A3 c3).rx (s.bnd A1 c1 A3 c3).rx.length = L2 := hL2.out
    rw [e1] at this
    exact this.mono fun e w' ⟨A, c, h1, h2, h3⟩ => ⟨A, c, h1, h2.rd encInt_len, h3⟩
  have hri : Hid (∀ W, Below W1.heap.size W1 W → RdL W W.heap.size (some ⟨g, off, none⟩) 2 Rgr.enc b.rx) := Lib.hid fun W hb => by rw [← HA.out]; exact (HOK.out W hb).ri
  rw [HA.out] at hIP hSP hIW hSW hPB hST hB
  try rw [HA.out]
  clear hd hR hPD hs hL2 hL hpd hps hin
  have hUx := hB.out; have u0 := hUx.cell (i := 0) (by decide); have u1 := hUx.cell (i := 1) (by decide); have u2 := hUx.cell (i := 2) (by decide); have u3 := hUx.cell (i := 3) (by decide); have u4 := hUx.cell (i := 4) (by decide); have u5 := hUx.cell (i := 5) (by decide); have u6 := hUx.cell (i := 6) (by decide); have u7 := hUx.cell (i := 7) (by decide); have u8 := hUx.cell (i := 8) (by decide); clear hUx
  go_upto_region 10 with (first
    | (go_at_call 40; refine (hIP.out W1 (Below.refl _ _)).mono ?_; rintro e w2 ⟨A2, c2, rfl, hr2, hb2⟩; have R2 := Lib.hid hr2; have K2 := Lib.hid hb2; clear hr2 hb2; clear u0 u1 u2 u3 u4 u5 u6 u7 u8; have hUx := hB.out.later K2.out; have u0 := hUx.cell (i := 0) (by decide); have u1 := hUx.cell (i := 1) (by decide); have u2 := hUx.cell (i := 2) (by decide); have u3 := hUx.cell (i := 3) (by decide); have u4 := hUx.cell (i := 4) (by decide); have u5 := hUx.cell (i := 5) (by decide); have u6 := hUx.cell (i := 6) (by decide); have u7 := hUx.cell (i := 7) (by decide); have u8 := hUx.cell (i := 8) (by decide); clear hUx)
    | (go_at_call 41; refine (hSP.out w2 K2.out).mono ?_; rintro e w3 ⟨A3, c3, rfl, hr3, hb3⟩; have R3 := Lib.hid hr3; have J3 := Lib.hid hb3; have K3 := Lib.hid (K2.out.trans (hb3.mono K2.out.size)); clear hr3 hb3; clear u0 u1 u2 u3 u4 u5 u6 u7 u8; have hUx := hB.out.later K3.out; have u0 := hUx.cell (i := 0) (by decide); have u1 := hUx.cell (i := 1) (by decide); have u2 := hUx.cell (i := 2) (by decide); have u3 := hUx.cell (i := 3) (by decide); have u4 := hUx.cell (i := 4) (by decide); have u5 := hUx.cell (i := 5) (by decide); have u6 := hUx.cell (i := 6) (by decide); have u7 := hUx.cell (i := 7) (by decide); have u8 := hUx.cell (i := 8) (by decide); clear hUx)
    | (go_at_call 42; refine (hIW.out w3 K3.out).mono ?_; rintro e w4 ⟨A4, c4, rfl, hr4, hb4⟩; have R4 := Lib.hid hr4; have J4 := Lib.hid hb4; have K4 := Lib.hid (K3.out.trans (hb4.mono K3.out.size)); clear hr4 hb4; clear u0 u1 u2 u3 u4 u5 u6 u7 u8; have hUx := hB.out.later K4.out; have u0 := hUx.cell (i := 0) (by decide); have u1 := hUx.cell (i := 1) (by decide); have u2 := hUx.cell (i := 2) (by decide); have u3 := hUx.cell (i := 3) (by decide); have u4 := hUx.cell (i := 4) (by decide); have u5 := hUx.cell (i := 5) (by decide); have u6 := hUx.cell (i := 6) (by decide); have u7 := hUx.cell (i := 7) (by decide); have u8 := hUx.cell (i := 8) (by decide); clear hUx)
    | (go_at_call 43; refine (hSW.out w4 K4.out).mono ?_; rintro e w5 ⟨A5, c5, rfl, hr5, hb5⟩; have R5 := Lib.hid hr5; have J5 := Lib.hid hb5; have K5 := Lib.hid (K4.out.trans (hb5.mono K4.out.size)); have R45 := Lib.hid ((R4.out.below hb5 (Nat.le_refl _)).more hb5.size); clear hr5 hb5; clear u0 u1 u2 u3 u4 u5 u6 u7 u8)
    | (go_at_call 44; refine (sameInts_t L A4 A5 c4 c5 w5 R45.out R5.out (by omega)).mono ?_; rintro e w6 ⟨rfl, hd6⟩; have J6 : Hid (Below w5.heap.size w5 w6) := Lib.hid (by obtain ⟨n6, rfl⟩ := hd6; exact below_drewN (Below.refl _ _) n6); clear hd6)
    | fail)
  have K6 := Lib.hid (K5.out.trans (J6.out.mono K5.out.size))
  have E5 := J5.out.trans (J6.out.mono J5.out.size)
  have E4 := J4.out.trans (E5.mono J4.out.size)
  have E3 := J3.out.trans (E4.mono J3.out.size)
  have R26 := Lib.hid ((R2.out.below E3 (Nat.le_refl _)).more E3.size)
  have R36 := Lib.hid ((R3.out.below E4 (Nat.le_refl _)).more E4.size)
  have R46 := Lib.hid ((R4.out.below E5 (Nat.le_refl _)).more E5.size)
  clear E3 E4 E5 R2 R3 R4 R5 R45
  go_upto_region 12 with fail
  go_loopw [103] (fun i wr => ∃ k : Nat, k ≤ L.length ∧ i = .int .i64 k ∧ Below w6.heap.size w6 wr) (fun i _ => L.length - (intOf i).toNat)
  case atStart => exact ⟨0, by omega, by rfl, Below.refl _ _⟩
  case round =>
    obtain ⟨k, hk, rfl, hdr⟩ := hrel
    have Hdr := Lib.hid hdr
    clear hdr
    by_cases hlt : k < L.length
    · obtain ⟨ga, oa, hAa, hga, hca⟩ := R26.out.at (by rw [tellL_len]; exact hlt)
      obtain ⟨gb, ob, hAb, hgb, hcb⟩ := R36.out.at (by rw [tellL_len]; exact hlt)
      subst hAa hAb
      obtain ⟨x, hx⟩ : ∃ x, Hid ((tellL L)[k]'(by rw [tellL_len]; exact hlt) = x) := ⟨_, Lib.hid rfl⟩
      rw [hx.out] at hca hcb
      have r0 := (Hdr.out.cell (p := ⟨ga, oa + k * 4, none⟩) hga).trans (hca 0 _ rfl)
      have r1 := (Hdr.out.cell (p := ⟨ga, oa + k * 4 + 1, none⟩) hga).trans (hca 1 _ rfl)
      have r2 := (Hdr.out.cell (p := ⟨ga, oa + k * 4 + 2, none⟩) hga).trans (hca 2 _ rfl)
      have r3 := (Hdr.out.cell (p := ⟨ga, oa + k * 4 + 3, none⟩) hga).trans (hca 3 _ rfl)
      have q0 := (Hdr.out.cell (p := ⟨gb, ob + k * 4, none⟩) hgb).trans (hcb 0 _ rfl)
      have q1 := (Hdr.out.cell (p := ⟨gb, ob + k * 4 + 1, none⟩) hgb).trans (hcb 1 _ rfl)
      have q2 := (Hdr.out.cell (p := ⟨gb, ob + k * 4 + 2, none⟩) hgb).trans (hcb 2 _ rfl)
      have q3 := (Hdr.out.cell (p := ⟨gb, ob + k * 4 + 3, none⟩) hgb).trans (hcb 3 _ rfl)
      clear hca hcb
      have EN := neAct_f x.kind x.bell x.by_ x.call
      go_wp2
      go_quiet (fail)
      go_wp2
      go_roundw
      case rel => exact ⟨k + 1, by omega, by go_num, below_drewN Hdr.out _⟩
      case measure => simp [intOf]; omega
    · have KL := Lib.hid (K6.out.trans (Hdr.out.mono K6.out.size))
      have R2L := Lib.hid ((R26.out.below Hdr.out (Nat.le_refl _)).more Hdr.out.size)
      have R4L := Lib.hid ((R46.out.below Hdr.out (Nat.le_refl _)).more Hdr.out.size)
      clear R26 R36 R46
      have hUx := hB.out.later KL.out; have u0 := hUx.cell (i := 0) (by decide); have u1 := hUx.cell (i := 1) (by decide); have u2 := hUx.cell (i := 2) (by decide); have u3 := hUx.cell (i := 3) (by decide); have u4 := hUx.cell (i := 4) (by decide); have u5 := hUx.cell (i := 5) (by decide); have u6 := hUx.cell (i := 6) (by decide); have u7 := hUx.cell (i := 7) (by decide); have u8 := hUx.cell (i := 8) (by decide); clear hUx
      go_upto_region 18 with (first | (go_at_call 13; refine (hPB.out A2 c2 wr KL.out R2L.out).mono ?_; rintro e w7 ⟨P1, p1, P3, p3, P5, p5, rfl, hr1, hr3, hb7⟩; have RP1 := Lib.hid hr1; have RP3 := Lib.hid hr3; have J7 := Lib.hid hb7; clear hr1 hr3 hb7) | fail)
      clear u0 u1 u2 u3 u4 u5 u6 u7 u8
      obtain ⟨W7, hVe, hVb7, hX⟩ : ∃ V : World, Hid (w7.alloc (.cells #[Value.string d.name, .int .i64 d.stage, .slice P1 d.x.length p1, .string d.bob, .string d.sing, .int .i64 d.step, .string d.call, .string d.tru, .slice P3 d.rx.length p3] 36) = V) ∧ Hid (Below w7.heap.size w7 V) ∧ Hid (Cells V w7.heap.size 9 (fun i => (#[Value.string d.name, .int .i64 d.stage, .slice P1 d.x.length p1, .string d.bob, .string d.sing, .int .i64 d.step, .string d.call, .string d.tru, .slice P3 d.rx.length p3] : Array Value).getD i undef)) := ⟨_, Lib.hid rfl, Lib.hid ((Below.refl _ _).alloc (Nat.le_refl _) _), Lib.hid (Cells.newD _ #[Value.string d.name, .int .i64 d.stage, .slice P1 d.x.length p1, .string d.bob, .string d.sing, .int .i64 d.step, .string d.call, .string d.tru, .slice P3 d.rx.length p3] _)⟩
      rw [hVe.out]
      clear hVe
      have J77 := Lib.hid (J7.out.trans (hVb7.out.mono J7.out.size))
      have K7 := Lib.hid (KL.out.trans (J77.out.mono KL.out.size))
      have RP1' := Lib.hid ((RP1.out.below hVb7.out (Nat.le_refl _)).more hVb7.out.size)
      have RP3' := Lib.hid ((RP3.out.below hVb7.out (Nat.le_refl _)).more hVb7.out.size)
      clear RP1 RP3
      have hUx := hX.out; have x0 := hUx.cell (i := 0) (by decide); have x1 := hUx.cell (i := 1) (by decide); have x2 := hUx.cell (i := 2) (by decide); have x3 := hUx.cell (i := 3) (by decide); have x4 := hUx.cell (i := 4) (by decide); have x5 := hUx.cell (i := 5) (by decide); have x6 := hUx.cell (i := 6) (by decide); have x7 := hUx.cell (i := 7) (by decide); have x8 := hUx.cell (i := 8) (by decide); clear hUx
      go_upto_region 20 with (first
        | (go_at_call 42; refine (hWx.out P1 p1 P3 p3 W7 RP1'.out RP3'.out).mono ?_; rintro e w8 ⟨A8, c8, rfl, hb8⟩; have J8 := Lib.hid hb8; clear hb8; clear x0 x1 x2 x3 x4 x5 x6 x7 x8; have hUx := hX.out.later J8.out; have x0 := hUx.cell (i := 0) (by decide); have x1 := hUx.cell (i := 1) (by decide); have x2 := hUx.cell (i := 2) (by decide); have x3 := hUx.cell (i := 3) (by decide); have x4 := hUx.cell (i := 4) (by decide); have x5 := hUx.cell (i := 5) (by decide); have x6 := hUx.cell (i := 6) (by decide); have x7 := hUx.cell (i := 7) (by decide); have x8 := hUx.cell (i := 8) (by decide); clear hUx)
        | (go_at_call 45; refine (hRx.out P1 p1 P3 p3 w8 ((RP1'.out.below J8.out (Nat.le_refl _)).more J8.out.size) ((RP3'.out.below J8.out (Nat.le_refl _)).more J8.out.size) (HT.out.later (HBW.out.trans ((K7.out.trans (J8.out.mono K7.out.size)).mono HBW.out.size)))).mono ?_; rintro e w9 ⟨rfl, hb9⟩; have J9 := Lib.hid hb9; have K9 := Lib.hid (K7.out.trans ((J8.out.trans (hb9.mono J8.out.size)).mono K7.out.size)); clear hb9; clear x0 x1 x2 x3 x4 x5 x6 x7 x8; have u7 := (hB.out.later K9.out).cell (i := 7) (by decide))
        | fail)
      go_upto_region 22 with fail
      clear u7
      have hu8 := (hB.out.later K9.out).cell (i := 8) (by decide)
      go_upto_region 24 with fail
      clear hu8
      have E9 := J77.out.trans ((J8.out.trans (J9.out.mono J8.out.size)).mono J77.out.size)
      have R49 := Lib.hid ((R4L.out.below E9 (Nat.le_refl _)).more E9.size)
      clear E9 R4L R2L
      go_loopw [22, 158] (fun m i wr => ∃ k : Nat, k ≤ b.rx.length ∧ i = .int .i64 k ∧ m = .bool (cmB b.rx k) ∧ Below w9.heap.size w9 wr) (fun _ i _ => b.rx.length - (intOf i).toNat)
      case atStart => exact ⟨0, by omega, by rfl, rfl, Below.refl _ _⟩
      case round =>
        obtain ⟨k, hk, rfl, rfl, hdr⟩ := hrel
        have Hdr := Lib.hid hdr
        clear hdr
        by_cases hlt : k < b.rx.length
        · have KR := K9.out.trans (Hdr.out.mono K9.out.size)
          obtain ⟨ga, oa, hAa, hga, hca⟩ := (hri.out _ KR).at hlt
          simp only [Option.some.injEq, Addr.mk.injEq, and_true] at hAa
          obtain ⟨rfl, rfl⟩ := hAa
          have r0 : wr.cell? ⟨g, off + k * 2, none⟩ = some (.int .i64 b.rx[k].place) := hca 0 _ rfl
          have r1 : wr.cell? ⟨g, off + k * 2 + 1, none⟩ = some (.bool b.rx[k].deaf) := hca 1 _ rfl
          have hga' : g < wr.heap.size := hga
          have hsc := Lib.hid (cmB_succ hlt)
          obtain ⟨x, hx⟩ : ∃ x, Hid (b.rx[k] = x) := ⟨_, Lib.hid rfl⟩
          rw [hx.out] at r0 r1 hsc
          clear hca KR
          obtain ⟨q, hq⟩ : ∃ q, Hid (cmB b.rx k = q) := ⟨_, Lib.hid rfl⟩
          rw [hq.out] at hsc ⊢
          cases q
          · go_wp2
            go_roundw
            case rel => exact ⟨k + 1, by omega, by go_num, by rw [hsc.out]; rfl, Hdr.out.alloc Hdr.out.size _⟩
            case measure => simp [intOf]; omega
          · go_wp2
            go_roundw
            case rel => exact ⟨k + 1, by omega, by go_num, by rw [hsc.out]; simp, Hdr.out.alloc Hdr.out.size _⟩
            case measure => simp [intOf]; omega
        · obtain rfl : k = b.rx.length := by omega
          have KR := Lib.hid (K9.out.trans (Hdr.out.mono K9.out.size))
          have R4R := Lib.hid ((R49.out.below Hdr.out (Nat.le_refl _)).more Hdr.out.size)
          clear R49
          have hUx := hB.out.later KR.out; have u0 := hUx.cell (i := 0) (by decide); have u1 := hUx.cell (i := 1) (by decide); have u2 := hUx.cell (i := 2) (by decide); have u3 := hUx.cell (i := 3) (by decide); have u4 := hUx.cell (i := 4) (by decide); have u5 := hUx.cell (i := 5) (by decide); have u6 := hUx.cell (i := 6) (by decide); have u7 := hUx.cell (i := 7) (by decide); have u8 := hUx.cell (i := 8) (by decide); clear hUx
          obtain ⟨q, hq⟩ : ∃ q, Hid (cmB b.rx b.rx.length = q) := ⟨_, Lib.hid rfl⟩
          rw [hq.out] at hcal ⊢
          go_upto_region 29 with (first | (go_at_call 21; refine (hST.out wr KR.out).mono ?_; rintro e wS ⟨S1, s1, S3, s3, rfl, hr1, hr3, hbS⟩; have RS1 := Lib.hid hr1; have RS3 := Lib.hid hr3; have JS := Lib.hid hbS; clear hr1 hr3 hbS) | fail)
          clear u0 u1 u2 u3 u4 u5 u6 u7 u8
          obtain ⟨WS, hVe, hVbS, hY0⟩ : ∃ V : World, Hid (wS.alloc (.cells #[Value.string s.name, .int .i64 s.stage, .slice S1 s.x.length s1, .string s.bob, .string s.sing, .int .i64 s.step, .string s.call, .string s.tru, .slice S3 s.rx.length s3] 36) = V) ∧ Hid (Below wS.heap.size wS V) ∧ Hid (Cells V wS.heap.size 9 (fun i => (#[Value.string s.name, .int .i64 s.stage, .slice S1 s.x.length s1, .string s.bob, .string s.sing, .int .i64 s.step, .string s.call, .string s.tru, .slice S3 s.rx.length s3] : Array Value).getD i undef)) := ⟨_, Lib.hid rfl, Lib.hid ((Below.refl _ _).alloc (Nat.le_refl _) _), Lib.hid (Cells.newD _ #[Value.string s.name, .int .i64 s.stage, .slice S1 s.x.length s1, .string s.bob, .string s.sing, .int .i64 s.step, .string s.call, .string s.tru, .slice S3 s.rx.length s3] _)⟩
          rw [hVe.out]
          clear hVe
          have JSS := Lib.hid (JS.out.trans (hVbS.out.mono JS.out.size))
          have KS := Lib.hid (KR.out.trans (JSS.out.mono KR.out.size))
          have hUx := hY0.out; have x0 := hUx.cell (i := 0) (by decide); have x1 := hUx.cell (i := 1) (by decide); have x2 := hUx.cell (i := 2) (by decide); have x3 := hUx.cell (i := 3) (by decide); have x4 := hUx.cell (i := 4) (by decide); have x5 := hUx.cell (i := 5) (by decide); have x6 := hUx.cell (i := 6) (by decide); have x7 := hUx.cell (i := 7) (by decide); have x8 := hUx.cell (i := 8) (by decide); clear hUx
          go_upto_region 30 with (first
            | (go_at_call 42; refine (hWs.out S1 s1 S3 s3 WS ((RS1.out.below hVbS.out (Nat.le_refl _)).more hVbS.out.size) ((RS3.out.below hVbS.out (Nat.le_refl _)).more hVbS.out.size)).mono ?_; rintro e wT ⟨A9, c9, rfl, hr9, hb9⟩; have R9 := Lib.hid hr9; have JT := Lib.hid hb9; clear hr9 hb9)
            | fail)
          clear x0 x1 x2 x3 x4 x5 x6 x7 x8
          have KT := Lib.hid (KS.out.trans (JT.out.mono KS.out.size))
          have ET := JSS.out.trans (JT.out.mono JSS.out.size)
          have R4T := Lib.hid ((R4R.out.below ET (Nat.le_refl _)).more ET.size)
          clear ET R4R
          have KE := Lib.hid (HBW.out.trans (KT.out.mono HBW.out.size))
          cases q
          · go_upto_region 32 with fail
            skip
            go_upto_region 33 with (first | (go_at_call 46; refine (drawNewBand_any A' c' l' _ ((H'.out.below KE.out (Nat.le_refl _)).more (KE.out).size) Hb'.out hl').mono ?_; rintro e wa ⟨m, kb, ks, rfl, hmk, hba⟩; have HMK := Lib.hid hmk; have HBa := Lib.hid ((KE.out).trans (hba.mono (KE.out).size)); clear hmk hba) | fail)
            obtain ⟨Va, hVe, hVb, hM, hKc⟩ : ∃ V : World, Hid (((wa.alloc (.cells #[.string m.name, .int .i64 m.stage, .slice m.A m.x.length m.c] 26)).alloc (.cells #[.string kb, .string ks] 28)) = V) ∧ Hid (Below wa.heap.size wa V) ∧ Hid (Cells V wa.heap.size 3 (fun i => (#[Value.string m.name, .int .i64 m.stage, .slice m.A m.x.length m.c] : Array Value).getD i undef)) ∧ Hid (Cells V (wa.heap.size + 1) 2 (fun i => (#[Value.string kb, .string ks] : Array Value).getD i undef)) := by
              have z1 : wa.heap.size + 1 = (wa.alloc (.cells #[.string m.name, .int .i64 m.stage, .slice m.A m.x.length m.c] 26)).heap.size := by simp
              refine ⟨_, Lib.hid rfl, Lib.hid (((Below.refl _ _).alloc (Nat.le_refl _) _).alloc (by simp) _), Lib.hid ?_, Lib.hid ?_⟩
              · exact (Cells.newD _ #[.string m.name, .int .i64 m.stage, .slice m.A m.x.length m.c] _).alloc _
              · rw [z1]; exact Cells.newD _ #[.string kb, .string ks] _
            rw [hVe.out]
            clear hVe
            have HBV : Hid (Below w.heap.size w Va) := Lib.hid (HBa.out.trans (hVb.out.mono HBa.out.size))
            have HMV : Hid (∀ W, Below Va.heap.size Va W → MkOk m kb ks W) := Lib.hid fun W hb => HMK.out W ((Chg.of_below hVb.out).below hb)
            obtain ⟨D, hD⟩ : ∃ D, Hid (newD m kb ks = D) := ⟨_, Lib.hid rfl⟩
            have hsm : Hid (D.1.x.length ≤ 1048576 ∧ D.1.rx.length ≤ 1048576) := Lib.hid (by rw [← hD.out]; exact newD_small (HMV.out Va (Below.refl _ _)).xl)
            obtain ⟨dn, okn⟩ := D
            simp only at hsm
            have hUx := hM.out; have m0 := hUx.cell (i := 0) (by decide); have m1 := hUx.cell (i := 1) (by decide); have m2 := hUx.cell (i := 2) (by decide); clear hUx; have hUx := hKc.out; have k0 := hUx.cell (i := 0) (by decide); have k1 := hUx.cell (i := 1) (by decide); clear hUx
            go_upto_region 34 with (first | (go_at_call 47; refine (newD_ret hD.out (iNewBand_any m kb ks Va (HMV.out _ (Below.refl _ _)).rd (HMV.out _ (Below.refl _ _)).nm (HMV.out _ (Below.refl _ _)).xl (HMV.out _ (Below.refl _ _)).xs (HMV.out _ (Below.refl _ _)).bs (HMV.out _ (Below.refl _ _)).ss)).mono ?_; rintro e wb ⟨N1, n1, N3, n3, rfl, hn1, hn3, hbb⟩; have HN1 := Lib.hid hn1; have HN3 := Lib.hid hn3; have HBb := Lib.hid hbb; clear hn1 hn3 hbb) | fail)
            clear m0 m1 m2 k0 k1
            obtain ⟨Vb, hVe, hVbb, hY⟩ : ∃ V : World, Hid (wb.alloc (.cells #[Value.string dn.name, .int .i64 dn.stage, .slice N1 dn.x.length n1, .string dn.bob, .string dn.sing, .int .i64 dn.step, .string dn.call, .string dn.tru, .slice N3 dn.rx.length n3] 36) = V) ∧ Hid (Below wb.heap.size wb V) ∧ Hid (Cells V wb.heap.size 9 (fun i => (#[Value.string dn.name, .int .i64 dn.stage, .slice N1 dn.x.length n1, .string dn.bob, .string dn.sing, .int .i64 dn.step, .string dn.call, .string dn.tru, .slice N3 dn.rx.length n3] : Array Value).getD i undef)) := ⟨_, Lib.hid rfl, Lib.hid ((Below.refl _ _).alloc (Nat.le_refl _) _), Lib.hid (Cells.newD _ #[Value.string dn.name, .int .i64 dn.stage, .slice N1 dn.x.length n1, .string dn.bob, .string dn.sing, .int .i64 dn.step, .string dn.call, .string dn.tru, .slice N3 dn.rx.length n3] _)⟩
            rw [hVe.out]
            clear hVe
            have KVb : Hid (Below Va.heap.size Va Vb) := Lib.hid (HBb.out.trans (hVbb.out.mono HBb.out.size))
            have hUx := hM.out.later KVb.out; have m0 := hUx.cell (i := 0) (by decide); have m1 := hUx.cell (i := 1) (by decide); have m2 := hUx.cell (i := 2) (by decide); clear hUx; have hUx := hKc.out.later KVb.out; have k0 := hUx.cell (i := 0) (by decide); have k1 := hUx.cell (i := 1) (by decide); clear hUx
            go_upto_region 35 with (first | (go_at_call 48; refine (newD_ret hD.out (sNewBand_any m kb ks Vb (HMV.out _ KVb.out).rd (HMV.out _ KVb.out).nm (HMV.out _ KVb.out).xl (HMV.out _ KVb.out).xs (HMV.out _ KVb.out).bs (HMV.out _ KVb.out).ss)).mono ?_; rintro e wc ⟨M1, m1', M3, m3', rfl, hm1, hm3, hbc⟩; have HM1 := Lib.hid hm1; have HM3 := Lib.hid hm3; have HBc := Lib.hid hbc; clear hm1 hm3 hbc) | fail)
            clear m0 m1 m2 k0 k1
            obtain ⟨Vc, hVe, hVcb, hZ⟩ : ∃ V : World, Hid (wc.alloc (.cells #[Value.string dn.name, .int .i64 dn.stage, .slice M1 dn.x.length m1', .string dn.bob, .string dn.sing, .int .i64 dn.step, .string dn.call, .string dn.tru, .slice M3 dn.rx.length m3'] 36) = V) ∧ Hid (Below wc.heap.size wc V) ∧ Hid (Cells V wc.heap.size 9 (fun i => (#[Value.string dn.name, .int .i64 dn.stage, .slice M1 dn.x.length m1', .string dn.bob, .string dn.sing, .int .i64 dn.step, .string dn.call, .string dn.tru, .slice M3 dn.rx.length m3'] : Array Value).getD i undef)) := ⟨_, Lib.hid rfl, Lib.hid ((Below.refl _ _).alloc (Nat.le_refl _) _), Lib.hid (Cells.newD _ #[Value.string dn.name, .int .i64 dn.stage, .slice M1 dn.x.length m1', .string dn.bob, .string dn.sing, .int .i64 dn.step, .string dn.call, .string dn.tru, .slice M3 dn.rx.length m3'] _)⟩
            rw [hVe.out]
            clear hVe
            have KVc : Hid (Below Vb.heap.size Vb Vc) := Lib.hid (HBc.out.trans (hVcb.out.mono HBc.out.size))
            have HBVc : Hid (Below w.heap.size w Vc) := Lib.hid (HBV.out.trans ((KVb.out.trans (KVc.out.mono KVb.out.size)).mono HBV.out.size))
            go_upto_region 36 with (first | (go_at_call 49; refine (drawRowOfBand_any A' c' l' _ ((H'.out.below HBVc.out (Nat.le_refl _)).more HBVc.out.size) Hb'.out hl' (HT.out.later HBVc.out)).mono ?_; rintro e wd ⟨b2, rfl, hok2, hbd⟩; have HOK2 := Lib.hid hok2; have HBd := Lib.hid hbd; clear hok2 hbd) | fail)
            obtain ⟨Vd, hVe, hVdb, hC⟩ : ∃ V : World, Hid (wd.alloc (.cells #[.string b2.m.name, .int .i64 b2.m.stage, .slice b2.m.A b2.m.x.length b2.m.c, .string b2.bob, .string b2.sing, .int .i64 b2.step, .string b2.call, .string b2.tru, .slice b2.RA b2.rx.length b2.rc] 36) = V) ∧ Hid (Below wd.heap.size wd V) ∧ Hid (Cells V wd.heap.size 9 (fun i => (#[Value.string b2.m.name, .int .i64 b2.m.stage, .slice b2.m.A b2.m.x.length b2.m.c, .string b2.bob, .string b2.sing, .int .i64 b2.step, .string b2.call, .string b2.tru, .slice b2.RA b2.rx.length b2.rc] : Array Value).getD i undef)) := ⟨_, Lib.hid rfl, Lib.hid ((Below.refl _ _).alloc (Nat.le_refl _) _), Lib.hid (Cells.newD _ #[.string b2.m.name, .int .i64 b2.m.stage, .slice b2.m.A b2.m.x.length b2.m.c, .string b2.bob, .string b2.sing, .int .i64 b2.step, .string b2.call, .string b2.tru, .slice b2.RA b2.rx.length b2.rc] _)⟩
            rw [hVe.out]
            clear hVe
            have KVd : Hid (Below Vc.heap.size Vc Vd) := Lib.hid (HBd.out.trans (hVdb.out.mono HBd.out.size))
            have HBVd : Hid (Below w.heap.size w Vd) := Lib.hid (HBVc.out.trans (KVd.out.mono HBVc.out.size))
            have HOd : Hid (∀ W, Below Vd.heap.size Vd W → b2.Ok W) := Lib.hid fun W hb => HOK2.out W ((Chg.of_below hVdb.out).below hb)
            obtain ⟨S, hS⟩ : ∃ S, Hid (rowR b2 = S) := ⟨_, Lib.hid rfl⟩
            have hSr : Hid (S.2 = true → isRow S.1) := Lib.hid (by rw [← hS.out]; exact rowR_row)
            have hS8 : S.1.size ≤ 8 := by rw [← hS.out]; exact rowR_size b2
            have hIR : Hid (∀ W, Below Vd.heap.size Vd W → Calls Tryz.prog 45 #[.agg #[.string b2.m.name, .int .i64 b2.m.stage, .slice b2.m.A b2.m.x.length b2.m.c, .string b2.bob, .string b2.sing, .int .i64 b2.step, .string b2.call, .string b2.tru, .slice b2.RA b2.rx.length b2.rc]] W fun e w' => e = .returned (.tuple #[.string S.1, .bool S.2]) ∧ Below W.heap.size W w') := Lib.hid fun W hb => by
              have := iRowB_r b2 W (HOd.out W hb) (HT.out.later (HBVd.out.trans (hb.mono HBVd.out.size)))
              rw [hS.out] at this; exact this
            have hSR : Hid (∀ W, Below Vd.heap.size Vd W → Calls Tryz.prog 50 #[.agg #[.string b2.m.name, .int .i64 b2.m.stage, .slice b2.m.A b2.m.x.length b2.m.c, .string b2.bob, .string b2.sing, .int .i64 b2.step, .string b2.call, .string b2.tru, .slice b2.RA b2.rx.length b2.rc]] W fun e w' => e = .returned (.tuple #[.string S.1, .bool S.2]) ∧ Below W.heap.size W w') := Lib.hid fun W hb => by
              have := sRowB_r b2 W (HOd.out W hb) (HT.out.later (HBVd.out.trans (hb.mono HBVd.out.size)))
              rw [hS.out] at this; exact this
            obtain ⟨rw_, okr⟩ := S
            simp only at hSr hS8 hIR hSR
            have hUx := hC.out; have p0 := hUx.cell (i := 0) (by decide); have p1 := hUx.cell (i := 1) (by decide); have p2 := hUx.cell (i := 2) (by decide); have p3 := hUx.cell (i := 3) (by decide); have p4 := hUx.cell (i := 4) (by decide); have p5 := hUx.cell (i := 5) (by decide); have p6 := hUx.cell (i := 6) (by decide); have p7 := hUx.cell (i := 7) (by decide); have p8 := hUx.cell (i := 8) (by decide); clear hUx
            go_upto_region 38 with (first
              | (go_at_call 45; refine (hIR.out Vd (Below.refl _ _)).mono ?_; rintro e we ⟨rfl, hbe⟩; have HBe := Lib.hid hbe; clear hbe; clear p0 p1 p2 p3 p4 p5 p6 p7 p8; have hUx := hC.out.later HBe.out; have p0 := hUx.cell (i := 0) (by decide); have p1 := hUx.cell (i := 1) (by decide); have p2 := hUx.cell (i := 2) (by decide); have p3 := hUx.cell (i := 3) (by decide); have p4 := hUx.cell (i := 4) (by decide); have p5 := hUx.cell (i := 5) (by decide); have p6 := hUx.cell (i := 6) (by decide); have p7 := hUx.cell (i := 7) (by decide); have p8 := hUx.cell (i := 8) (by decide); clear hUx)
              | (go_at_call 50; refine (hSR.out we HBe.out).mono ?_; rintro e wf ⟨rfl, hbf⟩; have HBf := Lib.hid (HBe.out.trans (hbf.mono HBe.out.size)); clear hbf)
              | fail)
            clear p0 p1 p2 p3 p4 p5 p6 p7 p8
            have KVf : Hid (Below Vc.heap.size Vc wf) := Lib.hid (KVd.out.trans (HBf.out.mono KVd.out.size))
            have KVbf : Hid (Below Vb.heap.size Vb wf) := Lib.hid (KVc.out.trans (KVf.out.mono KVc.out.size))
            have HBwf : Hid (Below w.heap.size w wf) := Lib.hid (HBVd.out.trans (HBf.out.mono HBVd.out.size))
            have RY1 := Lib.hid ((HN1.out.below (hVbb.out.trans (KVbf.out.mono hVbb.out.size)) (Nat.le_refl _)).more (hVbb.out.trans (KVbf.out.mono hVbb.out.size)).size)
            have RY3 := Lib.hid ((HN3.out.below (hVbb.out.trans (KVbf.out.mono hVbb.out.size)) (Nat.le_refl _)).more (hVbb.out.trans (KVbf.out.mono hVbb.out.size)).size)
            have RZ1 := Lib.hid ((HM1.out.below (hVcb.out.trans (KVf.out.mono hVcb.out.size)) (Nat.le_refl _)).more (hVcb.out.trans (KVf.out.mono hVcb.out.size)).size)
            have RZ3 := Lib.hid ((HM3.out.below (hVcb.out.trans (KVf.out.mono hVcb.out.size)) (Nat.le_refl _)).more (hVcb.out.trans (KVf.out.mono hVcb.out.size)).size)
            have hUx := hY.out.later KVbf.out; have y0 := hUx.cell (i := 0) (by decide); have y1 := hUx.cell (i := 1) (by decide); have y2 := hUx.cell (i := 2) (by decide); have y3 := hUx.cell (i := 3) (by decide); have y4 := hUx.cell (i := 4) (by decide); have y5 := hUx.cell (i := 5) (by decide); have y6 := hUx.cell (i := 6) (by decide); have y7 := hUx.cell (i := 7) (by decide); have y8 := hUx.cell (i := 8) (by decide); clear hUx
            have hUx := hZ.out.later KVf.out; have z0 := hUx.cell (i := 0) (by decide); have z1 := hUx.cell (i := 1) (by decide); have z2 := hUx.cell (i := 2) (by decide); have z3 := hUx.cell (i := 3) (by decide); have z4 := hUx.cell (i := 4) (by decide); have z5 := hUx.cell (i := 5) (by decide); have z6 := hUx.cell (i := 6) (by decide); have z7 := hUx.cell (i := 7) (by decide); have z8 := hUx.cell (i := 8) (by decide); clear hUx
            go_upto_region 40 with (first
              | (go_at_call 15; refine (sameBand_t dn N1 n1 N3 n3 M1 m1' M3 m3' wf RY1.out RZ1.out RY3.out RZ3.out hsm.out.1 hsm.out.2).mono ?_; rintro e wg ⟨rfl, hbg⟩; have HBg := Lib.hid (HBwf.out.trans (hbg.mono HBwf.out.size)); clear hbg)
              | fail)
            clear y0 y1 y2 y3 y4 y5 y6 y7 y8
            clear z0 z1 z2 z3 z4 z5 z6 z7 z8
            cases okr
            · go_wp2
              go_ret
              exact ⟨rfl, HBg.out⟩
            · have hGR := hSr.out rfl
              have eGR := B_t hGR
              go_wp2_with (first | (go_at_call 51; refine (calls_bool (goodRow_any rw_ _) eGR).mono ?_; rintro e wh ⟨rfl, rfl⟩) | fail)
              go_ret
              exact ⟨rfl, HBg.out⟩
          · have hLL := hcal.out rfl
            subst hLL
            go_upto_region 32 with (first
              | (go_at_call 44; refine (sameInts_t L2 A9 A4 c9 c4 wT R9.out R4T.out (by omega)).mono ?_; rintro e wU ⟨rfl, hd6⟩; have KU : Hid (Below w.heap.size w wU) := Lib.hid (by obtain ⟨n6, rfl⟩ := hd6; exact below_drewN KE.out n6); clear hd6)
              | fail)
            skip
            go_upto_region 33 with (first | (go_at_call 46; refine (drawNewBand_any A' c' l' _ ((H'.out.below KU.out (Nat.le_refl _)).more (KU.out).size) Hb'.out hl').mono ?_; rintro e wa ⟨m, kb, ks, rfl, hmk, hba⟩; have HMK := Lib.hid hmk; have HBa := Lib.hid ((KU.out).trans (hba.mono (KU.out).size)); clear hmk hba) | fail)
            obtain ⟨Va, hVe, hVb, hM, hKc⟩ : ∃ V : World, Hid (((wa.alloc (.cells #[.string m.name, .int .i64 m.stage, .slice m.A m.x.length m.c] 26)).alloc (.cells #[.string kb, .string ks] 28)) = V) ∧ Hid (Below wa.heap.size wa V) ∧ Hid (Cells V wa.heap.size 3 (fun i => (#[Value.string m.name, .int .i64 m.stage, .slice m.A m.x.length m.c] : Array Value).getD i undef)) ∧ Hid (Cells V (wa.heap.size + 1) 2 (fun i => (#[Value.string kb, .string ks] : Array Value).getD i undef)) := by
              have z1 : wa.heap.size + 1 = (wa.alloc (.cells #[.string m.name, .int .i64 m.stage, .slice m.A m.x.length m.c] 26)).heap.size := by simp
              refine ⟨_, Lib.hid rfl, Lib.hid (((Below.refl _ _).alloc (Nat.le_refl _) _).alloc (by simp) _), Lib.hid ?_, Lib.hid ?_⟩
              · exact (Cells.newD _ #[.string m.name, .int .i64 m.stage, .slice m.A m.x.length m.c] _).alloc _
              · rw [z1]; exact Cells.newD _ #[.string kb, .string ks] _
            rw [hVe.out]
            clear hVe
            have HBV : Hid (Below w.heap.size w Va) := Lib.hid (HBa.out.trans (hVb.out.mono HBa.out.size))
            have HMV : Hid (∀ W, Below Va.heap.size Va W → MkOk m kb ks W) := Lib.hid fun W hb => HMK.out W ((Chg.of_below hVb.out).below hb)
            obtain ⟨D, hD⟩ : ∃ D, Hid (newD m kb ks = D) := ⟨_, Lib.hid rfl⟩
            have hsm : Hid (D.1.x.length ≤ 1048576 ∧ D.1.rx.length ≤ 1048576) := Lib.hid (by rw [← hD.out]; exact newD_small (HMV.out Va (Below.refl _ _)).xl)
            obtain ⟨dn, okn⟩ := D
            simp only at hsm
            have hUx := hM.out; have m0 := hUx.cell (i := 0) (by decide); have m1 := hUx.cell (i := 1) (by decide); have m2 := hUx.cell (i := 2) (by decide); clear hUx; have hUx := hKc.out; have k0 := hUx.cell (i := 0) (by decide); have k1 := hUx.cell (i := 1) (by decide); clear hUx
            go_upto_region 34 with (first | (go_at_call 47; refine (newD_ret hD.out (iNewBand_any m kb ks Va (HMV.out _ (Below.refl _ _)).rd (HMV.out _ (Below.refl _ _)).nm (HMV.out _ (Below.refl _ _)).xl (HMV.out _ (Below.refl _ _)).xs (HMV.out _ (Below.refl _ _)).bs (HMV.out _ (Below.refl _ _)).ss)).mono ?_; rintro e wb ⟨N1, n1, N3, n3, rfl, hn1, hn3, hbb⟩; have HN1 := Lib.hid hn1; have HN3 := Lib.hid hn3; have HBb := Lib.hid hbb; clear hn1 hn3 hbb) | fail)
            clear m0 m1 m2 k0 k1
            obtain ⟨Vb, hVe, hVbb, hY⟩ : ∃ V : World, Hid (wb.alloc (.cells #[Value.string dn.name, .int .i64 dn.stage, .slice N1 dn.x.length n1, .string dn.bob, .string dn.sing, .int .i64 dn.step, .string dn.call, .string dn.tru, .slice N3 dn.rx.length n3] 36) = V) ∧ Hid (Below wb.heap.size wb V) ∧ Hid (Cells V wb.heap.size 9 (fun i => (#[Value.string dn.name, .int .i64 dn.stage, .slice N1 dn.x.length n1, .string dn.bob, .string dn.sing, .int .i64 dn.step, .string dn.call, .string dn.tru, .slice N3 dn.rx.length n3] : Array Value).getD i undef)) := ⟨_, Lib.hid rfl, Lib.hid ((Below.refl _ _).alloc (Nat.le_refl _) _), Lib.hid (Cells.newD _ #[Value.string dn.name, .int .i64 dn.stage, .slice N1 dn.x.length n1, .string dn.bob, .string dn.sing, .int .i64 dn.step, .string dn.call, .string dn.tru, .slice N3 dn.rx.length n3] _)⟩
            rw [hVe.out]
            clear hVe
            have KVb : Hid (Below Va.heap.size Va Vb) := Lib.hid (HBb.out.trans (hVbb.out.mono HBb.out.size))
            have hUx := hM.out.later KVb.out; have m0 := hUx.cell (i := 0) (by decide); have m1 := hUx.cell (i := 1) (by decide); have m2 := hUx.cell (i := 2) (by decide); clear hUx; have hUx := hKc.out.later KVb.out; have k0 := hUx.cell (i := 0) (by decide); have k1 := hUx.cell (i := 1) (by decide); clear hUx
            go_upto_region 35 with (first | (go_at_call 48; refine (newD_ret hD.out (sNewBand_any m kb ks Vb (HMV.out _ KVb.out).rd (HMV.out _ KVb.out).nm (HMV.out _ KVb.out).xl (HMV.out _ KVb.out).xs (HMV.out _ KVb.out).bs (HMV.out _ KVb.out).ss)).mono ?_; rintro e wc ⟨M1, m1', M3, m3', rfl, hm1, hm3, hbc⟩; have HM1 := Lib.hid hm1; have HM3 := Lib.hid hm3; have HBc := Lib.hid hbc; clear hm1 hm3 hbc) | fail)
            clear m0 m1 m2 k0 k1
            obtain ⟨Vc, hVe, hVcb, hZ⟩ : ∃ V : World, Hid (wc.alloc (.cells #[Value.string dn.name, .int .i64 dn.stage, .slice M1 dn.x.length m1', .string dn.bob, .string dn.sing, .int .i64 dn.step, .string dn.call, .string dn.tru, .slice M3 dn.rx.length m3'] 36) = V) ∧ Hid (Below wc.heap.size wc V) ∧ Hid (Cells V wc.heap.size 9 (fun i => (#[Value.string dn.name, .int .i64 dn.stage, .slice M1 dn.x.length m1', .string dn.bob, .string dn.sing, .int .i64 dn.step, .string dn.call, .string dn.tru, .slice M3 dn.rx.length m3'] : Array Value).getD i undef)) := ⟨_, Lib.hid rfl, Lib.hid ((Below.refl _ _).alloc (Nat.le_refl _) _), Lib.hid (Cells.newD _ #[Value.string dn.name, .int .i64 dn.stage, .slice M1 dn.x.length m1', .string dn.bob, .string dn.sing, .int .i64 dn.step, .string dn.call, .string dn.tru, .slice M3 dn.rx.length m3'] _)⟩
            rw [hVe.out]
            clear hVe
            have KVc : Hid (Below Vb.heap.size Vb Vc) := Lib.hid (HBc.out.trans (hVcb.out.mono HBc.out.size))
            have HBVc : Hid (Below w.heap.size w Vc) := Lib.hid (HBV.out.trans ((KVb.out.trans (KVc.out.mono KVb.out.size)).mono HBV.out.size))
            go_upto_region 36 with (first | (go_at_call 49; refine (drawRowOfBand_any A' c' l' _ ((H'.out.below HBVc.out (Nat.le_refl _)).more HBVc.out.size) Hb'.out hl' (HT.out.later HBVc.out)).mono ?_; rintro e wd ⟨b2, rfl, hok2, hbd⟩; have HOK2 := Lib.hid hok2; have HBd := Lib.hid hbd; clear hok2 hbd) | fail)
            obtain ⟨Vd, hVe, hVdb, hC⟩ : ∃ V : World, Hid (wd.alloc (.cells #[.string b2.m.name, .int .i64 b2.m.stage, .slice b2.m.A b2.m.x.length b2.m.c, .string b2.bob, .string b2.sing, .int .i64 b2.step, .string b2.call, .string b2.tru, .slice b2.RA b2.rx.length b2.rc] 36) = V) ∧ Hid (Below wd.heap.size wd V) ∧ Hid (Cells V wd.heap.size 9 (fun i => (#[Value.string b2.m.name, .int .i64 b2.m.stage, .slice b2.m.A b2.m.x.length b2.m.c, .string b2.bob, .string b2.sing, .int .i64 b2.step, .string b2.call, .string b2.tru, .slice b2.RA b2.rx.length b2.rc] : Array Value).getD i undef)) := ⟨_, Lib.hid rfl, Lib.hid ((Below.refl _ _).alloc (Nat.le_refl _) _), Lib.hid (Cells.newD _ #[.string b2.m.name, .int .i64 b2.m.stage, .slice b2.m.A b2.m.x.length b2.m.c, .string b2.bob, .string b2.sing, .int .i64 b2.step, .string b2.call, .string b2.tru, .slice b2.RA b2.rx.length b2.rc] _)⟩
            rw [hVe.out]
            clear hVe
            have KVd : Hid (Below Vc.heap.size Vc Vd) := Lib.hid (HBd.out.trans (hVdb.out.mono HBd.out.size))
            have HBVd : Hid (Below w.heap.size w Vd) := Lib.hid (HBVc.out.trans (KVd.out.mono HBVc.out.size))
            have HOd : Hid (∀ W, Below Vd.heap.size Vd W → b2.Ok W) := Lib.hid fun W hb => HOK2.out W ((Chg.of_below hVdb.out).below hb)
            obtain ⟨S, hS⟩ : ∃ S, Hid (rowR b2 = S) := ⟨_, Lib.hid rfl⟩
            have hSr : Hid (S.2 = true → isRow S.1) := Lib.hid (by rw [← hS.out]; exact rowR_row)
            have hS8 : S.1.size ≤ 8 := by rw [← hS.out]; exact rowR_size b2
            have hIR : Hid (∀ W, Below Vd.heap.size Vd W → Calls Tryz.prog 45 #[.agg #[.string b2.m.name, .int .i64 b2.m.stage, .slice b2.m.A b2.m.x.length b2.m.c, .string b2.bob, .string b2.sing, .int .i64 b2.step, .string b2.call, .string b2.tru, .slice b2.RA b2.rx.length b2.rc]] W fun e w' => e = .returned (.tuple #[.string S.1, .bool S.2]) ∧ Below W.heap.size W w') := Lib.hid fun W hb => by
              have := iRowB_r b2 W (HOd.out W hb) (HT.out.later (HBVd.out.trans (hb.mono HBVd.out.size)))
              rw [hS.out] at this; exact this
            have hSR : Hid (∀ W, Below Vd.heap.size Vd W → Calls Tryz.prog 50 #[.agg #[.string b2.m.name, .int .i64 b2.m.stage, .slice b2.m.A b2.m.x.length b2.m.c, .string b2.bob, .string b2.sing, .int .i64 b2.step, .string b2.call, .string b2.tru, .slice b2.RA b2.rx.length b2.rc]] W fun e w' => e = .returned (.tuple #[.string S.1, .bool S.2]) ∧ Below W.heap.size W w') := Lib.hid fun W hb => by
              have := sRowB_r b2 W (HOd.out W hb) (HT.out.later (HBVd.out.trans (hb.mono HBVd.out.size)))
              rw [hS.out] at this; exact this
            obtain ⟨rw_, okr⟩ := S
            simp only at hSr hS8 hIR hSR
            have hUx := hC.out; have p0 := hUx.cell (i := 0) (by decide); have p1 := hUx.cell (i := 1) (by decide); have p2 := hUx.cell (i := 2) (by decide); have p3 := hUx.cell (i := 3) (by decide); have p4 := hUx.cell (i := 4) (by decide); have p5 := hUx.cell (i := 5) (by decide); have p6 := hUx.cell (i := 6) (by decide); have p7 := hUx.cell (i := 7) (by decide); have p8 := hUx.cell (i := 8) (by decide); clear hUx
            go_upto_region 38 with (first
              | (go_at_call 45; refine (hIR.out Vd (Below.refl _ _)).mono ?_; rintro e we ⟨rfl, hbe⟩; have HBe := Lib.hid hbe; clear hbe; clear p0 p1 p2 p3 p4 p5 p6 p7 p8; have hUx := hC.out.later HBe.out; have p0 := hUx.cell (i := 0) (by decide); have p1 := hUx.cell (i := 1) (by decide); have p2 := hUx.cell (i := 2) (by decide); have p3 := hUx.cell (i := 3) (by decide); have p4 := hUx.cell (i := 4) (by decide); have p5 := hUx.cell (i := 5) (by decide); have p6 := hUx.cell (i := 6) (by decide); have p7 := hUx.cell (i := 7) (by decide); have p8 := hUx.cell (i := 8) (by decide); clear hUx)
              | (go_at_call 50; refine (hSR.out we HBe.out).mono ?_; rintro e wf ⟨rfl, hbf⟩; have HBf := Lib.hid (HBe.out.trans (hbf.mono HBe.out.size)); clear hbf)
              | fail)
            clear p0 p1 p2 p3 p4 p5 p6 p7 p8
            have KVf : Hid (Below Vc.heap.size Vc wf) := Lib.hid (KVd.out.trans (HBf.out.mono KVd.out.size))
            have KVbf : Hid (Below Vb.heap.size Vb wf) := Lib.hid (KVc.out.trans (KVf.out.mono KVc.out.size))
            have HBwf : Hid (Below w.heap.size w wf) := Lib.hid (HBVd.out.trans (HBf.out.mono HBVd.out.size))
            have RY1 := Lib.hid ((HN1.out.below (hVbb.out.trans (KVbf.out.mono hVbb.out.size)) (Nat.le_refl _)).more (hVbb.out.trans (KVbf.out.mono hVbb.out.size)).size)
            have RY3 := Lib.hid ((HN3.out.below (hVbb.out.trans (KVbf.out.mono hVbb.out.size)) (Nat.le_refl _)).more (hVbb.out.trans (KVbf.out.mono hVbb.out.size)).size)
            have RZ1 := Lib.hid ((HM1.out.below (hVcb.out.trans (KVf.out.mono hVcb.out.size)) (Nat.le_refl _)).more (hVcb.out.trans (KVf.out.mono hVcb.out.size)).size)
            have RZ3 := Lib.hid ((HM3.out.below (hVcb.out.trans (KVf.out.mono hVcb.out.size)) (Nat.le_refl _)).more (hVcb.out.trans (KVf.out.mono hVcb.out.size)).size)
            have hUx := hY.out.later KVbf.out; have y0 := hUx.cell (i := 0) (by decide); have y1 := hUx.cell (i := 1) (by decide); have y2 := hUx.cell (i := 2) (by decide); have y3 := hUx.cell (i := 3) (by decide); have y4 := hUx.cell (i := 4) (by decide); have y5 := hUx.cell (i := 5) (by decide); have y6 := hUx.cell (i := 6) (by decide); have y7 := hUx.cell (i := 7) (by decide); have y8 := hUx.cell (i := 8) (by decide); clear hUx
            have hUx := hZ.out.later KVf.out; have z0 := hUx.cell (i := 0) (by decide); have z1 := hUx.cell (i := 1) (by decide); have z2 := hUx.cell (i := 2) (by decide); have z3 := hUx.cell (i := 3) (by decide); have z4 := hUx.cell (i := 4) (by decide); have z5 := hUx.cell (i := 5) (by decide); have z6 := hUx.cell (i := 6) (by decide); have z7 := hUx.cell (i := 7) (by decide); have z8 := hUx.cell (i := 8) (by decide); clear hUx
            go_upto_region 40 with (first
              | (go_at_call 15; refine (sameBand_t dn N1 n1 N3 n3 M1 m1' M3 m3' wf RY1.out RZ1.out RY3.out RZ3.out hsm.out.1 hsm.out.2).mono ?_; rintro e wg ⟨rfl, hbg⟩; have HBg := Lib.hid (HBwf.out.trans (hbg.mono HBwf.out.size)); clear hbg)
              | fail)
            clear y0 y1 y2 y3 y4 y5 y6 y7 y8
            clear z0 z1 z2 z3 z4 z5 z6 z7 z8
            cases okr
            · go_wp2
              go_ret
              exact ⟨rfl, HBg.out⟩
            · have hGR := hSr.out rfl
              have eGR := B_t hGR
              go_wp2_with (first | (go_at_call 51; refine (calls_bool (goodRow_any rw_ _) eGR).mono ?_; rintro e wh ⟨rfl, rfl⟩) | fail)
              go_ret
              exact ⟨rfl, HBg.out⟩
namespace fnBandSlips
open Go.ChangeShapes Go.WideShapes Go.ChangeAt Go.RowKit Go.Deep
open Go.ChangeMaps (open_string shut_string)
theorem own : ownKnob Tryz.prog.godebug = none := by kernel_rfl
theorem laid : laidOutB Tryz.prog = true := by kernel_rfl
theorem reads : Tryz.f5.params.toList.all (fun t => Tryz.prog.readableRec t && decide (t < Tryz.prog.types.size)) = true := by kernel_rfl
theorem door_met (os : Os) (args : Array Value) : laidMetH Tryz.prog Rows.fnBandSlipsRow.laid ((World.doorLaid Tryz.prog 400 os).forCall (fun _ _ => 0) ⟨#[], args, []⟩).memory :=
  laidMetH_of_parts3 (fuel := 8) (laidMet_of_run' 8 (by kernel_rfl) (by kernel_rfl)) (by kernel_rfl) (by kernel_rfl)
set_option maxRecDepth 100000 in
theorem lifted (os : Os) (started : os.Started) (H : Type) (enc : TypeId × Value → H) :
    ReturnsInHanded {} Tryz.checked os 5 .any (fun w args => (Rows.fnBandSlipsSpec.pre enc Tryz.prog Tryz.f5 [] false w args ∧ laidMetH Tryz.prog Rows.fnBandSlipsRow.laid w) ∧ sizedMet enc Tryz.prog Tryz.f5 (OpenSpec.ofChange Rows.fnBandSlipsSpec) false w args) (Rows.fnBandSlipsSpec.post enc Tryz.prog Tryz.f5 false true false false) := by
  refine returnsInHanded_of_change_and (C := Tryz.checked) (X := fun w _ => laidMetH Tryz.prog Rows.fnBandSlipsRow.laid w) (fun _ _ _ hh h => h.of_heap hh) own started (by kernel_rfl) Tryz.func5
    (ChangeSpec.witness_shaped (enc := enc) (C := Tryz.checked) (os := os) (X := fun w _ => laidMetH Tryz.prog Rows.fnBandSlipsRow.laid w) false (World.doorLaid Tryz.prog 400 os) #[.slice none 0 0, .slice none 0 0] 8 rfl (World.shaped_of_RefB (by kernel_rfl) (by kernel_rfl)) (by kernel_rfl) (by kernel_rfl) (by kernel_rfl) (door_met os _)) ?_
  intro W base args ds gs before hval0 hW _ _ hL _
  have htabW : Tab W := tab_of (by rw [MakeChecks.laidMetH_plain _ _ _ (by kernel_rfl)] at hL; exact hL)
  have hval : ∀ (j : Nat) t v, Tryz.f5.params[j]? = some t → args[j]? = some v → Value.okWide Tryz.prog W .any base t v := hval0
  have hW' := hW
  obtain ⟨p, q, hA0, hV, rfl, hfz, hnd⟩ := hW
  have hA : DataW.TrodAll enc Tryz.prog W 0 (fun _ => true) true Tryz.f5.params.toList args.toList ds p := hA0
  rw [Tryz.params5] at hA hval
  obtain ⟨rfl, rfl⟩ := trodVars_none hV
  have hlt : ∀ x ∈ p, x.block < W.heap.size := fun x hx => by simpa using hW'.lt x (List.mem_append.2 (.inl hx))
  clear hA0 hval0
  obtain ⟨v0, vs0, d0, ds0, p0, q0, hargs, rfl, rfl, h0, r0⟩ := trodAll_cons hA
  obtain ⟨v1, vs1, d1, ds1, p1, q1, rfl, rfl, rfl, h1, r1⟩ := trodAll_cons r0
  obtain ⟨rfl, rfl, rfl⟩ := trodAll_nil r1
  obtain rfl : args = #[v0, v1] := by cases args; simp_all
  clear hargs
  obtain ⟨A0, a0, c0, rfl, y0, x0, z0⟩ := open_list Tryz.underlying22 1 (by kernel_rfl) (by omega) encByte _ Byte_el (hval 0 22 v0 rfl rfl) h0
  obtain ⟨A1, a1, c1, rfl, y1, x1, z1⟩ := open_list Tryz.underlying22 1 (by kernel_rfl) (by omega) encByte _ Byte_el (hval 1 22 v1 rfl rfl) h1
  refine (bandSlipsLaw W a0 A0 c0 x0 (by unfold maxLen at y0; omega) z0 a1 A1 c1 x1 (by unfold maxLen at y1; omega) z1 htabW).mono fun e W' ⟨he, hg⟩ => ?_
  subst he
  exact ⟨_, rfl, law_post laid reads rfl Tryz.underlying4 rfl rfl hW' hg⟩
theorem over : Rows.fnBandSlipsRow.holds Tryz.pinned (OpenSpec.ofChange Rows.fnBandSlipsSpec) :=
  OpenClaim.holds_of_wide 5 Tryz.f5 rfl rfl rfl rfl rfl rfl rfl ⟨rfl, rfl, rfl, rfl, rfl⟩ rfl rfl rfl rfl rfl (by kernel_rfl) Tryz.func5 facts
    (of_decide_eq_true (by kernel_rfl)) (by unfold Func.isWrapper; first | (rw [if_pos (by decide +kernel)]; kernel_rfl) | (rw [if_neg (by decide +kernel)]; exact ⟨rfl, rfl⟩))
    (fun os started H enc _ => lifted os started H enc)
theorem proved : Rows.FnBandSlipsCardSaid :=
  Claim7.holds_tied_plain_at .later [] [.data, .data, .data] true (true, "c9dff07b3bdef47f20fb2973a65faf6ce1f9196787a7a18bb3eee8ad2dabd9d8") false
    over (fun _ h => by cases h) (by kernel_rfl) (fun _ h => by cases h) fnBandSlips_row_tie rfl ⟨rfl, rfl⟩ (by kernel_rfl) rfl
    (fun f fn hf hfn => by
      obtain rfl : f = 5 := Option.some.inj ((show Tryz.prog.funcNamed "loop.example/g00894/laws.FnBandSlips" = some 5 by kernel_rfl).symm.trans hf) |>.symm
      obtain rfl : fn = Tryz.f5 := (Option.some.inj (Tryz.func5.symm.trans hfn)).symm
      exact ⟨by kernel_rfl, fun j t ht => by
        have hm : t ∈ Tryz.f5.params.toList := Array.mem_toList_iff.2 (Array.mem_of_getElem? ht)
        have hall : (Tryz.f5.params.toList.all fun u => !Tryz.prog.wantsStandIn u) = true := by kernel_rfl
        exact (show Tryz.prog.wantsStandIn t = false by simpa using List.all_eq_true.1 hall t hm)⟩)
    (by kernel_rfl)
end fnBandSlips
end Go.Proofs.YtkegbbndmfnolaaGreatDoor
