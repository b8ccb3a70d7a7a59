import Derived.Test.YtglnehinmdmgmaaGreatMErrorsL14
import Derived.Test.YtglnehinmdmgmaaGreatMErrorsL16
import Derived.Test.YtglnehinmdmgmaaGreatMErrorsL09
import Derived.Test.YtglnehinmdmgmaaGreatMErrorsL04
import Derived.Test.YtglnehinmdmgmaaGreatMErrorsL01
import Derived.Test.YtglnehinmdmgmaaGreatMErrorsL05
import Derived.Test.YtglnehinmdmgmaaGreatMErrorsL21
import Derived.Deep.Cut
import Derived.Deep.CutRange
import Derived.Deep.RegionLaw
/-
  The errors of blows: in plain words, and the contracts of both sides.
-/
namespace Go.Proofs.YtglnehinmdmgmaaGreat
open Go.RowKit
set_option linter.unusedVariables false
set_option linter.unusedSimpArgs false
set_option maxRecDepth 100000

def errOf (n st gap hand : Int) (x : Blw) : Int := x.at_ - blowV st gap hand n x.row x.place
def errL (n st gap hand : Int) (l : List Blw) : List Int := l.map (errOf n st gap hand)
theorem errL_len (n st gap hand : Int) (l : List Blw) : (errL n st gap hand l).length = l.length := List.length_map _
theorem errL_succ (n st gap hand : Int) (l : List Blw) (k : Nat) (hk : k < l.length) : errL n st gap hand (l.take (k + 1)) = errL n st gap hand (l.take k) ++ [errOf n st gap hand l[k]] := by
  unfold errL; rw [List.take_succ_eq_append_getElem hk, List.map_append]; rfl
open Classical in
/-- What ErrorsOf answers. -/
noncomputable def errR (n st gap hand : Int) (l : List Blw) : List Int × Bool := if blowsP n l ∧ beatP (st, gap, hand) then (errL n st gap hand l, true) else ([], false)
theorem errR_y {n st gap hand : Int} {l : List Blw} (h : blowsP n l) (h2 : beatP (st, gap, hand)) : errR n st gap hand l = (errL n st gap hand l, true) := if_pos ⟨h, h2⟩
theorem errR_n {n st gap hand : Int} {l : List Blw} (h : ¬ blowsP n l) : errR n st gap hand l = ([], false) := if_neg fun x => h x.1
theorem errR_b {n st gap hand : Int} {l : List Blw} (h : ¬ beatP (st, gap, hand)) : errR n st gap hand l = ([], false) := if_neg fun x => h x.2
theorem errR_len {n st gap hand : Int} {l : List Blw} : (errR n st gap hand l).1.length ≤ 400 := by
  unfold errR; split
  · rename_i h; rw [errL_len]; exact h.1.2.1
  · simp
theorem errs_blow {n st gap hand : Int} {l : List Blw} (h : blowsP n l) (hb : beatP (st, gap, hand)) {k : Nat} (hk : k < l.length) :
    ∃ r : Nat, l[k].row = r ∧ r ≤ 800 ∧ 1 ≤ l[k].place ∧ l[k].place ≤ 8 ∧ -30000000 ≤ errOf n st gap hand l[k] ∧ errOf n st gap hand l[k] ≤ 1000000 := by
  obtain ⟨⟨n1, n2⟩, _, hbl⟩ := h
  obtain ⟨⟨s1, s2⟩, ⟨g1, g2⟩, ⟨h1, h2⟩⟩ := hb
  simp only at s1 s2 g1 g2 h1 h2
  obtain ⟨⟨r1, r2⟩, ⟨p1, p2⟩, ⟨a1, a2⟩, _⟩ := hbl k hk
  unfold errOf blowV
  obtain ⟨m1, m2⟩ := mul_bd (a := n) (b := l[k].row) (A := 8) (B := 800) (by omega) n2 (by omega) (by omega)
  obtain ⟨m3, m4⟩ := mul_bd (a := gap) (b := n * l[k].row + l[k].place - 1) (A := 2000) (B := 6407) (by omega) g2 (by omega) (by omega)
  obtain ⟨m5, m6⟩ := mul_bd (a := hand) (b := l[k].row / 2) (A := 2000) (B := 400) (by omega) h2 (by omega) (by omega)
  exact ⟨l[k].row.toNat, by omega, by omega, by omega, by omega, by omega, by omega⟩
def ErC (R : List Int × Bool) (w : World) (e : Ending) (w' : World) : Prop := ∃ (A' : Option Addr) (c' : Nat), e = .returned (.tuple #[.slice A' R.1.length c', .bool R.2]) ∧ R.1.length ≤ c' ∧ OwnL w' w.heap.size w'.heap.size A' 1 encInt R.1 ∧ Below w.heap.size w w'
theorem ErC.no {R : List Int × Bool} {w w' : World} {e : Ending} (hR : R = ([], false)) (he : e = .returned (.tuple #[.slice none 0 0, .bool false])) (hb : Below w.heap.size w w') : ErC R w e w' := by
  subst hR; exact ⟨none, 0, he, Nat.le_refl _, .inl rfl, hb⟩
theorem ErC.yes {R : List Int × Bool} {w w' : World} {e : Ending} {l : List Int} {A : Option Addr} {c n : Nat} (hR : R = (l, true)) (hn : n = l.length) (hc : n ≤ c) (he : e = .returned (.tuple #[.slice A n c, .bool true])) (hr : OwnL w' w.heap.size w'.heap.size A 1 encInt l) (hb : Below w.heap.size w w') : ErC R w e w' := by
  subst hR; subst hn; exact ⟨A, c, he, hc, hr, hb⟩





set_option maxHeartbeats 6400000 in
theorem iErrs_any (n st gap hand : Int) (l : List Blw) (A : Option Addr) (c : Nat) (w : World) (h : RdL w w.heap.size A 3 Blw.enc l) (hl : l.length ≤ 1048576) (hc : l.length ≤ c) :
    Calls Tryz.prog 10 #[.int .i64 n, .slice A l.length c, .agg #[.int .i64 st, .int .i64 gap, .int .i64 hand]] w fun e w' => ErC (errR n st gap hand l) w e w' := by
  obtain ⟨V, hV, hVs, HBV, HCV⟩ : ∃ V, Hid (w.alloc (.cells #[.int .i64 st, .int .i64 gap, .int .i64 hand] 33) = V) ∧ w.heap.size + 1 = V.heap.size ∧ Hid (Below w.heap.size w V) ∧ Hid (Cells V w.heap.size 3 (fun i => (#[Value.int .i64 st, .int .i64 gap, .int .i64 hand] : Array Value).getD i undef)) := ⟨_, Lib.hid rfl, by simp, Lib.hid ((Below.refl _ _).alloc (Nat.le_refl _) _), Lib.hid (box3_new w _ _ _ _)⟩
  have Hr := Lib.hid h
  clear h
  by_cases hG : blowsP n l
  rotate_left
  · have e1 := B_f hG
    have Hn := Lib.hid (errR_n (st := st) (gap := gap) (hand := hand) hG)
    clear hG
    go_enter Tryz.func10, Tryz.ntmps10
    go_upto_region 1 with fail
    rw [hV.out]
    go_wp2_with (first | (go_at_call 19; refine (iBlows_any n l A c V ((Hr.out.below HBV.out (Nat.le_refl _)).more HBV.out.size) hl ).mono ?_; rintro e w1 ⟨rfl, hb1⟩; have HB1 := Lib.hid (HBV.out.trans (hb1.mono HBV.out.size)); have HC1 := Lib.hid (HCV.out.later hb1); have k0 : w1.cell? ⟨w.heap.size, 0, none⟩ = some (.int .i64 st) := HC1.out.cell (i := 0) (by omega); have k1 : w1.cell? ⟨w.heap.size, 1, none⟩ = some (.int .i64 gap) := HC1.out.cell (i := 1) (by omega); have k2 : w1.cell? ⟨w.heap.size, 2, none⟩ = some (.int .i64 hand) := HC1.out.cell (i := 2) (by omega); clear hb1) | fail)
    go_ret2
    exact ErC.no Hn.out rfl HB1.out
  have e1 := B_t hG
  by_cases hB : beatP (st, gap, hand)
  rotate_left
  · have e2 := B_f hB
    have Hn := Lib.hid (errR_b (n := n) (l := l) hB)
    clear hB hG
    go_enter Tryz.func10, Tryz.ntmps10
    go_upto_region 1 with fail
    rw [hV.out]
    go_wp2_with (first | (go_at_call 19; refine (iBlows_any n l A c V ((Hr.out.below HBV.out (Nat.le_refl _)).more HBV.out.size) hl ).mono ?_; rintro e w1 ⟨rfl, hb1⟩; have HB1 := Lib.hid (HBV.out.trans (hb1.mono HBV.out.size)); have HC1 := Lib.hid (HCV.out.later hb1); have k0 : w1.cell? ⟨w.heap.size, 0, none⟩ = some (.int .i64 st) := HC1.out.cell (i := 0) (by omega); have k1 : w1.cell? ⟨w.heap.size, 1, none⟩ = some (.int .i64 gap) := HC1.out.cell (i := 1) (by omega); have k2 : w1.cell? ⟨w.heap.size, 2, none⟩ = some (.int .i64 hand) := HC1.out.cell (i := 2) (by omega); clear hb1) | (go_at_call 29; refine (goodBeat_any (st, gap, hand) w1).mono ?_; rintro e w2 ⟨rfl, hb2⟩; have HB2 := Lib.hid (HB1.out.trans (hb2.mono HB1.out.size)); have HC2 := Lib.hid (HC1.out.later hb2); clear hb2) | fail)
    go_ret2
    exact ErC.no Hn.out rfl HB2.out
  have e2 := B_t hB
  have HY := Lib.hid (errR_y hG hB)
  have Hbl := Lib.hid (fun k (hk : k < l.length) => errs_blow hG hB hk)
  have HBt := Lib.hid hB
  have HGd := Lib.hid hG
  clear hB hG
  obtain ⟨bx, hbx⟩ : ∃ b, Hid (w.heap.size = b) := ⟨_, Lib.hid rfl⟩
  go_enter Tryz.func10, Tryz.ntmps10
  go_upto_region 1 with fail
  rw [hV.out]
  go_upto_region 3 with (first | (go_at_call 19; refine (iBlows_any n l A c V ((Hr.out.below HBV.out (Nat.le_refl _)).more HBV.out.size) hl ).mono ?_; rintro e w1 ⟨rfl, hb1⟩; have HB1 := Lib.hid (HBV.out.trans (hb1.mono HBV.out.size)); have HC1 := Lib.hid (HCV.out.later hb1); have k0 : w1.cell? ⟨w.heap.size, 0, none⟩ = some (.int .i64 st) := HC1.out.cell (i := 0) (by omega); have k1 : w1.cell? ⟨w.heap.size, 1, none⟩ = some (.int .i64 gap) := HC1.out.cell (i := 1) (by omega); have k2 : w1.cell? ⟨w.heap.size, 2, none⟩ = some (.int .i64 hand) := HC1.out.cell (i := 2) (by omega); clear hb1) | (go_at_call 29; refine (goodBeat_any (st, gap, hand) w1).mono ?_; rintro e w2 ⟨rfl, hb2⟩; have HB2 := Lib.hid (HB1.out.trans (hb2.mono HB1.out.size)); have HC2 := Lib.hid (HC1.out.later hb2); clear hb2) | fail)
  obtain ⟨b9, hb9⟩ : ∃ b, Hid (w2.heap.size = b) := ⟨_, Lib.hid rfl⟩
  have hx9 := HC2.out.lt
  rw [hbx.out] at HC2 hx9
  rw [hbx.out]
  rw [hb9.out] at hx9
  have hwb : w.heap.size ≤ b9 := by have := hbx.out; omega
  clear HCV HBV HB1 HC1 k0 k1 k2
  go_upto_region 5 with fail
  go_loopw [8, 23] (fun v i wr => ∃ k : Nat, k ≤ l.length ∧ i = .int .i64 (k : Int) ∧ Hid (Grow wr b9 3 1 encInt v (errL n st gap hand (l.take k))) ∧ Hid (Cells wr bx 3 (fun i => (#[Value.int .i64 st, .int .i64 gap, .int .i64 hand] : Array Value).getD i undef)) ∧ Hid (Below w.heap.size w wr) ∧ b9 ≤ wr.heap.size) (fun _ i _ => l.length - (intOf i).toNat)
  case atStart => exact ⟨0, by omega, by rfl, Lib.hid (by rw [← hb9.out]; simpa [errL] using Grow.empty (enc := encInt) (Nat.le_refl w2.heap.size)), Lib.hid (HC2.out.later ((Below.refl _ _).alloc (Nat.le_refl _) _)), Lib.hid (HB2.out.alloc HB2.out.size _), by simp [hb9.out]⟩
  case round =>
    obtain ⟨k, hk, rfl, HG, HC, HB, hz9⟩ := hrel
    clear HC2 HB2
    by_cases hlt : k < l.length
    · obtain ⟨r, x1, x2, x3, x4, x5, x6⟩ := Hbl.out k hlt
      have hsu := Lib.hid (errL_succ n st gap hand l k hlt)
      have hd0 : errOf n st gap hand l[k] = l[k].at_ - blowV st gap hand n l[k].row l[k].place := rfl
      have hln := errL_len n st gap hand (l.take k)
      rw [List.length_take] at hln
      obtain ⟨g, off, hA, hgl, hcell⟩ := Hr.out.at hlt
      have r0 := (HB.out.cell (p := ⟨g, off + k * 3, none⟩) hgl).trans (hcell 0 _ rfl)
      have r1 := (HB.out.cell (p := ⟨g, off + k * 3 + 1, none⟩) hgl).trans (hcell 1 _ rfl)
      have r2 := (HB.out.cell (p := ⟨g, off + k * 3 + 2, none⟩) hgl).trans (hcell 2 _ rfl)
      subst hA
      obtain ⟨x, hx⟩ : ∃ x, Hid (l[k] = x) := ⟨_, Lib.hid rfl⟩
      rw [hx.out] at r0 r1 r2 x1 x3 x4 x5 x6 hd0 hsu
      obtain ⟨xr, p, t⟩ := x
      simp only at x1 x3 x4 hd0 r0 r1 r2
      subst x1
      obtain ⟨d, hd⟩ : ∃ d, Hid (errOf n st gap hand ⟨(r : Int), p, t⟩ = d) := ⟨_, Lib.hid rfl⟩
      rw [hd.out] at x5 x6 hd0 hsu
      obtain ⟨bv, hbv⟩ : ∃ b, Hid (blowV st gap hand n r p = b) := ⟨_, Lib.hid rfl⟩
      rw [hbv.out] at hd0
      have hdv : IntKind.i64.wrap (t - bv) = d := by rw [IntWalk.i64_in _ (by omega)]; exact hd0.symm
      have Hcall : Hid (∀ W, Calls Tryz.prog 30 #[.agg #[.int .i64 st, .int .i64 gap, .int .i64 hand], .int .i64 n, .int .i64 (r : Int), .int .i64 p] W fun e w' => ∃ v, e = .returned v ∧ (v = .int .i64 bv ∧ w' = W.alloc (.cells #[.int .i64 st, .int .i64 gap, .int .i64 hand] 33))) := Lib.hid fun W => (blowAt_any st gap hand n p r W HBt.out.1 ⟨by have := HBt.out.2.1.1; simp only at this; omega, HBt.out.2.1.2⟩ HBt.out.2.2 HGd.out.1 x2 ⟨x3, x4⟩).mono fun e w' h => ⟨_, h.1, by rw [hbv.out], h.2⟩
      obtain ⟨L, hL⟩ : ∃ L, Hid (errL n st gap hand (l.take k) = L) := ⟨_, Lib.hid rfl⟩
      rw [hL.out] at HG hsu hln
      have hLn : L.length ≤ 1048576 := by omega
      clear hcell hd0 hln
      obtain ⟨v0, hv0⟩ : ∃ v, u8 = v := ⟨_, rfl⟩
      rw [hv0] at HG ⊢
      clear hv0
      go_upto_region 7 with fail
      obtain ⟨V7, hV7, HBV7, HX7, hz7⟩ : ∃ V7, Hid (wr.alloc (.cells #[.int .i64 (r : Int), .int .i64 p, .int .i64 t] 43) = V7) ∧ Hid (Below wr.heap.size wr V7) ∧ Hid (Cells V7 wr.heap.size 3 (fun i => (#[Value.int .i64 (r : Int), .int .i64 p, .int .i64 t] : Array Value).getD i undef)) ∧ wr.heap.size < V7.heap.size := ⟨_, Lib.hid rfl, Lib.hid ((Below.refl _ _).alloc (Nat.le_refl _) _), Lib.hid (box3_new wr _ _ _ _), by simp⟩
      rw [hV7.out]
      clear hV7 r0 r1 r2
      have HG7 := Lib.hid (HG.out.later HBV7.out)
      have HC7 := Lib.hid (HC.out.later HBV7.out)
      have HB7 := Lib.hid (HB.out.trans (HBV7.out.mono HB.out.size))
      have q0 : V7.drew.cell? ⟨wr.heap.size, 0, none⟩ = some (.int .i64 (r : Int)) := HX7.out.cell (i := 0) (by omega)
      have q1 : V7.drew.cell? ⟨wr.heap.size, 1, none⟩ = some (.int .i64 p) := HX7.out.cell (i := 1) (by omega)
      have q2 : V7.drew.cell? ⟨wr.heap.size, 2, none⟩ = some (.int .i64 t) := HX7.out.cell (i := 2) (by omega)
      have c0 : V7.drew.cell? ⟨bx, 0, none⟩ = some (.int .i64 st) := HC7.out.cell (i := 0) (by omega)
      have c1 : V7.drew.cell? ⟨bx, 1, none⟩ = some (.int .i64 gap) := HC7.out.cell (i := 1) (by omega)
      have c2 : V7.drew.cell? ⟨bx, 2, none⟩ = some (.int .i64 hand) := HC7.out.cell (i := 2) (by omega)
      have q3 : (V7.drew.alloc (.cells #[.int .i64 st, .int .i64 gap, .int .i64 hand] 33)).cell? ⟨wr.heap.size, 2, none⟩ = some (.int .i64 t) := (((Below.refl V7.drew.heap.size V7.drew).alloc (Nat.le_refl _) _).cell (p := ⟨wr.heap.size, 2, none⟩) hz7).trans q2
      have hbx7 : bx < V7.heap.size := HC7.out.lt
      have q4 : V7.cell? ⟨wr.heap.size, 2, none⟩ = some (.int .i64 t) := HX7.out.cell (i := 2) (by omega)
      go_region_law (first
        | (refine step_callsX rfl 30 rfl #[.agg #[.int .i64 st, .int .i64 gap, .int .i64 hand], .int .i64 n, .int .i64 (r : Int), .int .i64 p] (by go_simp) (Hcall.out _) ?_; rintro v wA ⟨rfl, rfl⟩)
        | (refine step_pushA rfl (.tmp 27) (.tmp 38) 24 rfl b9 3 _ 1 8 encInt rfl Int_info rfl (by omega) v0 L [d] 1 rfl rfl (by simp) ((HG7.out.later (Below.refl _ _).drew).alloc _) (by first | rfl | (rw [hdv]; rfl)) encInt_len (by simp [Value.oneCell']) (by simp) (by simp only [List.length_singleton]; omega) (by omega) (by simp; omega) ?_; intro v8 w8 g8 b8 _ _; have HG8 := Lib.hid g8; have HC8 := Lib.hid (((HC7.out.later (Below.refl _ _).drew).alloc _).below b8 (by omega)); have HB8 := Lib.hid ((HB7.out.drew.alloc (by have := HB7.out.size; simpa using this) _).trans (b8.mono hwb)); have hz8 : b9 ≤ w8.heap.size := Nat.le_trans (by simp; omega) b8.size; clear g8 b8)
        | fail)
      all_goals
        go_wp2
        go_roundw
        case rel => exact ⟨k + 1, by omega, by go_num, Lib.hid (by rw [hsu.out]; exact HG8.out), HC8, HB8, hz8⟩
        case measure => simp [intOf]; omega
    · obtain rfl : k = l.length := by omega
      rw [List.take_of_length_le (Nat.le_refl _)] at HG
      have hln := errL_len n st gap hand l
      obtain ⟨A', c', rfl, ho⟩ := HG.out.own encInt_len
      have HO := Lib.hid ho
      have hcp := HG.out.capN
      clear ho
      go_wp2
      go_ret2
      exact ErC.yes HY.out rfl (by omega) rfl (HO.out.mono hwb (Nat.le_refl _)) HB.out
set_option maxHeartbeats 6400000 in
theorem sErrs_any (n st gap hand : Int) (l : List Blw) (A : Option Addr) (c : Nat) (w : World) (h : RdL w w.heap.size A 3 Blw.enc l) (hl : l.length ≤ 1048576) (hc : l.length ≤ c) :
    Calls Tryz.prog 11 #[.int .i64 n, .slice A l.length c, .agg #[.int .i64 st, .int .i64 gap, .int .i64 hand]] w fun e w' => ErC (errR n st gap hand l) w e w' := by
  obtain ⟨V, hV, hVs, HBV, HCV⟩ : ∃ V, Hid (w.alloc (.cells #[.int .i64 st, .int .i64 gap, .int .i64 hand] 33) = V) ∧ w.heap.size + 1 = V.heap.size ∧ Hid (Below w.heap.size w V) ∧ Hid (Cells V w.heap.size 3 (fun i => (#[Value.int .i64 st, .int .i64 gap, .int .i64 hand] : Array Value).getD i undef)) := ⟨_, Lib.hid rfl, by simp, Lib.hid ((Below.refl _ _).alloc (Nat.le_refl _) _), Lib.hid (box3_new w _ _ _ _)⟩
  have Hr := Lib.hid h
  clear h
  by_cases hG : blowsP n l
  rotate_left
  · have e1 := B_f hG
    have Hn := Lib.hid (errR_n (st := st) (gap := gap) (hand := hand) hG)
    clear hG
    go_enter Tryz.func11, Tryz.ntmps11
    go_upto_region 1 with fail
    rw [hV.out]
    go_wp2_with (first | (go_at_call 24; refine (l23Good_any n l A c V ((Hr.out.below HBV.out (Nat.le_refl _)).more HBV.out.size) hl hc).mono ?_; rintro e w1 ⟨rfl, hb1⟩; have HB1 := Lib.hid (HBV.out.trans (hb1.mono HBV.out.size)); have HC1 := Lib.hid (HCV.out.later hb1); have k0 : w1.cell? ⟨w.heap.size, 0, none⟩ = some (.int .i64 st) := HC1.out.cell (i := 0) (by omega); have k1 : w1.cell? ⟨w.heap.size, 1, none⟩ = some (.int .i64 gap) := HC1.out.cell (i := 1) (by omega); have k2 : w1.cell? ⟨w.heap.size, 2, none⟩ = some (.int .i64 hand) := HC1.out.cell (i := 2) (by omega); clear hb1) | fail)
    go_ret2
    exact ErC.no Hn.out rfl HB1.out
  have e1 := B_t hG
  by_cases hB : beatP (st, gap, hand)
  rotate_left
  · have e2 := B_f hB
    have Hn := Lib.hid (errR_b (n := n) (l := l) hB)
    clear hB hG
    go_enter Tryz.func11, Tryz.ntmps11
    go_upto_region 1 with fail
    rw [hV.out]
    go_wp2_with (first | (go_at_call 24; refine (l23Good_any n l A c V ((Hr.out.below HBV.out (Nat.le_refl _)).more HBV.out.size) hl hc).mono ?_; rintro e w1 ⟨rfl, hb1⟩; have HB1 := Lib.hid (HBV.out.trans (hb1.mono HBV.out.size)); have HC1 := Lib.hid (HCV.out.later hb1); have k0 : w1.cell? ⟨w.heap.size, 0, none⟩ = some (.int .i64 st) := HC1.out.cell (i := 0) (by omega); have k1 : w1.cell? ⟨w.heap.size, 1, none⟩ = some (.int .i64 gap) := HC1.out.cell (i := 1) (by omega); have k2 : w1.cell? ⟨w.heap.size, 2, none⟩ = some (.int .i64 hand) := HC1.out.cell (i := 2) (by omega); clear hb1) | (go_at_call 31; refine (l21Beat_any (st, gap, hand) w1).mono ?_; rintro e w2 ⟨rfl, hb2⟩; have HB2 := Lib.hid (HB1.out.trans (hb2.mono HB1.out.size)); have HC2 := Lib.hid (HC1.out.later hb2); clear hb2) | fail)
    go_ret2
    exact ErC.no Hn.out rfl HB2.out
  have e2 := B_t hB
  have HY := Lib.hid (errR_y hG hB)
  have Hbl := Lib.hid (fun k (hk : k < l.length) => errs_blow hG hB hk)
  have HBt := Lib.hid hB
  have HGd := Lib.hid hG
  clear hB hG
  obtain ⟨bx, hbx⟩ : ∃ b, Hid (w.heap.size = b) := ⟨_, Lib.hid rfl⟩
  go_enter Tryz.func11, Tryz.ntmps11
  go_upto_region 1 with fail
  rw [hV.out]
  go_upto_region 3 with (first | (go_at_call 24; refine (l23Good_any n l A c V ((Hr.out.below HBV.out (Nat.le_refl _)).more HBV.out.size) hl hc).mono ?_; rintro e w1 ⟨rfl, hb1⟩; have HB1 := Lib.hid (HBV.out.trans (hb1.mono HBV.out.size)); have HC1 := Lib.hid (HCV.out.later hb1); have k0 : w1.cell? ⟨w.heap.size, 0, none⟩ = some (.int .i64 st) := HC1.out.cell (i := 0) (by omega); have k1 : w1.cell? ⟨w.heap.size, 1, none⟩ = some (.int .i64 gap) := HC1.out.cell (i := 1) (by omega); have k2 : w1.cell? ⟨w.heap.size, 2, none⟩ = some (.int .i64 hand) := HC1.out.cell (i := 2) (by omega); clear hb1) | (go_at_call 31; refine (l21Beat_any (st, gap, hand) w1).mono ?_; rintro e w2 ⟨rfl, hb2⟩; have HB2 := Lib.hid (HB1.out.trans (hb2.mono HB1.out.size)); have HC2 := Lib.hid (HC1.out.later hb2); clear hb2) | fail)
  obtain ⟨b9, hb9⟩ : ∃ b, Hid (w2.heap.size = b) := ⟨_, Lib.hid rfl⟩
  have hx9 := HC2.out.lt
  rw [hbx.out] at HC2 hx9
  rw [hbx.out]
  rw [hb9.out] at hx9
  have hwb : w.heap.size ≤ b9 := by have := hbx.out; omega
  clear HCV HBV HB1 HC1 k0 k1 k2
  go_upto_region 5 with fail
  go_loopw [8, 22] (fun v i wr => ∃ k : Nat, k ≤ l.length ∧ i = .int .i64 (k : Int) ∧ Hid (Grow wr b9 3 1 encInt v (errL n st gap hand (l.take k))) ∧ Hid (Cells wr bx 3 (fun i => (#[Value.int .i64 st, .int .i64 gap, .int .i64 hand] : Array Value).getD i undef)) ∧ Hid (Below w.heap.size w wr) ∧ b9 ≤ wr.heap.size) (fun _ i _ => l.length - (intOf i).toNat)
  case atStart => exact ⟨0, by omega, by rfl, Lib.hid (by simpa [errL] using Grow.nil), Lib.hid HC2.out, Lib.hid HB2.out, by simp [hb9.out]⟩
  case round =>
    obtain ⟨k, hk, rfl, HG, HC, HB, hz9⟩ := hrel
    clear HC2 HB2
    by_cases hlt : k < l.length
    · obtain ⟨r, x1, x2, x3, x4, x5, x6⟩ := Hbl.out k hlt
      have hsu := Lib.hid (errL_succ n st gap hand l k hlt)
      have hd0 : errOf n st gap hand l[k] = l[k].at_ - blowV st gap hand n l[k].row l[k].place := rfl
      have hln := errL_len n st gap hand (l.take k)
      rw [List.length_take] at hln
      obtain ⟨g, off, hA, hgl, hcell⟩ := Hr.out.at hlt
      have r0 := (HB.out.cell (p := ⟨g, off + k * 3, none⟩) hgl).trans (hcell 0 _ rfl)
      have r1 := (HB.out.cell (p := ⟨g, off + k * 3 + 1, none⟩) hgl).trans (hcell 1 _ rfl)
      have r2 := (HB.out.cell (p := ⟨g, off + k * 3 + 2, none⟩) hgl).trans (hcell 2 _ rfl)
      subst hA
      obtain ⟨x, hx⟩ : ∃ x, Hid (l[k] = x) := ⟨_, Lib.hid rfl⟩
      rw [hx.out] at r0 r1 r2 x1 x3 x4 x5 x6 hd0 hsu
      obtain ⟨xr, p, t⟩ := x
      simp only at x1 x3 x4 hd0 r0 r1 r2
      subst x1
      obtain ⟨d, hd⟩ : ∃ d, Hid (errOf n st gap hand ⟨(r : Int), p, t⟩ = d) := ⟨_, Lib.hid rfl⟩
      rw [hd.out] at x5 x6 hd0 hsu
      obtain ⟨bv, hbv⟩ : ∃ b, Hid (blowV st gap hand n r p = b) := ⟨_, Lib.hid rfl⟩
      rw [hbv.out] at hd0
      have hdv : IntKind.i64.wrap (t - bv) = d := by rw [IntWalk.i64_in _ (by omega)]; exact hd0.symm
      have Hcall : Hid (∀ W, Calls Tryz.prog 32 #[.agg #[.int .i64 st, .int .i64 gap, .int .i64 hand], .int .i64 n, .int .i64 (r : Int), .int .i64 p] W fun e w' => ∃ v, e = .returned v ∧ (v = .int .i64 bv ∧ w' = W.alloc (.cells #[.int .i64 st, .int .i64 gap, .int .i64 hand] 33))) := Lib.hid fun W => (l21Blow_any st gap hand n p r W HBt.out.1 ⟨by have := HBt.out.2.1.1; simp only at this; omega, HBt.out.2.1.2⟩ HBt.out.2.2 HGd.out.1 x2 ⟨x3, x4⟩).mono fun e w' h => ⟨_, h.1, by rw [hbv.out], h.2⟩
      obtain ⟨L, hL⟩ : ∃ L, Hid (errL n st gap hand (l.take k) = L) := ⟨_, Lib.hid rfl⟩
      rw [hL.out] at HG hsu hln
      have hLn : L.length ≤ 1048576 := by omega
      clear hcell hd0 hln
      obtain ⟨v0, hv0⟩ : ∃ v, u8 = v := ⟨_, rfl⟩
      rw [hv0] at HG ⊢
      clear hv0
      go_upto_region 7 with fail
      obtain ⟨V7, hV7, HBV7, HX7, hz7⟩ : ∃ V7, Hid (wr.alloc (.cells #[.int .i64 (r : Int), .int .i64 p, .int .i64 t] 43) = V7) ∧ Hid (Below wr.heap.size wr V7) ∧ Hid (Cells V7 wr.heap.size 3 (fun i => (#[Value.int .i64 (r : Int), .int .i64 p, .int .i64 t] : Array Value).getD i undef)) ∧ wr.heap.size < V7.heap.size := ⟨_, Lib.hid rfl, Lib.hid ((Below.refl _ _).alloc (Nat.le_refl _) _), Lib.hid (box3_new wr _ _ _ _), by simp⟩
      rw [hV7.out]
      clear hV7 r0 r1 r2
      have HG7 := Lib.hid (HG.out.later HBV7.out)
      have HC7 := Lib.hid (HC.out.later HBV7.out)
      have HB7 := Lib.hid (HB.out.trans (HBV7.out.mono HB.out.size))
      have q0 : V7.drew.cell? ⟨wr.heap.size, 0, none⟩ = some (.int .i64 (r : Int)) := HX7.out.cell (i := 0) (by omega)
      have q1 : V7.drew.cell? ⟨wr.heap.size, 1, none⟩ = some (.int .i64 p) := HX7.out.cell (i := 1) (by omega)
      have q2 : V7.drew.cell? ⟨wr.heap.size, 2, none⟩ = some (.int .i64 t) := HX7.out.cell (i := 2) (by omega)
      have c0 : V7.drew.cell? ⟨bx, 0, none⟩ = some (.int .i64 st) := HC7.out.cell (i := 0) (by omega)
      have c1 : V7.drew.cell? ⟨bx, 1, none⟩ = some (.int .i64 gap) := HC7.out.cell (i := 1) (by omega)
      have c2 : V7.drew.cell? ⟨bx, 2, none⟩ = some (.int .i64 hand) := HC7.out.cell (i := 2) (by omega)
      have q3 : (V7.drew.alloc (.cells #[.int .i64 st, .int .i64 gap, .int .i64 hand] 33)).cell? ⟨wr.heap.size, 2, none⟩ = some (.int .i64 t) := (((Below.refl V7.drew.heap.size V7.drew).alloc (Nat.le_refl _) _).cell (p := ⟨wr.heap.size, 2, none⟩) hz7).trans q2
      have hbx7 : bx < V7.heap.size := HC7.out.lt
      have q4 : V7.cell? ⟨wr.heap.size, 2, none⟩ = some (.int .i64 t) := HX7.out.cell (i := 2) (by omega)
      go_region_law (first
        | (refine step_callsX rfl 32 rfl #[.agg #[.int .i64 st, .int .i64 gap, .int .i64 hand], .int .i64 n, .int .i64 (r : Int), .int .i64 p] (by go_simp) (Hcall.out _) ?_; rintro v wA ⟨rfl, rfl⟩)
        | (refine step_pushA rfl (.tmp 26) (.tmp 37) 24 rfl b9 3 _ 1 8 encInt rfl Int_info rfl (by omega) v0 L [d] 1 rfl rfl (by simp) ((HG7.out.later (Below.refl _ _).drew).alloc _) (by first | rfl | (rw [hdv]; rfl)) encInt_len (by simp [Value.oneCell']) (by simp) (by simp only [List.length_singleton]; omega) (by omega) (by simp; omega) ?_; intro v8 w8 g8 b8 _ _; have HG8 := Lib.hid g8; have HC8 := Lib.hid (((HC7.out.later (Below.refl _ _).drew).alloc _).below b8 (by omega)); have HB8 := Lib.hid ((HB7.out.drew.alloc (by have := HB7.out.size; simpa using this) _).trans (b8.mono hwb)); have hz8 : b9 ≤ w8.heap.size := Nat.le_trans (by simp; omega) b8.size; clear g8 b8)
        | fail)
      all_goals
        go_wp2
        go_roundw
        case rel => exact ⟨k + 1, by omega, by go_num, Lib.hid (by rw [hsu.out]; exact HG8.out), HC8, HB8, hz8⟩
        case measure => simp [intOf]; omega
    · obtain rfl : k = l.length := by omega
      rw [List.take_of_length_le (Nat.le_refl _)] at HG
      have hln := errL_len n st gap hand l
      obtain ⟨A', c', rfl, ho⟩ := HG.out.own encInt_len
      have HO := Lib.hid ho
      have hcp := HG.out.capN
      clear ho
      go_wp2
      go_ret2
      exact ErC.yes HY.out rfl (by omega) rfl (HO.out.mono hwb (Nat.le_refl _)) HB.out
end Go.Proofs.YtglnehinmdmgmaaGreat
