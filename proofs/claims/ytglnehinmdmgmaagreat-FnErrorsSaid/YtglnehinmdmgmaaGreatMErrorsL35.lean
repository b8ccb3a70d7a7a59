import Derived.Test.YtglnehinmdmgmaaGreatMErrorsL32
import Derived.Test.YtglnehinmdmgmaaGreatMErrorsL34
import Derived.Test.YtglnehinmdmgmaaGreatRows
import Derived.Test.YtglnehinmdmgmaaGreatMErrorsL01
import Derived.Test.YtglnehinmdmgmaaGreatMErrorsL03
import Derived.Test.YtglnehinmdmgmaaGreatMErrorsL00
/-
  BlowsIn of the reference: its contract.
-/
namespace Go.Proofs.YtglnehinmdmgmaaGreat
open Go.RowKit
set_option linter.unusedVariables false
set_option linter.unusedSimpArgs false
set_option maxRecDepth 100000








set_option maxHeartbeats 6400000 in
theorem sBlowsIn_any (st gap hand : Int) (rows : List ByteArray) (l : List Stk) (s : Int) (A A2 : Option Addr) (c c2 : Nat) (w : World) (h : RdL w w.heap.size A 1 encString rows) (h2 : RdL w w.heap.size A2 2 Stk.enc l) (hl : rows.length ≤ 1048576) (hl2 : l.length ≤ 1048576) (hs : ∀ x ∈ rows, String_small 1048576 x) : Calls Tryz.prog 14 #[.agg #[.int .i64 st, .int .i64 gap, .int .i64 hand], .slice A rows.length c, .slice A2 l.length c2, .int .i64 s] w fun e w' => BiC (biR st gap hand rows l s) w e w' := by
  obtain ⟨V, hV, hVs, HBV, HCV⟩ : ∃ V, Hid (w.alloc (.cells #[.int .i64 st, .int .i64 gap, .int .i64 hand] 33) = V) ∧ w.heap.size + 1 = V.heap.size ∧ Hid (Below w.heap.size w V) ∧ Hid (Cells V w.heap.size 3 (fun i => (#[Value.int .i64 st, .int .i64 gap, .int .i64 hand] : Array Value).getD i undef)) := ⟨_, Lib.hid rfl, by simp, Lib.hid ((Below.refl _ _).alloc (Nat.le_refl _) _), Lib.hid (box3_new w _ _ _ _)⟩
  have k0 : V.cell? ⟨w.heap.size, 0, none⟩ = some (.int .i64 st) := HCV.out.cell (i := 0) (by omega)
  have k1 : V.cell? ⟨w.heap.size, 1, none⟩ = some (.int .i64 gap) := HCV.out.cell (i := 1) (by omega)
  have k2 : V.cell? ⟨w.heap.size, 2, none⟩ = some (.int .i64 hand) := HCV.out.cell (i := 2) (by omega)
  have Hr1 := Lib.hid h
  have Hr2 := Lib.hid h2
  have Hs := Lib.hid hs
  clear h h2 hs
  by_cases hB : beatP (st, gap, hand)
  rotate_left
  · have e1 := B_f hB
    have Hn := Lib.hid (biR_n (st := st) (gap := gap) (hand := hand) (rows := rows) (l := l) (s := s) (fun x => hB x.2.2.1))
    clear hB
    go_enter Tryz.func14, Tryz.ntmps14
    go_upto_region 1 with fail
    rw [hV.out]
    go_wp2_with (first | (go_at_call 31; refine (l21Beat_any (st, gap, hand) V).mono ?_; rintro e w1 ⟨rfl, hb1⟩; have HB1 := Lib.hid (HBV.out.trans (hb1.mono HBV.out.size)); have HC1 := Lib.hid (HCV.out.later hb1); clear hb1) | (go_at_call 23; refine (l6Rows_any rows A c _ ((Hr1.out.below HB1.out (Nat.le_refl _)).more HB1.out.size) hl Hs.out).mono ?_; rintro e w2 ⟨rfl, hd2⟩; have HB2 : Hid (Below w.heap.size w w2) := (by obtain ⟨nd, rfl⟩ := hd2; exact Lib.hid (below_drewN HB1.out nd)); have HC2 : Hid (Cells w2 w.heap.size 3 (fun i => (#[Value.int .i64 st, .int .i64 gap, .int .i64 hand] : Array Value).getD i undef)) := (by obtain ⟨nd, rfl⟩ := hd2; exact Lib.hid (HC1.out.later (below_drewN (Below.refl _ _) nd))); clear hd2) | (go_at_call 40; refine (l21Good_any l A2 c2 _ ((Hr2.out.below HB2.out (Nat.le_refl _)).more HB2.out.size) hl2).mono ?_; rintro e w3 ⟨rfl, hb3⟩; have HB3 := Lib.hid (HB2.out.trans (hb3.mono HB2.out.size)); have HC3 := Lib.hid (HC2.out.later hb3); clear hb3) | fail)
    go_ret2
    exact BiC.no Hn.out rfl HB1.out
  have e1 := B_t hB
  by_cases hR : rowsP rows
  rotate_left
  · have e2 := B_f hR
    have Hn := Lib.hid (biR_n (st := st) (gap := gap) (hand := hand) (rows := rows) (l := l) (s := s) (fun x => hR x.1))
    clear hB hR
    go_enter Tryz.func14, Tryz.ntmps14
    go_upto_region 1 with fail
    rw [hV.out]
    go_wp2_with (first | (go_at_call 31; refine (l21Beat_any (st, gap, hand) V).mono ?_; rintro e w1 ⟨rfl, hb1⟩; have HB1 := Lib.hid (HBV.out.trans (hb1.mono HBV.out.size)); have HC1 := Lib.hid (HCV.out.later hb1); clear hb1) | (go_at_call 23; refine (l6Rows_any rows A c _ ((Hr1.out.below HB1.out (Nat.le_refl _)).more HB1.out.size) hl Hs.out).mono ?_; rintro e w2 ⟨rfl, hd2⟩; have HB2 : Hid (Below w.heap.size w w2) := (by obtain ⟨nd, rfl⟩ := hd2; exact Lib.hid (below_drewN HB1.out nd)); have HC2 : Hid (Cells w2 w.heap.size 3 (fun i => (#[Value.int .i64 st, .int .i64 gap, .int .i64 hand] : Array Value).getD i undef)) := (by obtain ⟨nd, rfl⟩ := hd2; exact Lib.hid (HC1.out.later (below_drewN (Below.refl _ _) nd))); clear hd2) | (go_at_call 40; refine (l21Good_any l A2 c2 _ ((Hr2.out.below HB2.out (Nat.le_refl _)).more HB2.out.size) hl2).mono ?_; rintro e w3 ⟨rfl, hb3⟩; have HB3 := Lib.hid (HB2.out.trans (hb3.mono HB2.out.size)); have HC3 := Lib.hid (HC2.out.later hb3); clear hb3) | fail)
    go_ret2
    exact BiC.no Hn.out rfl HB2.out
  have e2 := B_t hR
  by_cases h0 : 0 < rows.length
  rotate_left
  · have hn0 : ((rows.length : Int) == 0) = true := by rw [beq_iff_eq]; omega
    have Hn := Lib.hid (biR_n (st := st) (gap := gap) (hand := hand) (rows := rows) (l := l) (s := s) (fun x => h0 x.2.1))
    clear hB hR h0
    go_enter Tryz.func14, Tryz.ntmps14
    go_upto_region 1 with fail
    rw [hV.out]
    go_wp2_with (first | (go_at_call 31; refine (l21Beat_any (st, gap, hand) V).mono ?_; rintro e w1 ⟨rfl, hb1⟩; have HB1 := Lib.hid (HBV.out.trans (hb1.mono HBV.out.size)); have HC1 := Lib.hid (HCV.out.later hb1); clear hb1) | (go_at_call 23; refine (l6Rows_any rows A c _ ((Hr1.out.below HB1.out (Nat.le_refl _)).more HB1.out.size) hl Hs.out).mono ?_; rintro e w2 ⟨rfl, hd2⟩; have HB2 : Hid (Below w.heap.size w w2) := (by obtain ⟨nd, rfl⟩ := hd2; exact Lib.hid (below_drewN HB1.out nd)); have HC2 : Hid (Cells w2 w.heap.size 3 (fun i => (#[Value.int .i64 st, .int .i64 gap, .int .i64 hand] : Array Value).getD i undef)) := (by obtain ⟨nd, rfl⟩ := hd2; exact Lib.hid (HC1.out.later (below_drewN (Below.refl _ _) nd))); clear hd2) | (go_at_call 40; refine (l21Good_any l A2 c2 _ ((Hr2.out.below HB2.out (Nat.le_refl _)).more HB2.out.size) hl2).mono ?_; rintro e w3 ⟨rfl, hb3⟩; have HB3 := Lib.hid (HB2.out.trans (hb3.mono HB2.out.size)); have HC3 := Lib.hid (HC2.out.later hb3); clear hb3) | fail)
    go_ret2
    exact BiC.no Hn.out rfl HB2.out
  have hn0 : ((rows.length : Int) == 0) = false := by rw [beq_eq_false_iff_ne]; omega
  by_cases hS : strikesP l
  rotate_left
  · have e3 := B_f hS
    have Hn := Lib.hid (biR_n (st := st) (gap := gap) (hand := hand) (rows := rows) (l := l) (s := s) (fun x => hS x.2.2.2.1))
    clear hB hR h0 hS
    go_enter Tryz.func14, Tryz.ntmps14
    go_upto_region 1 with fail
    rw [hV.out]
    go_wp2_with (first | (go_at_call 31; refine (l21Beat_any (st, gap, hand) V).mono ?_; rintro e w1 ⟨rfl, hb1⟩; have HB1 := Lib.hid (HBV.out.trans (hb1.mono HBV.out.size)); have HC1 := Lib.hid (HCV.out.later hb1); clear hb1) | (go_at_call 23; refine (l6Rows_any rows A c _ ((Hr1.out.below HB1.out (Nat.le_refl _)).more HB1.out.size) hl Hs.out).mono ?_; rintro e w2 ⟨rfl, hd2⟩; have HB2 : Hid (Below w.heap.size w w2) := (by obtain ⟨nd, rfl⟩ := hd2; exact Lib.hid (below_drewN HB1.out nd)); have HC2 : Hid (Cells w2 w.heap.size 3 (fun i => (#[Value.int .i64 st, .int .i64 gap, .int .i64 hand] : Array Value).getD i undef)) := (by obtain ⟨nd, rfl⟩ := hd2; exact Lib.hid (HC1.out.later (below_drewN (Below.refl _ _) nd))); clear hd2) | (go_at_call 40; refine (l21Good_any l A2 c2 _ ((Hr2.out.below HB2.out (Nat.le_refl _)).more HB2.out.size) hl2).mono ?_; rintro e w3 ⟨rfl, hb3⟩; have HB3 := Lib.hid (HB2.out.trans (hb3.mono HB2.out.size)); have HC3 := Lib.hid (HC2.out.later hb3); clear hb3) | fail)
    go_ret2
    exact BiC.no Hn.out rfl HB3.out
  have e3 := B_t hS
  obtain ⟨g0, of0, hA0, hg0, hc0⟩ := Hr1.out.at h0
  have s0 : w.cell? ⟨g0, of0, none⟩ = some (.string rows[0]) := by have := hc0 0 _ rfl; simpa using this
  have hsz := sz0_eq rows h0
  obtain ⟨t, ht⟩ : ∃ t, Hid (rows[0] = t) := ⟨_, Lib.hid rfl⟩
  have ht8 : t.size ≤ 8 := by have := (hR.2 0 h0).1.2.1; rw [ht.out] at this; exact this
  have hk800 := hR.1
  rw [ht.out] at s0 hsz
  have Hsz := Lib.hid hsz
  have HR := Lib.hid hR
  have H0 := Lib.hid h0
  have HMB : Hid (∀ (k : Nat) (W : World), k < t.size → Below w.heap.size w W → Calls Tryz.prog 41 #[.agg #[.int .i64 st, .int .i64 gap, .int .i64 hand], .slice A rows.length c, .slice A2 l.length c2, .int .i64 ((k : Int) + 1), .int .i64 s] W fun e w' => BmC (mbR st gap hand rows l ((k : Int) + 1) s) W e w') := Lib.hid fun k W hk hW => sMatchB_any st gap hand rows l ((k : Int) + 1) s A A2 c c2 W ((Hr1.out.below hW (Nat.le_refl _)).more hW.size) ((Hr2.out.below hW (Nat.le_refl _)).more hW.size) hl hl2 Hs.out HR.out H0.out ⟨by omega, by rw [Hsz.out]; omega⟩
  subst hA0
  have S0 := Lib.hid s0
  clear hR ht h0 hc0 hsz s0 hB hS
  obtain ⟨bx, hbx⟩ : ∃ b, Hid (w.heap.size = b) := ⟨_, Lib.hid rfl⟩
  go_enter Tryz.func14, Tryz.ntmps14
  go_upto_region 1 with fail
  rw [hV.out]
  go_upto_region 3 with (first | (go_at_call 31; refine (l21Beat_any (st, gap, hand) V).mono ?_; rintro e w1 ⟨rfl, hb1⟩; have HB1 := Lib.hid (HBV.out.trans (hb1.mono HBV.out.size)); have HC1 := Lib.hid (HCV.out.later hb1); clear hb1) | (go_at_call 23; refine (l6Rows_any rows (some ⟨g0, of0, none⟩) c _ ((Hr1.out.below HB1.out (Nat.le_refl _)).more HB1.out.size) hl Hs.out).mono ?_; rintro e w2 ⟨rfl, hd2⟩; have HB2 : Hid (Below w.heap.size w w2) := (by obtain ⟨nd, rfl⟩ := hd2; exact Lib.hid (below_drewN HB1.out nd)); have HC2 : Hid (Cells w2 w.heap.size 3 (fun i => (#[Value.int .i64 st, .int .i64 gap, .int .i64 hand] : Array Value).getD i undef)) := (by obtain ⟨nd, rfl⟩ := hd2; exact Lib.hid (HC1.out.later (below_drewN (Below.refl _ _) nd))); clear hd2) | (go_at_call 40; refine (l21Good_any l A2 c2 _ ((Hr2.out.below HB2.out (Nat.le_refl _)).more HB2.out.size) hl2).mono ?_; rintro e w3 ⟨rfl, hb3⟩; have HB3 := Lib.hid (HB2.out.trans (hb3.mono HB2.out.size)); have HC3 := Lib.hid (HC2.out.later hb3); clear hb3) | fail)
  obtain ⟨b9, hb9⟩ : ∃ b, Hid (w3.heap.size = b) := ⟨_, Lib.hid rfl⟩
  have hx9 := HC3.out.lt
  rw [hbx.out] at HC3 hx9
  rw [hbx.out]
  clear HCV HBV HB1 HB2 HC1 HC2 k0 k1 k2
  go_upto_region 5 with fail
  have hxb : bx < b9 := by have := hb9.out; omega
  have hwb : w.heap.size ≤ b9 := by have := hbx.out; omega
  go_loopw [10, 11] (fun v bv wr => ∃ k : Nat, k ≤ t.size ∧ bv = .int .i64 ((k : Int) + 1) ∧ Hid (Grow wr b9 43 3 Blw.enc v (sortB (blTo st gap hand rows l s k))) ∧ Hid (∀ j : Nat, j < k → (mbR st gap hand rows l ((j : Int) + 1) s).2 = true) ∧ Hid (Cells wr bx 3 (fun i => (#[Value.int .i64 st, .int .i64 gap, .int .i64 hand] : Array Value).getD i undef)) ∧ Hid (Below w.heap.size w wr) ∧ b9 ≤ wr.heap.size) (fun _ i _ => t.size + 1 - (intOf i).toNat)
  case atStart => exact ⟨0, by omega, by rfl, Lib.hid Grow.nil, Lib.hid (fun j hj => by omega), HC3, HB3, by rw [hb9.out]; exact Nat.le_refl _⟩
  case round =>
    obtain ⟨k, hk, rfl, HG, HJ, HC, HB, hz9⟩ := hrel
    clear HC3 HB3
    have s0 : wr.cell? ⟨g0, of0, none⟩ = some (.string t) := (HB.out.cell (p := ⟨g0, of0, none⟩) hg0).trans S0.out
    have hbL := blTo_len (st := st) (gap := gap) (hand := hand) (l := l) (s := s) HR.out k
    have HL0s := Lib.hid (fun x (hx : x ∈ blTo st gap hand rows l s k) (hS : strikesP l) => blTo_small HR.out hS k x hx)
    by_cases hlt : k < t.size
    · have d1 : (k : Int) + 1 ≤ (t.size : Int) := by omega
      have hbs : Hid (blTo st gap hand rows l s (k + 1) = blTo st gap hand rows l s k ++ bbTo rows ((k : Int) + 1) (ofL l ((k : Int) + 1)) (mof st gap hand rows l s ((k : Int) + 1)) (mof st gap hand rows l s ((k : Int) + 1)).length) := Lib.hid rfl
      obtain ⟨L0, hL0⟩ : ∃ L, Hid (blTo st gap hand rows l s k = L) := ⟨_, Lib.hid rfl⟩
      rw [hL0.out] at HG hbL hbs
      have hM := Lib.hid (HMB.out k wr hlt HB.out)
      have hNo := Lib.hid (fun x : biP st gap hand rows l s => mb_of_bi x (k := k) (by rw [Hsz.out]; exact hlt))
      obtain ⟨R, hRe⟩ : ∃ R, Hid (mbR st gap hand rows l ((k : Int) + 1) s = R) := ⟨_, Lib.hid rfl⟩
      rw [hRe.out] at hM hNo
      obtain ⟨⟨O, x⟩, ok⟩ := R
      have hM2 : Hid (Calls Tryz.prog 41 #[.agg #[.int .i64 st, .int .i64 gap, .int .i64 hand], .slice (some ⟨g0, of0, none⟩) rows.length c, .slice A2 l.length c2, .int .i64 ((k : Int) + 1), .int .i64 s] wr fun e w' => ∃ (A' : Option Addr) (c' : Nat), e = .returned (.tuple #[.agg #[.slice A' O.length c', .int .i64 x], .bool ok]) ∧ OwnL w' wr.heap.size w'.heap.size A' 1 encInt O ∧ Below wr.heap.size wr w') := Lib.hid hM.out
      clear hM
      have b0 : wr.cell? ⟨bx, 0, none⟩ = some (.int .i64 st) := HC.out.cell (i := 0) (by omega)
      have b1 : wr.cell? ⟨bx, 1, none⟩ = some (.int .i64 gap) := HC.out.cell (i := 1) (by omega)
      have b2 : wr.cell? ⟨bx, 2, none⟩ = some (.int .i64 hand) := HC.out.cell (i := 2) (by omega)
      go_upto_region 8 with (first | (go_at_call 41; refine hM2.out.mono ?_; rintro e w1 ⟨A5, c5, rfl, ho5, hb5⟩; have HO5 := Lib.hid ho5; have HB5 := Lib.hid hb5; clear ho5 hb5) | fail)
      clear b0 b1 b2 s0
      obtain ⟨V1, hV1, HM1, HBV1, hzV1⟩ : ∃ V1, Hid (w1.alloc (.cells #[.slice A5 O.length c5, .int .i64 x] 66) = V1) ∧ Hid (Cells V1 w1.heap.size 2 (bxM (.slice A5 O.length c5) x)) ∧ Hid (Below w1.heap.size w1 V1) ∧ w1.heap.size < V1.heap.size := ⟨_, Lib.hid rfl, Lib.hid (bxM_new w1 _ _ _), Lib.hid ((Below.refl _ _).alloc (Nat.le_refl _) _), by simp⟩
      rw [hV1.out]
      clear hV1
      have HBw1 := Lib.hid (HB.out.trans (HB5.out.mono HB.out.size))
      have HBw2 := Lib.hid (HBw1.out.trans (HBV1.out.mono HBw1.out.size))
      cases ok
      · go_wp2
        go_ret2
        exact BiC.no (biR_n (fun x => by have := hNo.out x; simp at this)) rfl HBw2.out
      obtain ⟨hOm, hmp, hak⟩ := mbR_ok hRe.out
      have hO60 := mof_60 hak
      have hOr := mof_rows (st := st) (gap := gap) (hand := hand) (l := l) (s := s) (bell := (k : Int) + 1) HR.out
      have HOat := Lib.hid (fun p hp => mof_at (st := st) (gap := gap) (hand := hand) (rows := rows) (l := l) (s := s) (bell := (k : Int) + 1) (k := p) hp)
      have HTb := Lib.hid (ofL_bd hmp.2 ((k : Int) + 1))
      rw [← hOm] at hO60 hOr HOat hbs
      clear hOm hmp hak
      have hot := ofL_len l ((k : Int) + 1)
      go_upto_region 11 with (first | (go_at_call 42; refine (l21Of_any l ((k : Int) + 1) A2 c2 V1 ((Hr2.out.below HBw2.out (Nat.le_refl _)).more HBw2.out.size) hl2).mono ?_; rintro e U ⟨A6, c6, rfl, hc6, ho6, hb6⟩; have HO6 := Lib.hid ho6; have HB6 := Lib.hid hb6; have m0 : U.cell? ⟨w1.heap.size, 0, none⟩ = some (.slice A5 O.length c5) := (HM1.out.later hb6).cell (i := 0) (by omega); clear ho6 hb6) | fail)
      obtain ⟨T, hT⟩ : ∃ T, Hid (ofL l ((k : Int) + 1) = T) := ⟨_, Lib.hid rfl⟩
      rw [hT.out] at HO6 HOat HTb hbs hot
      rw [hT.out]
      obtain ⟨lo, hlo⟩ : ∃ n, Hid (wr.heap.size = n) := ⟨_, Lib.hid rfl⟩
      have hz5 := HB5.out.size
      have hz6 := HB6.out.size
      have HQ5 : Hid (OwnL U lo U.heap.size A5 1 encInt O) := Lib.hid (((HO5.out.later HBV1.out).later HB6.out).mono (by rw [hlo.out]; exact Nat.le_refl _) (by omega))
      have HQ6 : Hid (OwnL U lo U.heap.size A6 1 encInt T) := Lib.hid (HO6.out.mono (by have := hlo.out; omega) (Nat.le_refl _))
      have HBU := Lib.hid (HBw2.out.trans (HB6.out.mono HBw2.out.size))
      have HBwU : Hid (Below wr.heap.size wr U) := Lib.hid ((HB5.out.trans (HBV1.out.mono hz5)).trans (HB6.out.mono (by omega)))
      have HGU := Lib.hid (HG.out.later HBwU.out)
      have HCU := Lib.hid (HC.out.later HBwU.out)
      go_upto_region 12 with fail
      clear m0
      obtain ⟨v0, hv0⟩ : ∃ v, u10 = v := ⟨_, rfl⟩
      rw [hv0] at HG HGU ⊢
      have hap : Hid (∀ g, v0.ownBlock = some g → g < lo ∨ U.heap.size ≤ g) := Lib.hid fun g hg => .inl (by rw [← hlo.out]; exact HG.out.block_lt g hg)
      clear hv0
      obtain ⟨hi, hhi⟩ : ∃ n, Hid (U.heap.size = n) := ⟨_, Lib.hid rfl⟩
      rw [hhi.out] at HQ5 HQ6 hap
      clear HG HO5 HB5 HM1 HBV1 HO6 HB6 HBw1 HBw2 HBwU HC
      go_loopw [10, 60] (fun v2 pv wr2 => ∃ p : Nat, p ≤ O.length ∧ pv = .int .i64 p ∧ Hid (Grow wr2 b9 43 3 Blw.enc v2 (sortB (L0 ++ bbTo rows ((k : Int) + 1) T O p))) ∧ Hid (OwnL wr2 lo hi A5 1 encInt O) ∧ Hid (OwnL wr2 lo hi A6 1 encInt T) ∧ Hid (∀ g, v2.ownBlock = some g → g < lo ∨ hi ≤ g) ∧ Hid (Cells wr2 bx 3 (fun i => (#[Value.int .i64 st, .int .i64 gap, .int .i64 hand] : Array Value).getD i undef)) ∧ Hid (Below w.heap.size w wr2) ∧ hi ≤ wr2.heap.size) (fun _ i _ => O.length - (intOf i).toNat)
      case atStart => exact ⟨0, by omega, by rfl, Lib.hid (by simpa [bbTo] using HGU.out), HQ5, HQ6, hap, HCU, HBU, by rw [hhi.out]; exact Nat.le_refl _⟩
      case round =>
        obtain ⟨p, hp, rfl, HG2, HP5, HP6, HA2, HC2, HB2, hz2⟩ := hrel
        clear HGU HQ5 HQ6 hap HCU HBU
        obtain ⟨v6, hv6⟩ : ∃ v, u10 = v := ⟨_, rfl⟩
        rw [hv6] at HG2 HA2 ⊢
        clear hv6
        have hzb : b9 ≤ wr.heap.size := by
          have := hlo.out; have := hhi.out; omega
        have hbbl := bbTo_len rows ((k : Int) + 1) T O p
        by_cases hlp : p < O.length
        · obtain ⟨gO, oO, hA5, hgO, hcO⟩ := (HP5.out.rd encInt_len).at hlp
          have q0 : wr.cell? ⟨gO, oO + p, none⟩ = some (.int .i64 O[p]) := by have := hcO 0 _ rfl; simpa using this
          obtain ⟨o1, o2⟩ := HOat.out p hlp
          have hgd : O.getD p 0 = O[p] := by rw [List.getD_eq_getElem?_getD, List.getElem?_eq_getElem hlp]; rfl
          by_cases hneg : 0 ≤ O[p]
          · obtain ⟨q, hq⟩ : ∃ q : Nat, O[p] = (q : Int) := ⟨O[p].toNat, by omega⟩
            have hqT : q < T.length := by omega
            obtain ⟨gT, oT, hA6, hgT, hcT⟩ := (HP6.out.rd encInt_len).at hqT
            have q1 : wr.drew.cell? ⟨gT, oT + q, none⟩ = some (.int .i64 T[q]) := by have := hcT 0 _ rfl; simpa using this
            have hpr : p < rows.length := by omega
            obtain ⟨gr, orr, hAr, hgr, hcr⟩ := Hr1.out.at hpr
            have q2 : wr.drew.cell? ⟨gr, orr + p, none⟩ = some (.string rows[p]) := (HB2.out.cell (p := ⟨gr, orr + p, none⟩) hgr).trans (by have := hcr 0 _ rfl; simpa using this)
            simp only [Option.some.injEq, Addr.mk.injEq, and_true] at hAr
            obtain ⟨rfl, rfl⟩ := hAr
            have hrow := (HR.out.2 p hpr).1
            have hra : rowAt rows p = rows[p] := rowAt_get hpr
            have htq : T.getD q 0 = T[q] := by rw [List.getD_eq_getElem?_getD, List.getElem?_eq_getElem hqT]; rfl
            have hbb := bbTo_y (rows := rows) (bell := (k : Int) + 1) (ts := T) (of := O) (k := p) (by rw [hgd]; exact hneg)
            rw [hgd, hq, Int.toNat_natCast, htq, hra] at hbb
            rw [hq] at q0
            obtain ⟨r, hr⟩ : ∃ r, Hid (rows[p] = r) := ⟨_, Lib.hid rfl⟩
            obtain ⟨tq, htqe⟩ : ∃ x, Hid (T[q] = x) := ⟨_, Lib.hid rfl⟩
            rw [hr.out] at q2 hrow hbb
            rw [htqe.out] at q1 hbb
            obtain ⟨pl, hpl⟩ : ∃ x, Hid (placeS r ((k : Int) + 1) = x) := ⟨_, Lib.hid rfl⟩
            rw [hpl.out] at hbb
            have hsu : Hid (L0 ++ bbTo rows ((k : Int) + 1) T O (p + 1) = L0 ++ bbTo rows ((k : Int) + 1) T O p ++ [⟨(p : Int), pl, tq⟩]) := Lib.hid (by rw [hbb, List.append_assoc])
            have HPl : Hid (∀ W, Calls Tryz.prog 44 #[.string r, .int .i64 ((k : Int) + 1)] W fun e w' => ∃ v, e = .returned v ∧ (v = .int .i64 pl ∧ w' = W)) := Lib.hid fun W => (l5Place_any r ((k : Int) + 1) W hrow (by omega) (by omega)).mono fun e w' h => ⟨_, h.1, by rw [hpl.out], h.2.symm⟩
            have hLn : (L0 ++ bbTo rows ((k : Int) + 1) T O p).length ≤ 100000 := by rw [List.length_append]; omega
            obtain ⟨L, hL⟩ : ∃ L, Hid (L0 ++ bbTo rows ((k : Int) + 1) T O p = L) := ⟨_, Lib.hid rfl⟩
            rw [hL.out] at HG2 hsu hLn
            have HP5' := HP5
            have HP6' := HP6
            subst hA5 hA6
            have dq : (q : Int) < (T.length : Int) := by omega
            clear hcO hcT hcr hgd hq hneg o1 o2 hrow hra htq hbb
            have HPut : Hid (Calls Tryz.prog 43 #[v6, .agg #[.int .i64 (p : Int), .int .i64 pl, .int .i64 tq]] wr.drew fun e w' => ∃ v, e = .returned v ∧ (Grow w' b9 43 3 Blw.enc v (sortB (L ++ [⟨(p : Int), pl, tq⟩])) ∧ Below b9 wr.drew w' ∧ wr.drew.grownBy w' v6.ownBlock ∧ ∀ g, v.ownBlock = some g → v6.ownBlock = some g ∨ wr.drew.heap.size ≤ g)) := Lib.hid (by
              rw [sortB_snoc]
              exact l23Put_any (sortB L) ⟨(p : Int), pl, tq⟩ v6 b9 wr.drew (HG2.out.later (Below.refl _ _).drew) (by simpa using hzb) (by rw [sortB_len]; omega))
            go_upto_region 15 with fail
            go_region_law (first
              | (refine step_callsX rfl 44 rfl #[.string r, .int .i64 ((k : Int) + 1)] (by go_simp) (HPl.out _) ?_; rintro v wA ⟨rfl, rfl⟩)
              | (refine step_callsX rfl 43 rfl #[v6, .agg #[.int .i64 (p : Int), .int .i64 pl, .int .i64 tq]] (by go_simp) HPut.out ?_; rintro v8 w8 ⟨g8, b8, gb8, k8⟩; have HG8 := Lib.hid g8; have HC8 := Lib.hid ((HC2.out.later (Below.refl _ _).drew).below b8 (by omega)); have HB8 := Lib.hid (HB2.out.drew.trans (b8.mono (by omega))); have HQ58 := Lib.hid (ownL_grown (HP5.out.later (Below.refl _ _).drew) gb8 HA2.out); have HQ68 := Lib.hid (ownL_grown (HP6.out.later (Below.refl _ _).drew) gb8 HA2.out); have hz8 : wr.heap.size ≤ w8.heap.size := b8.size; have HA8 : Hid (∀ g, v8.ownBlock = some g → g < lo ∨ hi ≤ g) := Lib.hid (fun g hg => by rcases k8 g hg with e | e; exact HA2.out g e; exact .inr (by have : wr.drew.heap.size = wr.heap.size := rfl; omega)); clear g8 b8 gb8 k8)
              | fail)
            all_goals
              go_wp2
              go_roundw
              case rel => exact ⟨p + 1, by omega, by go_num, Lib.hid (by rw [hsu.out]; exact HG8.out), HQ58, HQ68, HA8, HC8, HB8, by omega⟩
              case measure => simp [intOf]; omega
          · have hbb := bbTo_n (rows := rows) (bell := (k : Int) + 1) (ts := T) (of := O) (k := p) (by rw [hgd]; exact hneg)
            have hsu : Hid (L0 ++ bbTo rows ((k : Int) + 1) T O (p + 1) = L0 ++ bbTo rows ((k : Int) + 1) T O p) := Lib.hid (by rw [hbb])
            obtain ⟨y, hy⟩ : ∃ y, Hid (O[p] = y) := ⟨_, Lib.hid rfl⟩
            rw [hy.out] at q0 hneg
            subst hA5
            clear hcO hgd hbb o1 o2
            go_wp2
            go_roundw
            case rel => exact ⟨p + 1, by omega, by go_num, Lib.hid (by rw [hsu.out]; exact HG2.out), HP5, HP6, HA2, HC2, HB2, hz2⟩
            case measure => simp [intOf]; omega
        · obtain rfl : p = O.length := by omega
          go_wp2
          go_roundw
          case rel => exact ⟨k + 1, by omega, (by refine congrArg (Value.int .i64) ?_; omega), Lib.hid (by rw [hbs.out]; exact HG2.out), Lib.hid (fun j hj => by
            rcases Nat.lt_or_eq_of_le (Nat.le_of_lt_succ hj) with h' | rfl
            · exact HJ.out j h'
            · rw [hRe.out]), HC2, HB2, by have := hlo.out; have := hhi.out; omega⟩
          case measure => simp [intOf]; omega
    · obtain rfl : k = t.size := by omega
      have d1 : ¬ (t.size : Int) + 1 ≤ (t.size : Int) := by omega
      have hbi : biP st gap hand rows l s := bi_of_mb HR.out H0.out (by rw [Hsz.out]; exact HJ.out)
      have hsm : ∀ x ∈ blTo st gap hand rows l s t.size, smallB x := fun x hx => HL0s.out x hx hbi.2.2.2.1
      have HYy := Lib.hid (biR_y hbi)
      have HYz := Lib.hid (biR_z (st := st) (gap := gap) (hand := hand) (rows := rows) (l := l) (s := s))
      rw [Hsz.out] at HYy HYz
      clear hbi HL0s
      obtain ⟨L, hL⟩ : ∃ L, Hid (blTo st gap hand rows l s t.size = L) := ⟨_, Lib.hid rfl⟩
      rw [hL.out] at HG hbL HYy HYz hsm
      obtain ⟨A7, c7, rfl, ho7⟩ := HG.out.own Blw_enc_len
      have HO := Lib.hid ho7
      have HS := Lib.hid (ho7.rd Blw_enc_len)
      have hcp := HG.out.capN
      have hSl := sortB_len L
      clear ho7 hsm
      by_cases hbl : blowsP (t.size : Int) (sortB L)
      · have e4 := B_t hbl
        have HY := Lib.hid (HYy.out hbl)
        clear hbl
        obtain ⟨S, hSe⟩ : ∃ S, Hid (sortB L = S) := ⟨_, Lib.hid rfl⟩
        rw [hSe.out] at e4 HY HO HS hcp hSl ⊢
        have hS5 : S.length ≤ 1048576 := by omega
        clear hSl
        go_wp2_with (first | (go_at_call 24; refine (l23Good_any (t.size : Int) S A7 c7 wr HS.out hS5 hcp).mono ?_; rintro e w5 ⟨rfl, hb5⟩; have HB5 := Lib.hid hb5; clear hb5) | fail)
        go_ret2
        exact BiC.yes HY.out rfl rfl ((HO.out.later HB5.out).mono hwb HB5.out.size) (HB.out.trans (HB5.out.mono HB.out.size))
      · have e4 := B_f hbl
        have HY := Lib.hid (HYz.out hbl)
        clear hbl
        obtain ⟨S, hSe⟩ : ∃ S, Hid (sortB L = S) := ⟨_, Lib.hid rfl⟩
        rw [hSe.out] at e4 HO HS hcp hSl ⊢
        have hS5 : S.length ≤ 1048576 := by omega
        clear hSl
        go_wp2_with (first | (go_at_call 24; refine (l23Good_any (t.size : Int) S A7 c7 wr HS.out hS5 hcp).mono ?_; rintro e w5 ⟨rfl, hb5⟩; have HB5 := Lib.hid hb5; clear hb5) | fail)
        go_ret2
        exact BiC.no HY.out rfl (HB.out.trans (HB5.out.mono HB.out.size))
end Go.Proofs.YtglnehinmdmgmaaGreat

/-
  A law's argument of bytes.
-/
namespace Go.Proofs.YtglnehinmdmgmaaGreat
open Go.RowKit Go.ChangeShapes Go.WideShapes
set_option linter.unusedVariables false
set_option linter.unusedSimpArgs false
set_option maxRecDepth 100000
def Byte_small (lim : Int) (x : Int) : Prop := 0 ≤ x ∧ x < 256
theorem Byte_el {H : Type} {en : TypeId × Value → H} {w : World} {base : Nat} {spare : Nat → Bool} {held : Bool} (n : Nat) (cs : List Value) (y : DataW H × List MemPlace) (h : DataW.trod en Tryz.prog w base spare held n 5 cs = some y) : ∃ x : Int, cs = encByte x ∧ Byte_small 9223372036854775807 x := by
  obtain ⟨a, rfl, _, hw⟩ := DataW.trod_int Tryz.underlying5 h
  refine ⟨a, rfl, ?_⟩
  simp [Lit.wf, IntKind.min, IntKind.max, IntKind.signed, IntKind.bits] at hw
  unfold Byte_small; omega
end Go.Proofs.YtglnehinmdmgmaaGreat

/-
  The laws' test of the drawn bytes' length.
-/
namespace Go.Proofs.YtglnehinmdmgmaaGreat
open Go.RowKit
set_option linter.unusedVariables false
set_option linter.unusedSimpArgs false
set_option maxRecDepth 100000

theorem bigB_any (n m : Nat) (A A' : Option Addr) (c c' : Nat) (w : World) (hn : n ≤ 9223372036854775807) (hm : m ≤ 9223372036854775807) :
    Calls Tryz.prog 4 #[.slice A n c, .slice A' m c'] w fun e w' => e = .returned (.bool (B (1048576 < n + m))) ∧ w = w' := by
  by_cases h1 : 1048576 < n
  · have d1 : decide ((1048576 : Int) < (n : Int)) = true := by simp; omega
    go_enter Tryz.func4, Tryz.ntmps4
    go_wp2
    go_ret
    exact ⟨ret_t (by omega), rfl⟩
  · have d1 : decide ((1048576 : Int) < (n : Int)) = false := by simp; omega
    by_cases h2 : 1048576 < n + m
    · have d2 : decide ((1048576 : Int) - (n : Int) < (m : Int)) = true := by simp; omega
      go_enter Tryz.func4, Tryz.ntmps4
      go_wp2
      go_ret
      exact ⟨ret_t h2, rfl⟩
    · have d2 : decide ((1048576 : Int) - (n : Int) < (m : Int)) = false := by simp; omega
      go_enter Tryz.func4, Tryz.ntmps4
      go_wp2
      go_ret
      exact ⟨ret_f h2, rfl⟩
end Go.Proofs.YtglnehinmdmgmaaGreat
