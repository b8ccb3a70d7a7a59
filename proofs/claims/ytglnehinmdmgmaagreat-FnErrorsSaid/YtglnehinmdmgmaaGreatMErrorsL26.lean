import Derived.Test.YtglnehinmdmgmaaGreatMErrorsL24
import Derived.Test.YtglnehinmdmgmaaGreatMErrorsL25
/-
  The three draws of FnErrors.
-/
namespace Go.Proofs.YtglnehinmdmgmaaGreat
open Go.RowKit
set_option linter.unusedVariables false
set_option linter.unusedSimpArgs false
set_option maxRecDepth 100000




theorem turn_box3 (w : World) (g : Nat) (u v x : Value) : Turn g w (((w.setCell ⟨g, 0, none⟩ u).setCell ⟨g, 1, none⟩ v).setCell ⟨g, 2, none⟩ x) :=
  (((Chg.refl g (g + 1) w).setCell (p := ⟨g, 0, none⟩) (Nat.le_refl _) (Nat.lt_succ_self _) u).setCell (p := ⟨g, 1, none⟩) (Nat.le_refl _) (Nat.lt_succ_self _) v).setCell (p := ⟨g, 2, none⟩) (Nat.le_refl _) (Nat.lt_succ_self _) x


/-- A stage, blows and a beat. -/
def EoDrawn (w : World) (e : Ending) (w' : World) : Prop := ∃ (n : Int) (l : List Blw) (A2 : Option Addr) (c2 : Nat) (a b d : Int), e = .returned (.tuple #[.int .i64 n, .slice A2 l.length c2, .agg #[.int .i64 a, .int .i64 b, .int .i64 d]]) ∧ l.length ≤ 31 ∧ l.length ≤ c2 ∧ RdL w' w'.heap.size A2 3 Blw.enc l ∧ Below w.heap.size w w'
set_option maxHeartbeats 3200000 in
theorem drawErrorsOf_any (A : Option Addr) (c : Nat) (l : List Int) (w : World) (h : RdL w w.heap.size A 1 encByte l) (hb : ∀ x ∈ l, 0 ≤ x ∧ x < 256) (hl : l.length ≤ 9223372036854775807) : Calls Tryz.prog 9 #[.slice A l.length c] w fun e w' => EoDrawn w e w' := by
  obtain ⟨V0, hV0, HB0, HZ0, hVs0⟩ : ∃ V, Hid (w.alloc (.cells #[.int .i64 0, .int .i64 0, .int .i64 0] 33) = V) ∧ Hid (Below w.heap.size w V) ∧ Hid (Cells V w.heap.size 3 (fun i => (#[Value.int .i64 0, .int .i64 0, .int .i64 0] : Array Value).getD i undef)) ∧ w.heap.size + 1 = V.heap.size := ⟨_, Lib.hid rfl, Lib.hid ((Below.refl _ _).alloc (Nat.le_refl _) _), Lib.hid (box3_new w _ _ _ _), by simp⟩
  have HCN := Lib.hid (Cur.new (c := c) ((h.below HB0.out (Nat.le_refl _)).more HB0.out.size) hb hl 47)
  clear h hb
  obtain ⟨rb, hrb⟩ : ∃ b, Hid (w.heap.size = b) := ⟨_, Lib.hid rfl⟩
  go_enter Tryz.func9, Tryz.ntmps9
  go_upto_region 1 with fail
  rw [hV0.out]
  go_upto_region 2 with fail
  obtain ⟨V, hVe, hVb, HC, hg⟩ : ∃ V : World, Hid (V0.alloc (.cells #[.slice A l.length c, .int .i64 0, .int .u64 0] 47) = V) ∧ Hid (Below V0.heap.size V0 V) ∧ Hid (Cur V V0.heap.size 0) ∧ V0.heap.size + 1 = V.heap.size := ⟨_, Lib.hid rfl, Lib.hid ((Below.refl _ _).alloc (Nat.le_refl _) _), HCN, by simp⟩
  rw [hVe.out]
  clear hVe HCN hV0
  obtain ⟨g, hge⟩ : ∃ g, Hid (V0.heap.size = g) := ⟨_, Lib.hid rfl⟩
  have hgl := hge.out
  rw [hge.out] at HC ⊢
  have HZ := Lib.hid (HZ0.out.later hVb.out)
  have HBV := Lib.hid (HB0.out.trans (hVb.out.mono HB0.out.size))
  rw [hrb.out] at HZ
  have hrbl := hrb.out
  rw [hrb.out]
  clear HZ0 hVb HB0
  go_upto_region 3 with (first | (go_at_call 27; refine (anyBlows_any g 0 V HC.out (by omega)).mono ?_; rintro e w1 ⟨n, L, A2, c2, rfl, hL31, hLc, ha, hc1, ht1⟩; have HA := Lib.hid ha; have HC1 := Lib.hid hc1; have HT1 := Lib.hid ht1; have hz1 := ht1.size; clear ha hc1 ht1) | fail)
  go_wp2_with (first | (go_at_call 28; refine (beat_any g _ w1 HC1.out (by omega)).mono ?_; rintro e w2 ⟨a, b, d, rfl, hc2, ht2⟩; have HT2 : Hid (Turn g V w2) := Lib.hid (HT1.out.trans ht2); have HA2 := Lib.hid (HA.out.turn ht2 (by omega)); have hz2 := ht2.size; have HZ2 := Lib.hid (HZ.out.chg HT2.out (.inl (by omega))); have y0 : w2.cell? ⟨rb, 0, none⟩ = some (.int .i64 0) := (HZ2.out).cell (i := 0) (by omega); have y1 : w2.cell? ⟨rb, 1, none⟩ = some (.int .i64 0) := (HZ2.out).cell (i := 1) (by omega); have y2 : w2.cell? ⟨rb, 2, none⟩ = some (.int .i64 0) := (HZ2.out).cell (i := 2) (by omega); have z0 := (HZ2.out).free (i := 0) (by omega); have z1 := (HZ2.out).free (i := 1) (by omega); have z2 := (HZ2.out).free (i := 2) (by omega); clear hc2 ht2) | fail)
  refine bodyPost_ret (v := .tuple #[.int .i64 n, .slice A2 L.length c2, .agg #[.int .i64 a, .int .i64 b, .int .i64 d]]) (by simp [results, Tryz.results9, go_sem, y0, y1, y2, z0, z1, z2]) rfl ?_
  exact ⟨n, L, A2, c2, a, b, d, rfl, hL31, hLc, (HA2.out.turn (turn_box3 w2 rb _ _ _) (by omega)).1, below_box3 (Go.Proofs.YtglnehinmdmgmaaGreat.Below.chg HBV.out HT2.out (by omega) (by omega)) (by omega) _ _ _⟩
/-- A beat, rows, strikes and a number. -/
def BiDrawn (w : World) (e : Ending) (w' : World) : Prop := ∃ (a b d : Int) (R : List ByteArray) (A1 : Option Addr) (c1 : Nat) (L : List Stk) (A2 : Option Addr) (c2 : Nat) (s : Int), e = .returned (.tuple #[.agg #[.int .i64 a, .int .i64 b, .int .i64 d], .slice A1 R.length c1, .slice A2 L.length c2, .int .i64 s]) ∧ R.length ≤ 12 ∧ (∀ r ∈ R, r.size ≤ 8) ∧ L.length ≤ 200 ∧ RdL w' w'.heap.size A1 1 encString R ∧ RdL w' w'.heap.size A2 2 Stk.enc L ∧ Below w.heap.size w w'

set_option maxHeartbeats 6400000 in
theorem drawBlowsIn_any (A : Option Addr) (c : Nat) (l : List Int) (w : World) (h : RdL w w.heap.size A 1 encByte l) (hb : ∀ x ∈ l, 0 ≤ x ∧ x < 256) (hl : l.length ≤ 9223372036854775807) : Calls Tryz.prog 12 #[.slice A l.length c] w fun e w' => BiDrawn w e w' := by
  obtain ⟨V0, hV0, HB0, HZ0, hVs0⟩ : ∃ V, Hid (w.alloc (.cells #[.int .i64 0, .int .i64 0, .int .i64 0] 33) = V) ∧ Hid (Below w.heap.size w V) ∧ Hid (Cells V w.heap.size 3 (fun i => (#[Value.int .i64 0, .int .i64 0, .int .i64 0] : Array Value).getD i undef)) ∧ w.heap.size + 1 = V.heap.size := ⟨_, Lib.hid rfl, Lib.hid ((Below.refl _ _).alloc (Nat.le_refl _) _), Lib.hid (box3_new w _ _ _ _), by simp⟩
  have HCN := Lib.hid (Cur.new (c := c) ((h.below HB0.out (Nat.le_refl _)).more HB0.out.size) hb hl 47)
  clear h hb
  obtain ⟨rb, hrb⟩ : ∃ b, Hid (w.heap.size = b) := ⟨_, Lib.hid rfl⟩
  go_enter Tryz.func12, Tryz.ntmps12
  go_upto_region 1 with fail
  rw [hV0.out]
  go_upto_region 2 with fail
  obtain ⟨V, hVe, hVb, HC, hg⟩ : ∃ V : World, Hid (V0.alloc (.cells #[.slice A l.length c, .int .i64 0, .int .u64 0] 47) = V) ∧ Hid (Below V0.heap.size V0 V) ∧ Hid (Cur V V0.heap.size 0) ∧ V0.heap.size + 1 = V.heap.size := ⟨_, Lib.hid rfl, Lib.hid ((Below.refl _ _).alloc (Nat.le_refl _) _), HCN, by simp⟩
  rw [hVe.out]
  clear hVe HCN hV0
  obtain ⟨g, hge⟩ : ∃ g, Hid (V0.heap.size = g) := ⟨_, Lib.hid rfl⟩
  have hgl := hge.out
  rw [hge.out] at HC ⊢
  have HZ := Lib.hid (HZ0.out.later hVb.out)
  have HBV := Lib.hid (HB0.out.trans (hVb.out.mono HB0.out.size))
  rw [hrb.out] at HZ
  have hrbl := hrb.out
  rw [hrb.out]
  clear HZ0 hVb HB0
  go_upto_region 3 with (first | (go_at_call 28; refine (beat_any g 0 V HC.out (by omega)).mono ?_; rintro e w1 ⟨a, b, d, rfl, hc1, ht1⟩; have HC1 := Lib.hid hc1; have HT1 := Lib.hid ht1; have hz1 := ht1.size; clear hc1 ht1) | fail)
  obtain ⟨bb, hbb⟩ : ∃ b, Hid (w1.heap.size = b) := ⟨_, Lib.hid rfl⟩
  obtain ⟨U, hU, HBU, HXU, hUs⟩ : ∃ U, Hid (w1.alloc (.cells #[.int .i64 a, .int .i64 b, .int .i64 d] 33) = U) ∧ Hid (Below w1.heap.size w1 U) ∧ Hid (Cells U w1.heap.size 3 (fun i => (#[Value.int .i64 a, .int .i64 b, .int .i64 d] : Array Value).getD i undef)) ∧ w1.heap.size + 1 = U.heap.size := ⟨_, Lib.hid rfl, Lib.hid ((Below.refl _ _).alloc (Nat.le_refl _) _), Lib.hid (box3_new w1 _ _ _ _), by simp⟩
  rw [hU.out, hbb.out]
  clear hU
  have hbbl := hbb.out
  rw [hbb.out] at HXU
  have HCU := Lib.hid (HC1.out.later HBU.out)
  have HTU : Hid (Turn g V U) := Lib.hid (Turn.then HT1.out HBU.out)
  go_upto_region 4 with (first | (go_at_call 15; refine (rungFew_any g _ U HCU.out (by omega)).mono ?_; rintro e w3 ⟨R, A1, c1, rfl, hRn, hRc, hRs0, hA0, hc3, ht3⟩; have hRs := Lib.hid hRs0; have HA3 := Lib.hid hA0; have HC3 := Lib.hid hc3; have HT3 : Hid (Turn g V w3) := Lib.hid (HTU.out.trans ht3); have HX3 := Lib.hid (HXU.out.chg ht3 (.inr (by omega))); have hz3 := ht3.size; clear hRs0 hA0 hc3 ht3) | fail)
  have HStr : Hid (Calls Tryz.prog 33 #[.pointer (some ⟨g, 0, none⟩), .agg #[.int .i64 a, .int .i64 b, .int .i64 d], .slice A1 R.length c1] w3.drew fun e w' => ∃ v, e = .returned v ∧ ∃ (L : List Stk) (A2 : Option Addr) (c2 : Nat), v = .slice A2 L.length c2 ∧ L.length ≤ 200 ∧ L.length ≤ c2 ∧ Aw w' w3.drew.heap.size A2 2 Stk.enc L ∧ Cur w' g (0 + 20 + 200 + 700) ∧ Turn g w3.drew w') := Lib.hid ((struck_any g (0 + 20 + 200) R A1 c1 a b d w3.drew (HC3.out.later (Below.refl _ _).drew) (by omega) ((HA3.out.weak (by omega)).later (Below.refl _ _).drew) hRn hRs.out).mono fun e w' ⟨L, A2, c2, h1, h2, h3, h4, h5, h6⟩ => ⟨_, h1, L, A2, c2, rfl, h2, h3, h4, h5, h6⟩)
  have HSk : Hid (∀ W K, Cur W g K → K ≤ 1000000 → Calls Tryz.prog 34 #[.pointer (some ⟨g, 0, none⟩)] W fun e w' => ∃ v, e = .returned v ∧ ∃ x : Int, v = .int .i64 x ∧ Turn g W w') := Lib.hid fun W K hc hK => (skip_any g K W hc hK).mono fun e w' ⟨x, h1, h2, h3⟩ => ⟨_, h1, x, rfl, h3⟩
  have HZ3 := Lib.hid (HZ.out.chg HT3.out (.inl (by omega)))
  have p_0 : w3.drew.cell? ⟨bb, 0, none⟩ = some (.int .i64 a) := (HX3.out).cell (i := 0) (by omega); have p_1 : w3.drew.cell? ⟨bb, 1, none⟩ = some (.int .i64 b) := (HX3.out).cell (i := 1) (by omega); have p_2 : w3.drew.cell? ⟨bb, 2, none⟩ = some (.int .i64 d) := (HX3.out).cell (i := 2) (by omega)
  have hz9 : w3.drew.heap.size = w3.heap.size := rfl
  clear HC HC1 HT1 HCU HTU HBU HXU HZ
  go_region_law (first
    | (refine step_callsX rfl 33 rfl #[.pointer (some ⟨g, 0, none⟩), .agg #[.int .i64 a, .int .i64 b, .int .i64 d], .slice A1 R.length c1] (by go_simp) HStr.out ?_; rintro v wS ⟨L, A2, c2, rfl, hL, hLc, hal, hcS, htS⟩; have HAL := Lib.hid hal; have HCS := Lib.hid hcS; have HTS : Hid (Turn g w3 wS) := Lib.hid ((Turn.of (Below.refl _ _).drew).trans htS); have HXS := Lib.hid (HX3.out.chg HTS.out (.inr (by omega))); have hzS := HTS.out.size; have q_0 : wS.cell? ⟨bb, 0, none⟩ = some (.int .i64 a) := (HXS.out).cell (i := 0) (by omega); have q_1 : wS.cell? ⟨bb, 1, none⟩ = some (.int .i64 b) := (HXS.out).cell (i := 1) (by omega); have q_2 : wS.cell? ⟨bb, 2, none⟩ = some (.int .i64 d) := (HXS.out).cell (i := 2) (by omega); clear hal hcS htS)
    | (refine step_callsX rfl 34 rfl #[.pointer (some ⟨g, 0, none⟩)] (by go_simp) (HSk.out _ _ HCS.out (by omega)) ?_; rintro v wK ⟨sk, rfl, htK⟩; have HTK : Hid (Turn g w3 wK) := Lib.hid (HTS.out.trans htK); have HALK := Lib.hid (HAL.out.turn htK (by omega)); have HAK := Lib.hid (HA3.out.turn HTK.out (by omega)); have HXK := Lib.hid (HX3.out.chg HTK.out (.inr (by omega))); have hzK := HTK.out.size; have r_0 : wK.cell? ⟨bb, 0, none⟩ = some (.int .i64 a) := (HXK.out).cell (i := 0) (by omega); have r_1 : wK.cell? ⟨bb, 1, none⟩ = some (.int .i64 b) := (HXK.out).cell (i := 1) (by omega); have r_2 : wK.cell? ⟨bb, 2, none⟩ = some (.int .i64 d) := (HXK.out).cell (i := 2) (by omega); have HZK := Lib.hid (HZ3.out.chg HTK.out (.inl (by omega))); have y0 : wK.cell? ⟨rb, 0, none⟩ = some (.int .i64 0) := (HZK.out).cell (i := 0) (by omega); have y1 : wK.cell? ⟨rb, 1, none⟩ = some (.int .i64 0) := (HZK.out).cell (i := 1) (by omega); have y2 : wK.cell? ⟨rb, 2, none⟩ = some (.int .i64 0) := (HZK.out).cell (i := 2) (by omega); have z0 := (HZK.out).free (i := 0) (by omega); have z1 := (HZK.out).free (i := 1) (by omega); have z2 := (HZK.out).free (i := 2) (by omega); clear htK)
    | fail)
  all_goals
    (try go_wp2)
    refine bodyPost_ret (v := .tuple #[.agg #[.int .i64 a, .int .i64 b, .int .i64 d], .slice A1 R.length c1, .slice A2 L.length c2, .int .i64 sk]) (by simp [results, Tryz.results12, go_sem, y0, y1, y2, z0, z1, z2]) rfl ?_
    exact ⟨a, b, d, R, A1, c1, L, A2, c2, sk, rfl, hRn, hRs.out, hL, (HAK.out.turn (turn_box3 wK rb _ _ _) (by omega)).1, (HALK.out.turn (turn_box3 wK rb _ _ _) (by omega)).1, below_box3 (Go.Proofs.YtglnehinmdmgmaaGreat.Below.chg HBV.out (HT3.out.trans HTK.out) (by omega) (by omega)) (by omega) _ _ _⟩
theorem results_tmpE3 {fn : Func} {t u v : Tmp} (h : fn.results = #[.tmp t, .tmp u, .tmp v]) (tmps : Array Value) (P : Program) (w : World) :
    (results fn tmps).run P w = .ok (.tuple #[tmps.getD t undef, tmps.getD u undef, tmps.getD v undef]) w := by
  simp [results, h]
/-- Errors, rows and blows. -/
def WoDrawn (w : World) (e : Ending) (w' : World) : Prop := ∃ (E : List Int) (A1 : Option Addr) (c1 : Nat) (R : List ByteArray) (A2 : Option Addr) (c2 : Nat) (L : List Blw) (A3 : Option Addr) (c3 : Nat), e = .returned (.tuple #[.slice A1 E.length c1, .slice A2 R.length c2, .slice A3 L.length c3]) ∧ E.length ≤ 400 ∧ R.length ≤ 12 ∧ (∀ r ∈ R, r.size ≤ 8) ∧ L.length ≤ 30 ∧ L.length ≤ c3 ∧ RdL w' w'.heap.size A1 1 encInt E ∧ RdL w' w'.heap.size A2 1 encString R ∧ RdL w' w'.heap.size A3 3 Blw.enc L ∧ Below w.heap.size w w'

set_option maxHeartbeats 6400000 in
theorem drawWorstOf_any (A : Option Addr) (c : Nat) (l : List Int) (w : World) (h : RdL w w.heap.size A 1 encByte l) (hb : ∀ x ∈ l, 0 ≤ x ∧ x < 256) (hl : l.length ≤ 9223372036854775807) : Calls Tryz.prog 5 #[.slice A l.length c] w fun e w' => WoDrawn w e w' := by
  have HCN := Lib.hid (Cur.new (c := c) h hb hl 47)
  clear h hb
  go_enter Tryz.func5, Tryz.ntmps5
  go_upto_region 2 with fail
  obtain ⟨V, hVe, hVb, HC, hg⟩ : ∃ V : World, Hid (w.alloc (.cells #[.slice A l.length c, .int .i64 0, .int .u64 0] 47) = V) ∧ Hid (Below w.heap.size w V) ∧ Hid (Cur V w.heap.size 0) ∧ w.heap.size + 1 = V.heap.size := ⟨_, Lib.hid rfl, Lib.hid ((Below.refl _ _).alloc (Nat.le_refl _) _), HCN, by simp⟩
  rw [hVe.out]
  clear hVe HCN
  obtain ⟨g, hge⟩ : ∃ g, Hid (w.heap.size = g) := ⟨_, Lib.hid rfl⟩
  have hgl := hge.out
  rw [hge.out] at HC ⊢
  go_upto_region 3 with (first | (go_at_call 15; refine (rungFew_any g 0 V HC.out (by omega)).mono ?_; rintro e w1 ⟨R, A2, c2, rfl, hRn, hRc, hRs0, hA0, hc1, ht1⟩; have hRs := Lib.hid hRs0; have HA1 := Lib.hid hA0; have HC1 := Lib.hid hc1; have HT1 := Lib.hid ht1; have hz1 := ht1.size; clear hRs0 hA0 hc1 ht1) | fail)
  go_upto_region 4 with fail
  obtain ⟨bb, hbb⟩ : ∃ b, Hid (w1.heap.size = b) := ⟨_, Lib.hid rfl⟩
  have hbbl := hbb.out
  obtain ⟨U, hU, HBU, HXU, hUs⟩ : ∃ U, Hid (w1.alloc (.cells #[.int .i64 100, .int .i64 200, .int .i64 0] 33) = U) ∧ Hid (Below w1.heap.size w1 U) ∧ Hid (Cells U w1.heap.size 3 (fun i => (#[Value.int .i64 100, .int .i64 200, .int .i64 0] : Array Value).getD i undef)) ∧ w1.heap.size + 1 = U.heap.size := ⟨_, Lib.hid rfl, Lib.hid ((Below.refl _ _).alloc (Nat.le_refl _) _), Lib.hid (box3_new w1 _ _ _ _), by simp⟩
  rw [hU.out, hbb.out]
  clear hU
  rw [hbb.out] at HXU
  have HCU := Lib.hid (HC1.out.later HBU.out)
  have HAU := Lib.hid (HA1.out.later HBU.out)
  have HTU : Hid (Turn g V U) := Lib.hid (Turn.then HT1.out HBU.out)
  have u0 : U.cell? ⟨bb, 0, none⟩ = some (.int .i64 100) := HXU.out.cell (i := 0) (by omega)
  have u1 : U.cell? ⟨bb, 1, none⟩ = some (.int .i64 200) := HXU.out.cell (i := 1) (by omega)
  have u2 : U.cell? ⟨bb, 2, none⟩ = some (.int .i64 0) := HXU.out.cell (i := 2) (by omega)
  go_upto_region 6 with (first | (go_at_call 16; refine (blows_any g _ R A2 c2 100 200 0 U HCU.out (by omega) (HAU.out.weak (by omega)) hRn hRs.out).mono ?_; rintro e w4 ⟨L, v, b0, rfl, hL30, hb0, hb1, hg4, hc4, ht4⟩; have HG4 := Lib.hid hg4; have HC4 := Lib.hid hc4; have HT4 : Hid (Turn g V w4) := Lib.hid (HTU.out.trans ht4); have HS4 : Hid (Turn g w1 w4) := Lib.hid ((Turn.of HBU.out).trans ht4); have HX4 := Lib.hid (HXU.out.chg ht4 (.inr (by omega))); have HA4 := Lib.hid (HAU.out.turn ht4 (by omega)); have hz4 := ht4.size; clear hg4 hc4 ht4) | fail)
  clear u0 u1 u2 HCU HAU HTU HXU HBU HC1 HT1 HC
  obtain ⟨A3, c3, rfl, ho4⟩ := HG4.out.own Blw_enc_len
  have HO4 := Lib.hid ho4
  have hL3 := HG4.out.capN
  clear ho4
  by_cases hR0 : 0 < R.length
  focus
    obtain ⟨gR, oR, hAR, hgR, hcR⟩ := HA4.out.1.at hR0
    have r0 := hcR 0 _ rfl
    simp only [Nat.zero_mul, Nat.add_zero] at r0
    obtain ⟨s, hse⟩ : ∃ s, Hid (R[0] = s) := ⟨_, Lib.hid rfl⟩
    rw [hse.out] at r0
    subst hAR
    clear hcR
    have hRi : (0 : Int) < (R.length : Int) := by omega
    go_upto_region 8 with fail
    clear r0 hRi
    have HEr : Hid (Calls Tryz.prog 11 #[.int .i64 ((s.size : Int)), .slice A3 L.length c3, .agg #[.int .i64 100, .int .i64 200, .int .i64 0]] w4 fun e w' => ∃ (E : List Int) (A' : Option Addr) (c' : Nat) (ok : Bool), e = .returned (.tuple #[.slice A' E.length c', .bool ok]) ∧ E.length ≤ 400 ∧ OwnL w' w4.heap.size w'.heap.size A' 1 encInt E ∧ Below w4.heap.size w4 w') := Lib.hid ((sErrs_any ((s.size : Int)) 100 200 0 L A3 c3 w4 (HO4.out.rd Blw_enc_len) (by omega) hL3).mono fun e w' ⟨A', c', h1, _, h3, h4⟩ => ⟨_, A', c', _, h1, errR_len, h3, h4⟩)
    have p_0 : w4.cell? ⟨bb, 0, none⟩ = some (.int .i64 100) := (HX4.out).cell (i := 0) (by omega)
    have p_1 : w4.cell? ⟨bb, 1, none⟩ = some (.int .i64 200) := (HX4.out).cell (i := 1) (by omega)
    have p_2 : w4.cell? ⟨bb, 2, none⟩ = some (.int .i64 0) := (HX4.out).cell (i := 2) (by omega)
    go_upto_region 9 with (first | (go_at_call 11; refine HEr.out.mono ?_; rintro e w5 ⟨E, A1, c1, ok, rfl, hE, ho5, hb5⟩; have HE5 := Lib.hid ho5; have HO5 := Lib.hid (HO4.out.later hb5); have HA5 := Lib.hid (HA4.out.later hb5); have HC5 := Lib.hid (HC4.out.later hb5); have HT5 : Hid (Turn g V w5) := Lib.hid (Turn.then HT4.out hb5); have HS5 : Hid (Turn g w1 w5) := Lib.hid (Turn.then HS4.out hb5); have hz5 := hb5.size; clear ho5 hb5) | fail)
    clear p_0 p_1 p_2 HEr
    by_cases hl0 : 0 < L.length
    rotate_left
    · have hli : ¬ (0 : Int) < (L.length : Int) := by omega
      go_wp2
      (try simp only [Exit.inBlock, Exit.then])
      refine bodyPost_ret (results_tmpE3 rfl _ _ _) rfl ?_
      exact ⟨E, A1, c1, R, _, c2, L, A3, c3, rfl, hE, hRn, hRs.out, hL30, hL3, HE5.out.rd encInt_len, HA5.out.1, HO5.out.rd Blw_enc_len, Go.Proofs.YtglnehinmdmgmaaGreat.Below.chg hVb.out HT5.out (by omega) (by omega)⟩
    have hli : (0 : Int) < (L.length : Int) := by omega
    obtain ⟨gq, f9, hA3, hgq1, hgq2, _⟩ := HO5.out.cells hl0
    subst hA3
    have hl0' := Lib.hid hl0
    clear hl0
    go_upto_region 10 with (first | (go_at_call 17; refine (one_any g _ 12 w5 HC5.out (by omega) (by omega)).mono ?_; rintro e w6 ⟨b6, rfl, hc6, ht6⟩; have HT6 : Hid (Turn g V w6) := Lib.hid (HT5.out.trans ht6); have HS6 : Hid (Turn g w1 w6) := Lib.hid (HS5.out.trans ht6); have hz6 := ht6.size; have HE6 := Lib.hid (HE5.out.chg ht6 (.inr (by omega))); have HA6 := Lib.hid (HA5.out.turn ht6 (by omega)); have HO6 := Lib.hid (HO5.out.chg ht6 (.inr (by omega))); clear hc6 ht6; cases b6) | fail)
    · go_wp2
      (try simp only [Exit.inBlock, Exit.then])
      refine bodyPost_ret (results_tmpE3 rfl _ _ _) rfl ?_
      exact ⟨E, A1, c1, R, _, c2, L, _, c3, rfl, hE, hRn, hRs.out, hL30, hL3, (HE6.out.mono (Nat.le_refl _) hz6).rd encInt_len, HA6.out.1, HO6.out.rd Blw_enc_len, Go.Proofs.YtglnehinmdmgmaaGreat.Below.chg hVb.out HT6.out (by omega) (by omega)⟩
    · obtain ⟨x, hx⟩ : ∃ x, Hid (L[0]'hl0'.out = x) := ⟨_, Lib.hid rfl⟩
      have x0 : w6.cell? ⟨gq, 0, none⟩ = some (.int .i64 x.row) := by have := (HO6.out.get Blw_enc_len 0 hl0'.out 0 (by omega)).1; rw [hx.out] at this; exact this
      have x1 : w6.frozen? ⟨gq, 0, none⟩ = false := (HO6.out.get Blw_enc_len 0 hl0'.out 0 (by omega)).2
      go_wp2
      (try simp only [Exit.inBlock, Exit.then])
      refine bodyPost_ret (results_tmpE3 rfl _ _ _) rfl ?_
      have kt : Turn gq w6 (w6.setCell ⟨gq, 0, none⟩ (.int .i64 700)) := (Chg.refl gq (gq + 1) w6).setCell (p := ⟨gq, 0, none⟩) (Nat.le_refl _) (Nat.lt_succ_self _) _
      have kb : Below gq w6 (w6.setCell ⟨gq, 0, none⟩ (.int .i64 700)) := (Below.refl _ _).setCell (p := ⟨gq, 0, none⟩) (Nat.le_refl _) _
      exact ⟨E, A1, c1, R, _, c2, L.set 0 ⟨700, x.place, x.at_⟩, _, c3, by rw [List.length_set]; rfl, hE, hRn, hRs.out, by rw [List.length_set]; exact hL30, by rw [List.length_set]; exact hL3, ((HE6.out.chg kt (.inr (by omega))).mono (Nat.le_refl _) (by simpa using hz6)).rd encInt_len, (HA1.out.turn (Turn.thenB HS6.out (kb.mono (by omega))) (by omega)).1, (HO6.out.put Blw_enc_len 0 hl0'.out 0 (by omega) ⟨700, x.place, x.at_⟩ (.int .i64 700) (by rw [hx.out]; rfl)).rd Blw_enc_len, (Go.Proofs.YtglnehinmdmgmaaGreat.Below.chg hVb.out HT6.out (by omega) (by omega)).trans (kb.mono (by omega))⟩
  have hRi : ¬ (0 : Int) < (R.length : Int) := by omega
  go_upto_region 8 with fail
  clear hRi
  have HEr : Hid (Calls Tryz.prog 11 #[.int .i64 (4), .slice A3 L.length c3, .agg #[.int .i64 100, .int .i64 200, .int .i64 0]] w4 fun e w' => ∃ (E : List Int) (A' : Option Addr) (c' : Nat) (ok : Bool), e = .returned (.tuple #[.slice A' E.length c', .bool ok]) ∧ E.length ≤ 400 ∧ OwnL w' w4.heap.size w'.heap.size A' 1 encInt E ∧ Below w4.heap.size w4 w') := Lib.hid ((sErrs_any (4) 100 200 0 L A3 c3 w4 (HO4.out.rd Blw_enc_len) (by omega) hL3).mono fun e w' ⟨A', c', h1, _, h3, h4⟩ => ⟨_, A', c', _, h1, errR_len, h3, h4⟩)
  have p_0 : w4.cell? ⟨bb, 0, none⟩ = some (.int .i64 100) := (HX4.out).cell (i := 0) (by omega)
  have p_1 : w4.cell? ⟨bb, 1, none⟩ = some (.int .i64 200) := (HX4.out).cell (i := 1) (by omega)
  have p_2 : w4.cell? ⟨bb, 2, none⟩ = some (.int .i64 0) := (HX4.out).cell (i := 2) (by omega)
  go_upto_region 9 with (first | (go_at_call 11; refine HEr.out.mono ?_; rintro e w5 ⟨E, A1, c1, ok, rfl, hE, ho5, hb5⟩; have HE5 := Lib.hid ho5; have HO5 := Lib.hid (HO4.out.later hb5); have HA5 := Lib.hid (HA4.out.later hb5); have HC5 := Lib.hid (HC4.out.later hb5); have HT5 : Hid (Turn g V w5) := Lib.hid (Turn.then HT4.out hb5); have HS5 : Hid (Turn g w1 w5) := Lib.hid (Turn.then HS4.out hb5); have hz5 := hb5.size; clear ho5 hb5) | fail)
  clear p_0 p_1 p_2 HEr
  by_cases hl0 : 0 < L.length
  rotate_left
  · have hli : ¬ (0 : Int) < (L.length : Int) := by omega
    go_wp2
    (try simp only [Exit.inBlock, Exit.then])
    refine bodyPost_ret (results_tmpE3 rfl _ _ _) rfl ?_
    exact ⟨E, A1, c1, R, _, c2, L, A3, c3, rfl, hE, hRn, hRs.out, hL30, hL3, HE5.out.rd encInt_len, HA5.out.1, HO5.out.rd Blw_enc_len, Go.Proofs.YtglnehinmdmgmaaGreat.Below.chg hVb.out HT5.out (by omega) (by omega)⟩
  have hli : (0 : Int) < (L.length : Int) := by omega
  obtain ⟨gq, f9, hA3, hgq1, hgq2, _⟩ := HO5.out.cells hl0
  subst hA3
  have hl0' := Lib.hid hl0
  clear hl0
  go_upto_region 10 with (first | (go_at_call 17; refine (one_any g _ 12 w5 HC5.out (by omega) (by omega)).mono ?_; rintro e w6 ⟨b6, rfl, hc6, ht6⟩; have HT6 : Hid (Turn g V w6) := Lib.hid (HT5.out.trans ht6); have HS6 : Hid (Turn g w1 w6) := Lib.hid (HS5.out.trans ht6); have hz6 := ht6.size; have HE6 := Lib.hid (HE5.out.chg ht6 (.inr (by omega))); have HA6 := Lib.hid (HA5.out.turn ht6 (by omega)); have HO6 := Lib.hid (HO5.out.chg ht6 (.inr (by omega))); clear hc6 ht6; cases b6) | fail)
  · go_wp2
    (try simp only [Exit.inBlock, Exit.then])
    refine bodyPost_ret (results_tmpE3 rfl _ _ _) rfl ?_
    exact ⟨E, A1, c1, R, _, c2, L, _, c3, rfl, hE, hRn, hRs.out, hL30, hL3, (HE6.out.mono (Nat.le_refl _) hz6).rd encInt_len, HA6.out.1, HO6.out.rd Blw_enc_len, Go.Proofs.YtglnehinmdmgmaaGreat.Below.chg hVb.out HT6.out (by omega) (by omega)⟩
  · obtain ⟨x, hx⟩ : ∃ x, Hid (L[0]'hl0'.out = x) := ⟨_, Lib.hid rfl⟩
    have x0 : w6.cell? ⟨gq, 0, none⟩ = some (.int .i64 x.row) := by have := (HO6.out.get Blw_enc_len 0 hl0'.out 0 (by omega)).1; rw [hx.out] at this; exact this
    have x1 : w6.frozen? ⟨gq, 0, none⟩ = false := (HO6.out.get Blw_enc_len 0 hl0'.out 0 (by omega)).2
    go_wp2
    (try simp only [Exit.inBlock, Exit.then])
    refine bodyPost_ret (results_tmpE3 rfl _ _ _) rfl ?_
    have kt : Turn gq w6 (w6.setCell ⟨gq, 0, none⟩ (.int .i64 700)) := (Chg.refl gq (gq + 1) w6).setCell (p := ⟨gq, 0, none⟩) (Nat.le_refl _) (Nat.lt_succ_self _) _
    have kb : Below gq w6 (w6.setCell ⟨gq, 0, none⟩ (.int .i64 700)) := (Below.refl _ _).setCell (p := ⟨gq, 0, none⟩) (Nat.le_refl _) _
    exact ⟨E, A1, c1, R, _, c2, L.set 0 ⟨700, x.place, x.at_⟩, _, c3, by rw [List.length_set]; rfl, hE, hRn, hRs.out, by rw [List.length_set]; exact hL30, by rw [List.length_set]; exact hL3, ((HE6.out.chg kt (.inr (by omega))).mono (Nat.le_refl _) (by simpa using hz6)).rd encInt_len, (HA1.out.turn (Turn.thenB HS6.out (kb.mono (by omega))) (by omega)).1, (HO6.out.put Blw_enc_len 0 hl0'.out 0 (by omega) ⟨700, x.place, x.at_⟩ (.int .i64 700) (by rw [hx.out]; rfl)).rd Blw_enc_len, (Go.Proofs.YtglnehinmdmgmaaGreat.Below.chg hVb.out HT6.out (by omega) (by omega)).trans (kb.mono (by omega))⟩
end Go.Proofs.YtglnehinmdmgmaaGreat
