import Derived.Test.YtglnehinmdmgmaaGreatMErrorsL13
import Derived.Test.YtglnehinmdmgmaaGreatMErrorsL14
/-
  Drawn blows.
-/
namespace Go.Proofs.YtglnehinmdmgmaaGreat
open Go.RowKit
set_option linter.unusedVariables false
set_option linter.unusedSimpArgs false
set_option maxRecDepth 100000


/-- A number and drawn blows as a result. -/
def AbDrawn (g K : Nat) (w : World) (e : Ending) (w' : World) : Prop := ∃ (n : Int) (l : List Blw) (A2 : Option Addr) (c2 : Nat), e = .returned (.tuple #[.int .i64 n, .slice A2 l.length c2]) ∧ l.length ≤ 31 ∧ l.length ≤ c2 ∧ Aw w' w.heap.size A2 3 Blw.enc l ∧ Cur w' g K ∧ Turn g w w'
theorem AbDrawn.of {g K : Nat} {w w' : World} {e : Ending} {n : Int} {m : Nat} {l : List Blw} {A2 : Option Addr} {c2 : Nat} (he : e = .returned (.tuple #[.int .i64 n, .slice A2 m c2])) (hm : m = l.length) (h1 : m ≤ 31) (h2 : m ≤ c2) (ha : Aw w' w.heap.size A2 3 Blw.enc l) (hc : Cur w' g K) (ht : Turn g w w') : AbDrawn g K w e w' := by
  subst hm; exact ⟨n, l, A2, c2, he, h1, h2, ha, hc, ht⟩

set_option maxHeartbeats 6400000 in
theorem anyBlows_any (g K : Nat) (w : World) (h : Cur w g K) (hK : K ≤ 100000) :
    Calls Tryz.prog 27 #[.pointer (some ⟨g, 0, none⟩)] w fun e w' => AbDrawn g (K + 700) w e w' := by
  have H := Lib.hid h
  have hgw := h.lt
  clear h
  go_enter Tryz.func27, Tryz.ntmps27
  go_upto_region 3 with (first | (go_at_call 15; refine (rungFew_any g K w H.out (by omega)).mono ?_; rintro e w1 ⟨R, A1, c1, rfl, hRn, hRc, hRs0, hA0, hc1, ht1⟩; have hRs := Lib.hid hRs0; have HA1 := Lib.hid hA0; have HC1 := Lib.hid hc1; have HT1 := Lib.hid ht1; have hz1 := ht1.size; clear hRs0 hA0 hc1 ht1) | fail)
  by_cases hR0 : 0 < R.length
  focus
    obtain ⟨gR, oR, hAR, hgR, hcR⟩ := HA1.out.1.at hR0
    have r0 := hcR 0 _ rfl
    simp only [Nat.zero_mul, Nat.add_zero] at r0
    obtain ⟨s, hse⟩ : ∃ s, Hid (R[0] = s) := ⟨_, Lib.hid rfl⟩
    rw [hse.out] at r0
    subst hAR
    clear hcR
    have hRi : (0 : Int) < (R.length : Int) := by omega
    by_cases hrow : isRow s
    focus
      have e1 := B_t hrow
      clear hrow
      go_upto_region 5 with (first | (go_at_call 52; refine (l1Row_any s w1).mono ?_; rintro e wS ⟨rfl, hd1⟩; have r0' : wS.cell? ⟨gR, oR, none⟩ = some (.string s) := (by obtain ⟨n, rfl⟩ := hd1; exact r0); have hbS : Below w1.heap.size w1 wS := (by obtain ⟨n, rfl⟩ := hd1; exact below_drewN (Below.refl _ _) n); have HCS := Lib.hid (HC1.out.later hbS); have HTS := Lib.hid (HT1.out.then hbS); have HRS := Lib.hid (HA1.out.later hbS); have hzS := hbS.size; clear hd1 hbS) | fail)
      clear r0 r0' e1
    rotate_left
    focus
      have e1 := B_f hrow
      clear hrow
      go_upto_region 5 with (first | (go_at_call 52; refine (l1Row_any s w1).mono ?_; rintro e wS ⟨rfl, hd1⟩; have hbS : Below w1.heap.size w1 wS := (by obtain ⟨n, rfl⟩ := hd1; exact below_drewN (Below.refl _ _) n); have HCS := Lib.hid (HC1.out.later hbS); have HTS := Lib.hid (HT1.out.then hbS); have HRS := Lib.hid (HA1.out.later hbS); have hzS := hbS.size; clear hd1 hbS) | fail)
      clear r0 e1
  rotate_left 2
  focus
    have hRi : ¬ (0 : Int) < (R.length : Int) := by omega
    go_upto_region 5 with fail
    have HCS := HC1
    have HTS := HT1
    have HRS := HA1
    have hzS : w1.heap.size ≤ w1.heap.size := Nat.le_refl _
    obtain ⟨wS, rfl⟩ : ∃ wS, wS = w1 := ⟨w1, rfl⟩
  all_goals
    clear HC1 HT1 HA1
    (try clear hR0)
    (try clear hRi)
    have HRg := Lib.hid (HRS.out.weak (show g + 1 ≤ w.heap.size by omega))
    go_upto_region 6 with (first
      | (go_at_call 47; with_reducible show Calls _ _ #[_, Value.slice (some ⟨(wS).heap.size, 0, none⟩) _ _] _ _; refine (among_any g (K + 200) (wS).heap.size 3 3 _ (fun _ => True) _ ((HCS.out).later ((Below.refl _ _).alloc (Nat.le_refl _) _)) (by omega) (by omega) (by omega) (Cells.lit wS _ _ 3 rfl) (by have := (HCS.out).lt; omega) (by intro k hk; rcases k with _ | _ | _ | k <;> first | exact ⟨_, rfl, trivial⟩ | omega)).mono ?_; rintro e wA ⟨ga, rfl, _, hc9, ht9⟩; have ht9' := (Turn.of (g := g) ((Below.refl (wS).heap.size (wS)).alloc (Nat.le_refl _) _)).trans ht9; have HCwA := Lib.hid hc9; have HTwA := Lib.hid ((HTS.out).trans ht9'); have HRwA := Lib.hid ((HRg.out).turn ht9' (by omega)); have hzwA := ht9'.size; clear hc9 ht9 ht9')
      | (go_at_call 47; with_reducible show Calls _ _ #[_, Value.slice (some ⟨(wA).heap.size, 0, none⟩) _ _] _ _; refine (among_any g (K + 200 + 2) (wA).heap.size 3 3 _ (fun _ => True) _ ((HCwA.out).later ((Below.refl _ _).alloc (Nat.le_refl _) _)) (by omega) (by omega) (by omega) (Cells.lit wA _ _ 3 rfl) (by have := (HCwA.out).lt; omega) (by intro k hk; rcases k with _ | _ | _ | k <;> first | exact ⟨_, rfl, trivial⟩ | omega)).mono ?_; rintro e wB ⟨ha, rfl, _, hc9, ht9⟩; have ht9' := (Turn.of (g := g) ((Below.refl (wA).heap.size (wA)).alloc (Nat.le_refl _) _)).trans ht9; have HCwB := Lib.hid hc9; have HTwB := Lib.hid ((HTwA.out).trans ht9'); have HRwB := Lib.hid ((HRwA.out).turn ht9' (by omega)); have hzwB := ht9'.size; clear hc9 ht9 ht9')
      | (go_at_call 16; refine (blows_any g (K + 204) R _ c1 100 ga ha wB HCwB.out (by omega) HRwB.out hRn hRs.out).mono ?_; rintro e w4 ⟨l, v, b0, rfl, hl30, hb0, hb1, hg4, hc4, ht4⟩; have HG4 := Lib.hid hg4; have HC4 := Lib.hid hc4; have HT4 := Lib.hid (HTwB.out.trans ht4); have hz4 := ht4.size; clear hg4 hc4 ht4)
      | fail)
    obtain ⟨A2, c2, rfl, ho4⟩ := HG4.out.own Blw_enc_len
    have HO4 := Lib.hid ho4
    have HCP4 := Lib.hid HG4.out.capN
    clear ho4
    by_cases hl0 : 0 < l.length
    rotate_left
    focus
      have hli : ¬ (0 : Int) < (l.length : Int) := by omega
      clear hl0
      go_wp2
      go_ret2
      exact ⟨_, l, A2, c2, rfl, by omega, HCP4.out, Aw.own HO4.out Blw_enc_len (by omega), HC4.out.more (by omega), HT4.out⟩
    obtain ⟨gq, f9, rfl, hgq1, hgq2, _⟩ := HO4.out.cells hl0
    have hli : (0 : Int) < (l.length : Int) := by omega
    have hl0' := Lib.hid hl0
    clear hl0
    go_upto_region 8 with (first | (go_at_call 48; refine (pick_any g (K + 204 + 400) 20 w4 HC4.out (by omega) (by omega)).mono ?_; rintro e w5 ⟨q, rfl, hq0, hq1, hc5, ht5⟩; have HC5 := Lib.hid hc5; have HT5 := Lib.hid (HT4.out.trans ht5); have HG5 := Lib.hid (HG4.out.turn ht5 (by omega)); have hz5 := ht5.size; have HO5 := Lib.hid ((HO4.out.chg ht5 (.inr (by omega))).mono (Nat.le_refl _) hz5); clear hc5 ht5) | fail)
    have HX : Hid (∃ x, l[0]'hl0'.out = x) := Lib.hid ⟨_, rfl⟩
    obtain ⟨x, hx⟩ := HX.out
    have Hx := Lib.hid hx
    clear hx HX
    by_cases e0 : q = 0
    · have d0 : (q == (0 : Int)) = true := by simpa using e0
      clear e0
      go_wp2_with (first | (go_at_call 47; refine (among_any g _ w5.heap.size 2 2 _ (fun _ => True) _ (HC5.out.later ((Below.refl _ _).alloc (Nat.le_refl _) _)) (by omega) (by omega) (by omega) (Cells.lit w5 _ _ 2 rfl) (by have := HC5.out.lt; omega) (by intro k hk; rcases k with _ | _ | k <;> first | exact ⟨_, rfl, trivial⟩ | omega)).mono ?_; rintro e w6 ⟨y, rfl, _, hc6, ht6⟩; have ht6' := (Turn.of (g := g) ((Below.refl w5.heap.size w5).alloc (Nat.le_refl _) _)).trans ht6; have HC6 := Lib.hid hc6; have HT6 := Lib.hid (HT5.out.trans ht6'); have hz6 := ht6'.size; have HO6 := Lib.hid ((HO5.out.chg ht6' (.inr (by omega))).mono (Nat.le_refl _) hz6); have y1 : w6.cell? ⟨gq, 1, none⟩ = some (.int .i64 x.place) := (by have := (HO6.out.get Blw_enc_len 0 hl0'.out 1 (by omega)).1; rw [Hx.out] at this; exact this); have z1 : w6.frozen? ⟨gq, 1, none⟩ = false := (HO6.out.get Blw_enc_len 0 hl0'.out 1 (by omega)).2; clear hc6 ht6 ht6') | fail)
      go_ret2
      have kb : Below gq w6 (w6.setCell ⟨gq, 1, none⟩ (.int .i64 y)) := (Below.refl _ _).setCell (p := ⟨gq, 1, none⟩) (Nat.le_refl _) _
      exact AbDrawn.of (l := l.set 0 ⟨x.row, y, x.at_⟩) rfl (List.length_set).symm (by omega) HCP4.out (Aw.own ((HO6.out.put Blw_enc_len 0 hl0'.out 1 (by omega) ⟨x.row, y, x.at_⟩ (.int .i64 y) (by rw [Hx.out]; rfl)).mono (Nat.le_refl _) kb.size) Blw_enc_len (by omega)) ((HC6.out.keep kb (by omega)).more (by omega)) (HT6.out.thenB (kb.mono (by omega)))
    have d0 : (q == (0 : Int)) = false := by simpa using e0
    clear e0
    have y0 : w5.cell? ⟨gq, 0, none⟩ = some (.int .i64 x.row) := by have := (HO5.out.get Blw_enc_len 0 hl0'.out 0 (by omega)).1; rw [Hx.out] at this; exact this
    have y1 : w5.cell? ⟨gq, 1, none⟩ = some (.int .i64 x.place) := by have := (HO5.out.get Blw_enc_len 0 hl0'.out 1 (by omega)).1; rw [Hx.out] at this; exact this
    have y2 : w5.cell? ⟨gq, 2, none⟩ = some (.int .i64 x.at_) := by have := (HO5.out.get Blw_enc_len 0 hl0'.out 2 (by omega)).1; rw [Hx.out] at this; exact this
    have z2 : w5.frozen? ⟨gq, 2, none⟩ = false := (HO5.out.get Blw_enc_len 0 hl0'.out 2 (by omega)).2
    by_cases e1 : q = 1
    · have d1 : (q == (1 : Int)) = true := by simpa using e1
      clear e1
      go_wp2
      go_ret2
      have kb : Below gq w5 (w5.setCell ⟨gq, 2, none⟩ (.int .i64 (-1))) := (Below.refl _ _).setCell (p := ⟨gq, 2, none⟩) (Nat.le_refl _) _
      exact AbDrawn.of (l := l.set 0 ⟨x.row, x.place, -1⟩) rfl (List.length_set).symm (by omega) HCP4.out (Aw.own ((HO5.out.put Blw_enc_len 0 hl0'.out 2 (by omega) ⟨x.row, x.place, -1⟩ (.int .i64 (-1)) (by rw [Hx.out]; rfl)).mono (Nat.le_refl _) kb.size) Blw_enc_len (by omega)) ((HC5.out.keep kb (by omega)).more (by omega)) (HT5.out.thenB (kb.mono (by omega)))
    have d1 : (q == (1 : Int)) = false := by simpa using e1
    clear e1
    by_cases e2 : q = 2
    · have d2 : (q == (2 : Int)) = true := by simpa using e2
      clear e2
      go_wp2_with (first | (at_builtin; refine wpList_pushA rfl (.tmp 52) (.tmp 56) 26 rfl b0 43 _ 3 24 Blw.enc rfl Blow_info rfl (by omega) _ l [⟨x.row, x.place, x.at_⟩] 1 rfl rfl (by simp) HG5.out rfl Blw_enc_len (by simp [Value.oneCell']) (by simp only [List.length_singleton]; omega) (by omega) (by omega) ?_; intro v7 w7 g7 b7 gb7 k7; have HG7 := Lib.hid g7; have HB7 := Lib.hid b7; clear g7 b7 gb7 k7; obtain ⟨A7, c7, rfl, ho7⟩ := HG7.out.own Blw_enc_len; have HO7 := Lib.hid ho7; have HCP7 := Lib.hid HG7.out.capN; clear ho7) | fail)
      go_ret2
      exact AbDrawn.of (l := l ++ [⟨x.row, x.place, x.at_⟩]) rfl (by simp) (by omega) (by have := HCP7.out; simpa using this) (Aw.own HO7.out Blw_enc_len (by omega)) ((HC5.out.keep HB7.out (by omega)).more (by omega)) (HT5.out.thenB (HB7.out.mono (by omega)))
    have d2 : (q == (2 : Int)) = false := by simpa using e2
    clear e2 y0 y1 y2 z2
    go_wp2
    go_ret2
    exact AbDrawn.of rfl rfl (by omega) HCP4.out (Aw.own HO5.out Blw_enc_len (by omega)) (HC5.out.more (by omega)) HT5.out


/-- A stage, blows and numbers as a result. -/
def FgDrawn (w : World) (e : Ending) (w' : World) : Prop := ∃ (n : Int) (l : List Blw) (A2 : Option Addr) (c2 : Nat) (a b d : Int), e = .returned (.tuple #[.int .i64 n, .slice A2 l.length c2, .int .i64 a, .int .i64 b, .int .i64 d]) ∧ l.length ≤ 31 ∧ l.length ≤ c2 ∧ RdL w' w'.heap.size A2 3 Blw.enc l ∧ Below w.heap.size w w'
def SfoDrawn (w : World) (e : Ending) (w' : World) : Prop := ∃ (n : Int) (l : List Blw) (A2 : Option Addr) (c2 : Nat) (a b : Int), e = .returned (.tuple #[.int .i64 n, .slice A2 l.length c2, .int .i64 a, .int .i64 b]) ∧ l.length ≤ 31 ∧ l.length ≤ c2 ∧ RdL w' w'.heap.size A2 3 Blw.enc l ∧ Below w.heap.size w w'
end Go.Proofs.YtglnehinmdmgmaaGreat
