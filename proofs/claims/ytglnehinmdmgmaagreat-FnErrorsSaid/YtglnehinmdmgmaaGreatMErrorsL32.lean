import Derived.Test.YtglnehinmdmgmaaGreatMErrorsL31
import Derived.Test.YtglnehinmdmgmaaGreatMErrorsL14
import Derived.Test.YtglnehinmdmgmaaGreatMErrorsL01
import Derived.Shelf.GgSortFunc.Compose
/-
  The best match of one bell: the contracts of both sides.
-/
namespace Go.Proofs.YtglnehinmdmgmaaGreat
open Go.RowKit
set_option linter.unusedVariables false
set_option linter.unusedSimpArgs false
set_option maxRecDepth 100000


/-! ### One bell -/
def mbP (st gap hand : Int) (rows : List ByteArray) (l : List Stk) : Prop := idP st gap hand rows ∧ strikesP l
open Classical in
/-- What MatchBell answers, the rows being good, the bell one of theirs. -/
noncomputable def mbR (st gap hand : Int) (rows : List ByteArray) (l : List Stk) (bell s : Int) : (List Int × Int) × Bool := if mbP st gap hand rows l then bmR (ofL (idealL st gap hand rows rows.length) bell) (ofL l bell) s else (([], 0), false)
section
variable {st gap hand : Int} {rows : List ByteArray} {l : List Stk} {bell s : Int}
theorem mbR_y (h : mbP st gap hand rows l) : mbR st gap hand rows l bell s = bmR (ofL (idealL st gap hand rows rows.length) bell) (ofL l bell) s := if_pos h
theorem mbR_n (h : ¬ mbP st gap hand rows l) : mbR st gap hand rows l bell s = (([], 0), false) := if_neg h
end





set_option maxHeartbeats 3200000 in
theorem iMatchB_any (st gap hand : Int) (rows : List ByteArray) (l : List Stk) (bell s : Int) (A A2 : Option Addr) (c c2 : Nat) (w : World) (h : RdL w w.heap.size A 1 encString rows) (h2 : RdL w w.heap.size A2 2 Stk.enc l) (hl : rows.length ≤ 1048576) (hl2 : l.length ≤ 1048576) (hs : ∀ x ∈ rows, String_small 1048576 x) (hR : rowsP rows) (h0 : 0 < rows.length) (hbl : inB bell 1 (sz0 rows)) : Calls Tryz.prog 35 #[.agg #[.int .i64 st, .int .i64 gap, .int .i64 hand], .slice A rows.length c, .slice A2 l.length c2, .int .i64 bell, .int .i64 s] w fun e w' => BmC (mbR st gap hand rows l bell s) w e w' := by
  have hB0 : Hid (Below w.heap.size w ((w.alloc (.cells #[.int .i64 st, .int .i64 gap, .int .i64 hand] 33)).alloc (.cells #[.slice none 0 0, .int .i64 0] 66))) := Lib.hid (((Below.refl _ _).alloc (Nat.le_refl _) _).alloc (by simp) _)
  have hX0 : Hid (Cells ((w.alloc (.cells #[.int .i64 st, .int .i64 gap, .int .i64 hand] 33)).alloc (.cells #[.slice none 0 0, .int .i64 0] 66)) (w.heap.size + 1) 2 (bxM (.slice none 0 0) 0)) := Lib.hid (by have := bxM_new (w.alloc (.cells #[.int .i64 st, .int .i64 gap, .int .i64 hand] 33)) 66 (.slice none 0 0) 0; simpa using this)
  have k0 : (((w.alloc (.cells #[.int .i64 st, .int .i64 gap, .int .i64 hand] 33)).alloc (.cells #[.slice none 0 0, .int .i64 0] 66))).cell? ⟨w.heap.size, 0, none⟩ = some (.int .i64 st) := by simp [go_sem]
  have k1 : (((w.alloc (.cells #[.int .i64 st, .int .i64 gap, .int .i64 hand] 33)).alloc (.cells #[.slice none 0 0, .int .i64 0] 66))).cell? ⟨w.heap.size, 1, none⟩ = some (.int .i64 gap) := by simp [go_sem]
  have k2 : (((w.alloc (.cells #[.int .i64 st, .int .i64 gap, .int .i64 hand] 33)).alloc (.cells #[.slice none 0 0, .int .i64 0] 66))).cell? ⟨w.heap.size, 2, none⟩ = some (.int .i64 hand) := by simp [go_sem]
  have H1 := Lib.hid ((h.below hB0.out (Nat.le_refl _)).more hB0.out.size)
  have H2 := Lib.hid ((h2.below hB0.out (Nat.le_refl _)).more hB0.out.size)
  obtain ⟨g0, of0, hA0, hg0, hc0⟩ := h.at h0
  have s0 : w.cell? ⟨g0, of0, none⟩ = some (.string rows[0]) := by have := hc0 0 _ rfl; simpa using this
  have hsz := sz0_eq rows h0
  obtain ⟨t, ht⟩ : ∃ t, Hid (rows[0] = t) := ⟨_, Lib.hid rfl⟩
  have ht8 : t.size ≤ 8 := by have := (hR.2 0 h0).1.2.1; rw [ht.out] at this; exact this
  have hk800 := hR.1
  rw [ht.out] at s0 hsz
  rw [hsz] at hbl
  have e4 := B_t hbl
  have hn0 : ((rows.length : Int) == 0) = false := by rw [beq_eq_false_iff_ne]; omega
  have Hs := Lib.hid hs
  have S0 := Lib.hid s0
  subst hA0
  clear h h2 hc0 hbl hsz s0
  obtain ⟨V, hV, hVs⟩ : ∃ V, Hid (((w.alloc (.cells #[.int .i64 st, .int .i64 gap, .int .i64 hand] 33)).alloc (.cells #[.slice none 0 0, .int .i64 0] 66)) = V) ∧ w.heap.size + 2 = V.heap.size := ⟨_, Lib.hid rfl, by simp⟩
  rw [hV.out] at hB0 hX0 k0 k1 k2 H1 H2
  by_cases hi : idP st gap hand rows
  rotate_left
  · have HY := Lib.hid (mbR_n (st := st) (gap := gap) (hand := hand) (rows := rows) (l := l) (bell := bell) (s := s) (fun x => hi x.1))
    have hc := Lib.hid (iIdeal_any st gap hand rows (some ⟨g0, of0, none⟩) c V H1.out hl Hs.out)
    rw [ideR_n hi] at hc
    have HC := Lib.hid (show Calls Tryz.prog 56 #[.agg #[.int .i64 st, .int .i64 gap, .int .i64 hand], .slice (some ⟨g0, of0, none⟩) rows.length c] V fun e w' => ∃ (A' : Option Addr) (c' : Nat), e = .returned (.tuple #[.slice A' 0 c', .bool false]) ∧ RdL w' w'.heap.size A' 2 Stk.enc [] ∧ Below V.heap.size V w' from hc.out)
    clear hi hc
    go_enter Tryz.func35, Tryz.ntmps35
    go_upto_region 1 with fail
    rw [hV.out]
    go_wp2_with (first | (go_at_call 56; refine HC.out.mono ?_; rintro e w1 ⟨A1, c1, rfl, _, hb1⟩; have HB1 := Lib.hid hb1; have HX1 := Lib.hid (hX0.out.later hb1); have y0 : w1.cell? ⟨(w.heap.size + 1), 0, none⟩ = some (.slice none 0 0) := (HX1.out).cell (i := 0) (by omega); have y1 : w1.cell? ⟨(w.heap.size + 1), 1, none⟩ = some (.int .i64 0) := (HX1.out).cell (i := 1) (by omega); have z0 := (HX1.out).free (i := 0) (by omega); have z1 := (HX1.out).free (i := 1) (by omega); clear hb1) | fail)
    refine bodyPost_ret (v := .tuple #[.agg #[.slice none 0 0, .int .i64 0], .bool false]) (by simp [results, Tryz.results35, go_sem, y0, y1, z0, z1]) rfl ?_
    exact BmC.no HY.out rfl (below_box2 (hB0.out.trans (HB1.out.mono hB0.out.size)) (Nat.le_succ _) _ _)
  have hc := Lib.hid (iIdeal_any st gap hand rows (some ⟨g0, of0, none⟩) c V H1.out hl Hs.out)
  rw [ideR_y hi] at hc
  have hI2 : (idealL st gap hand rows rows.length).length ≤ 2000 := hi.2.2.1
  by_cases hS : strikesP l
  rotate_left
  · have HY := Lib.hid (mbR_n (st := st) (gap := gap) (hand := hand) (rows := rows) (l := l) (bell := bell) (s := s) (fun x => hS x.2))
    have e2 := B_f hS
    generalize idealL st gap hand rows rows.length = I at *
    have HC := Lib.hid (show Calls Tryz.prog 56 #[.agg #[.int .i64 st, .int .i64 gap, .int .i64 hand], .slice (some ⟨g0, of0, none⟩) rows.length c] V fun e w' => ∃ (A' : Option Addr) (c' : Nat), e = .returned (.tuple #[.slice A' I.length c', .bool true]) ∧ RdL w' w'.heap.size A' 2 Stk.enc I ∧ Below V.heap.size V w' from hc.out)
    clear hi hc hS
    go_enter Tryz.func35, Tryz.ntmps35
    go_upto_region 1 with fail
    rw [hV.out]
    go_wp2_with (first | (go_at_call 56; refine HC.out.mono ?_; rintro e w1 ⟨A1, c1, rfl, _, hb1⟩; have HB1 := Lib.hid hb1; clear hb1) | (go_at_call 57; refine (iStrikes_any l A2 c2 w1 ((H2.out.below HB1.out (Nat.le_refl _)).more HB1.out.size) hl2).mono ?_; rintro e w2 ⟨rfl, hb2⟩; have HB2 := Lib.hid (HB1.out.trans (hb2.mono HB1.out.size)); have HX2 := Lib.hid (hX0.out.later HB2.out); have y0 : w2.cell? ⟨(w.heap.size + 1), 0, none⟩ = some (.slice none 0 0) := (HX2.out).cell (i := 0) (by omega); have y1 : w2.cell? ⟨(w.heap.size + 1), 1, none⟩ = some (.int .i64 0) := (HX2.out).cell (i := 1) (by omega); have z0 := (HX2.out).free (i := 0) (by omega); have z1 := (HX2.out).free (i := 1) (by omega); clear hb2) | fail)
    refine bodyPost_ret (v := .tuple #[.agg #[.slice none 0 0, .int .i64 0], .bool false]) (by simp [results, Tryz.results35, go_sem, y0, y1, z0, z1]) rfl ?_
    exact BmC.no HY.out rfl (below_box2 (hB0.out.trans (HB2.out.mono hB0.out.size)) (Nat.le_succ _) _ _)
  have HY := Lib.hid (mbR_y (bell := bell) (s := s) (show mbP st gap hand rows l from ⟨hi, hS⟩))
  have e2 := B_t hS
  generalize idealL st gap hand rows rows.length = I at *
  have HC := Lib.hid (show Calls Tryz.prog 56 #[.agg #[.int .i64 st, .int .i64 gap, .int .i64 hand], .slice (some ⟨g0, of0, none⟩) rows.length c] V fun e w' => ∃ (A' : Option Addr) (c' : Nat), e = .returned (.tuple #[.slice A' I.length c', .bool true]) ∧ RdL w' w'.heap.size A' 2 Stk.enc I ∧ Below V.heap.size V w' from hc.out)
  have ho1 := ofL_len I bell
  have ho2 := ofL_len l bell
  clear hi hc hS
  rw [HY.out]
  have HBM : Hid (∀ (W : World) (B1 B2 : Option Addr) (d1 d2 : Nat), RdL W W.heap.size B1 1 encInt (ofL I bell) → RdL W W.heap.size B2 1 encInt (ofL l bell) → Calls Tryz.prog 59 #[.slice B1 (ofL I bell).length d1, .slice B2 (ofL l bell).length d2, .int .i64 s] W fun e w' => ∃ (A' : Option Addr) (c' : Nat), e = .returned (.tuple #[.agg #[.slice A' (bmR (ofL I bell) (ofL l bell) s).1.1.length c', .int .i64 (bmR (ofL I bell) (ofL l bell) s).1.2], .bool (bmR (ofL I bell) (ofL l bell) s).2]) ∧ OwnL w' W.heap.size w'.heap.size A' 1 encInt (bmR (ofL I bell) (ofL l bell) s).1.1 ∧ Below W.heap.size W w') := Lib.hid fun W B1 B2 d1 d2 k1 k2 => iBest2_any (ofL I bell) (ofL l bell) s B1 B2 d1 d2 W k1 k2 (by omega) (by omega)
  clear HY
  generalize bmR (ofL I bell) (ofL l bell) s = R at *
  obtain ⟨⟨O, x⟩, ok⟩ := R
  simp only at HBM
  go_enter Tryz.func35, Tryz.ntmps35
  go_upto_region 1 with fail
  rw [hV.out]
  go_upto_region 4 with (first | (go_at_call 56; refine HC.out.mono ?_; rintro e w1 ⟨A1, c1, rfl, hr1, hb1⟩; have HB1 := Lib.hid hb1; have HR1 := Lib.hid hr1; clear hr1 hb1) | (go_at_call 57; refine (iStrikes_any l A2 c2 w1 ((H2.out.below HB1.out (Nat.le_refl _)).more HB1.out.size) hl2).mono ?_; rintro e w2 ⟨rfl, hb2⟩; have HB2 := Lib.hid (HB1.out.trans (hb2.mono HB1.out.size)); have HR2 := Lib.hid ((HR1.out.below hb2 (Nat.le_refl _)).more hb2.size); have s0 := (hB0.out.trans (HB2.out.mono hB0.out.size)).cell (p := ⟨g0, of0, none⟩) hg0 |>.trans S0.out; clear hb2) | (go_at_call 58; refine (isBell_any _ _ _).mono ?_; rintro e w' ⟨rfl, rfl⟩) | fail)
  clear s0 k0 k1 k2
  go_wp2_with (first | (go_at_call 36; with_reducible show Calls _ _ #[Value.slice A1 _ _, _] _ _; refine (ofBell_any I bell A1 c1 w2 HR2.out (by omega)).mono ?_; rintro e w3 ⟨A3, c3, rfl, hc3, ho3, hb3⟩; have HO3 := Lib.hid (ho3.rd encInt_len); have HB3 := Lib.hid (HB2.out.trans (hb3.mono HB2.out.size)); clear ho3 hb3) | (go_at_call 36; with_reducible show Calls _ _ #[Value.slice A2 _ _, _] _ _; refine (ofBell_any l bell A2 c2 w3 ((H2.out.below HB3.out (Nat.le_refl _)).more HB3.out.size) hl2).mono ?_; rintro e w4 ⟨A4, c4, rfl, hc4, ho4, hb4⟩; have HO4 := Lib.hid (ho4.rd encInt_len); have HP4 := Lib.hid ((HO3.out.below hb4 (Nat.le_refl _)).more hb4.size); have HB4 := Lib.hid (HB3.out.trans (hb4.mono HB3.out.size)); clear ho4 hb4) | (go_at_call 59; refine (HBM.out w4 A3 A4 c3 c4 HP4.out HO4.out).mono ?_; rintro e w5 ⟨A5, c5, rfl, ho5, hb5⟩; have HO5 := Lib.hid ho5; have HB5 := Lib.hid (HB4.out.trans (hb5.mono HB4.out.size)); have HX5 := Lib.hid (hX0.out.later HB5.out); have y0 : w5.cell? ⟨(w.heap.size + 1), 0, none⟩ = some (.slice none 0 0) := (HX5.out).cell (i := 0) (by omega); have y1 : w5.cell? ⟨(w.heap.size + 1), 1, none⟩ = some (.int .i64 0) := (HX5.out).cell (i := 1) (by omega); have z0 := (HX5.out).free (i := 0) (by omega); have z1 := (HX5.out).free (i := 1) (by omega); have hz4 := HB4.out.size; clear ho5 hb5) | fail)
  refine bodyPost_ret (v := .tuple #[.agg #[.slice A5 O.length c5, .int .i64 x], .bool ok]) (by simp [results, Tryz.results35, go_sem, y0, y1, z0, z1]) rfl ?_
  exact ⟨A5, c5, rfl, (HO5.out.box2 (g := w.heap.size + 1) (by omega) _ _).mono (by omega) (Nat.le_refl _), below_box2 (hB0.out.trans (HB5.out.mono hB0.out.size)) (Nat.le_succ _) _ _⟩
set_option maxHeartbeats 3200000 in
theorem sMatchB_any (st gap hand : Int) (rows : List ByteArray) (l : List Stk) (bell s : Int) (A A2 : Option Addr) (c c2 : Nat) (w : World) (h : RdL w w.heap.size A 1 encString rows) (h2 : RdL w w.heap.size A2 2 Stk.enc l) (hl : rows.length ≤ 1048576) (hl2 : l.length ≤ 1048576) (hs : ∀ x ∈ rows, String_small 1048576 x) (hR : rowsP rows) (h0 : 0 < rows.length) (hbl : inB bell 1 (sz0 rows)) : Calls Tryz.prog 41 #[.agg #[.int .i64 st, .int .i64 gap, .int .i64 hand], .slice A rows.length c, .slice A2 l.length c2, .int .i64 bell, .int .i64 s] w fun e w' => BmC (mbR st gap hand rows l bell s) w e w' := by
  have hB0 : Hid (Below w.heap.size w ((w.alloc (.cells #[.int .i64 st, .int .i64 gap, .int .i64 hand] 33)).alloc (.cells #[.slice none 0 0, .int .i64 0] 66))) := Lib.hid (((Below.refl _ _).alloc (Nat.le_refl _) _).alloc (by simp) _)
  have hX0 : Hid (Cells ((w.alloc (.cells #[.int .i64 st, .int .i64 gap, .int .i64 hand] 33)).alloc (.cells #[.slice none 0 0, .int .i64 0] 66)) (w.heap.size + 1) 2 (bxM (.slice none 0 0) 0)) := Lib.hid (by have := bxM_new (w.alloc (.cells #[.int .i64 st, .int .i64 gap, .int .i64 hand] 33)) 66 (.slice none 0 0) 0; simpa using this)
  have k0 : (((w.alloc (.cells #[.int .i64 st, .int .i64 gap, .int .i64 hand] 33)).alloc (.cells #[.slice none 0 0, .int .i64 0] 66))).cell? ⟨w.heap.size, 0, none⟩ = some (.int .i64 st) := by simp [go_sem]
  have k1 : (((w.alloc (.cells #[.int .i64 st, .int .i64 gap, .int .i64 hand] 33)).alloc (.cells #[.slice none 0 0, .int .i64 0] 66))).cell? ⟨w.heap.size, 1, none⟩ = some (.int .i64 gap) := by simp [go_sem]
  have k2 : (((w.alloc (.cells #[.int .i64 st, .int .i64 gap, .int .i64 hand] 33)).alloc (.cells #[.slice none 0 0, .int .i64 0] 66))).cell? ⟨w.heap.size, 2, none⟩ = some (.int .i64 hand) := by simp [go_sem]
  have H1 := Lib.hid ((h.below hB0.out (Nat.le_refl _)).more hB0.out.size)
  have H2 := Lib.hid ((h2.below hB0.out (Nat.le_refl _)).more hB0.out.size)
  obtain ⟨g0, of0, hA0, hg0, hc0⟩ := h.at h0
  have s0 : w.cell? ⟨g0, of0, none⟩ = some (.string rows[0]) := by have := hc0 0 _ rfl; simpa using this
  have hsz := sz0_eq rows h0
  obtain ⟨t, ht⟩ : ∃ t, Hid (rows[0] = t) := ⟨_, Lib.hid rfl⟩
  have ht8 : t.size ≤ 8 := by have := (hR.2 0 h0).1.2.1; rw [ht.out] at this; exact this
  have hk800 := hR.1
  rw [ht.out] at s0 hsz
  rw [hsz] at hbl
  have e4 := B_t hbl
  have hn0 : ((rows.length : Int) == 0) = false := by rw [beq_eq_false_iff_ne]; omega
  have Hs := Lib.hid hs
  have S0 := Lib.hid s0
  subst hA0
  clear h h2 hc0 hbl hsz s0
  obtain ⟨V, hV, hVs⟩ : ∃ V, Hid (((w.alloc (.cells #[.int .i64 st, .int .i64 gap, .int .i64 hand] 33)).alloc (.cells #[.slice none 0 0, .int .i64 0] 66)) = V) ∧ w.heap.size + 2 = V.heap.size := ⟨_, Lib.hid rfl, by simp⟩
  rw [hV.out] at hB0 hX0 k0 k1 k2 H1 H2
  by_cases hi : idP st gap hand rows
  rotate_left
  · have HY := Lib.hid (mbR_n (st := st) (gap := gap) (hand := hand) (rows := rows) (l := l) (bell := bell) (s := s) (fun x => hi x.1))
    have hc := Lib.hid (sIdeal_any st gap hand rows (some ⟨g0, of0, none⟩) c V H1.out hl Hs.out)
    rw [ideR_n hi] at hc
    have HC := Lib.hid (show Calls Tryz.prog 62 #[.agg #[.int .i64 st, .int .i64 gap, .int .i64 hand], .slice (some ⟨g0, of0, none⟩) rows.length c] V fun e w' => ∃ (A' : Option Addr) (c' : Nat), e = .returned (.tuple #[.slice A' 0 c', .bool false]) ∧ RdL w' w'.heap.size A' 2 Stk.enc [] ∧ Below V.heap.size V w' from hc.out)
    clear hi hc
    go_enter Tryz.func41, Tryz.ntmps41
    go_upto_region 1 with fail
    rw [hV.out]
    go_wp2_with (first | (go_at_call 62; refine HC.out.mono ?_; rintro e w1 ⟨A1, c1, rfl, _, hb1⟩; have HB1 := Lib.hid hb1; have HX1 := Lib.hid (hX0.out.later hb1); have y0 : w1.cell? ⟨(w.heap.size + 1), 0, none⟩ = some (.slice none 0 0) := (HX1.out).cell (i := 0) (by omega); have y1 : w1.cell? ⟨(w.heap.size + 1), 1, none⟩ = some (.int .i64 0) := (HX1.out).cell (i := 1) (by omega); have z0 := (HX1.out).free (i := 0) (by omega); have z1 := (HX1.out).free (i := 1) (by omega); clear hb1) | fail)
    refine bodyPost_ret (v := .tuple #[.agg #[.slice none 0 0, .int .i64 0], .bool false]) (by simp [results, Tryz.results41, go_sem, y0, y1, z0, z1]) rfl ?_
    exact BmC.no HY.out rfl (below_box2 (hB0.out.trans (HB1.out.mono hB0.out.size)) (Nat.le_succ _) _ _)
  have hc := Lib.hid (sIdeal_any st gap hand rows (some ⟨g0, of0, none⟩) c V H1.out hl Hs.out)
  rw [ideR_y hi] at hc
  have hI2 : (idealL st gap hand rows rows.length).length ≤ 2000 := hi.2.2.1
  by_cases hS : strikesP l
  rotate_left
  · have HY := Lib.hid (mbR_n (st := st) (gap := gap) (hand := hand) (rows := rows) (l := l) (bell := bell) (s := s) (fun x => hS x.2))
    have e2 := B_f hS
    generalize idealL st gap hand rows rows.length = I at *
    have HC := Lib.hid (show Calls Tryz.prog 62 #[.agg #[.int .i64 st, .int .i64 gap, .int .i64 hand], .slice (some ⟨g0, of0, none⟩) rows.length c] V fun e w' => ∃ (A' : Option Addr) (c' : Nat), e = .returned (.tuple #[.slice A' I.length c', .bool true]) ∧ RdL w' w'.heap.size A' 2 Stk.enc I ∧ Below V.heap.size V w' from hc.out)
    clear hi hc hS
    go_enter Tryz.func41, Tryz.ntmps41
    go_upto_region 1 with fail
    rw [hV.out]
    go_wp2_with (first | (go_at_call 62; refine HC.out.mono ?_; rintro e w1 ⟨A1, c1, rfl, _, hb1⟩; have HB1 := Lib.hid hb1; clear hb1) | (go_at_call 40; refine (l21Good_any l A2 c2 w1 ((H2.out.below HB1.out (Nat.le_refl _)).more HB1.out.size) hl2).mono ?_; rintro e w2 ⟨rfl, hb2⟩; have HB2 := Lib.hid (HB1.out.trans (hb2.mono HB1.out.size)); have HX2 := Lib.hid (hX0.out.later HB2.out); have y0 : w2.cell? ⟨(w.heap.size + 1), 0, none⟩ = some (.slice none 0 0) := (HX2.out).cell (i := 0) (by omega); have y1 : w2.cell? ⟨(w.heap.size + 1), 1, none⟩ = some (.int .i64 0) := (HX2.out).cell (i := 1) (by omega); have z0 := (HX2.out).free (i := 0) (by omega); have z1 := (HX2.out).free (i := 1) (by omega); clear hb2) | fail)
    refine bodyPost_ret (v := .tuple #[.agg #[.slice none 0 0, .int .i64 0], .bool false]) (by simp [results, Tryz.results41, go_sem, y0, y1, z0, z1]) rfl ?_
    exact BmC.no HY.out rfl (below_box2 (hB0.out.trans (HB2.out.mono hB0.out.size)) (Nat.le_succ _) _ _)
  have HY := Lib.hid (mbR_y (bell := bell) (s := s) (show mbP st gap hand rows l from ⟨hi, hS⟩))
  have e2 := B_t hS
  generalize idealL st gap hand rows rows.length = I at *
  have HC := Lib.hid (show Calls Tryz.prog 62 #[.agg #[.int .i64 st, .int .i64 gap, .int .i64 hand], .slice (some ⟨g0, of0, none⟩) rows.length c] V fun e w' => ∃ (A' : Option Addr) (c' : Nat), e = .returned (.tuple #[.slice A' I.length c', .bool true]) ∧ RdL w' w'.heap.size A' 2 Stk.enc I ∧ Below V.heap.size V w' from hc.out)
  have ho1 := ofL_len I bell
  have ho2 := ofL_len l bell
  clear hi hc hS
  rw [HY.out]
  have HBM : Hid (∀ (W : World) (B1 B2 : Option Addr) (d1 d2 : Nat), RdL W W.heap.size B1 1 encInt (ofL I bell) → RdL W W.heap.size B2 1 encInt (ofL l bell) → Calls Tryz.prog 63 #[.slice B1 (ofL I bell).length d1, .slice B2 (ofL l bell).length d2, .int .i64 s] W fun e w' => ∃ (A' : Option Addr) (c' : Nat), e = .returned (.tuple #[.agg #[.slice A' (bmR (ofL I bell) (ofL l bell) s).1.1.length c', .int .i64 (bmR (ofL I bell) (ofL l bell) s).1.2], .bool (bmR (ofL I bell) (ofL l bell) s).2]) ∧ OwnL w' W.heap.size w'.heap.size A' 1 encInt (bmR (ofL I bell) (ofL l bell) s).1.1 ∧ Below W.heap.size W w') := Lib.hid fun W B1 B2 d1 d2 k1 k2 => sBest2_any (ofL I bell) (ofL l bell) s B1 B2 d1 d2 W k1 k2 (by omega) (by omega)
  clear HY
  generalize bmR (ofL I bell) (ofL l bell) s = R at *
  obtain ⟨⟨O, x⟩, ok⟩ := R
  simp only at HBM
  go_enter Tryz.func41, Tryz.ntmps41
  go_upto_region 1 with fail
  rw [hV.out]
  go_upto_region 4 with (first | (go_at_call 62; refine HC.out.mono ?_; rintro e w1 ⟨A1, c1, rfl, hr1, hb1⟩; have HB1 := Lib.hid hb1; have HR1 := Lib.hid hr1; clear hr1 hb1) | (go_at_call 40; refine (l21Good_any l A2 c2 w1 ((H2.out.below HB1.out (Nat.le_refl _)).more HB1.out.size) hl2).mono ?_; rintro e w2 ⟨rfl, hb2⟩; have HB2 := Lib.hid (HB1.out.trans (hb2.mono HB1.out.size)); have HR2 := Lib.hid ((HR1.out.below hb2 (Nat.le_refl _)).more hb2.size); have s0 := (hB0.out.trans (HB2.out.mono hB0.out.size)).cell (p := ⟨g0, of0, none⟩) hg0 |>.trans S0.out; clear hb2) | (go_at_call 53; refine (l1In_any _ _ _ _).mono ?_; rintro e w' ⟨rfl, rfl⟩) | fail)
  clear s0 k0 k1 k2
  go_wp2_with (first | (go_at_call 42; with_reducible show Calls _ _ #[Value.slice A1 _ _, _] _ _; refine (l21Of_any I bell A1 c1 w2 HR2.out (by omega)).mono ?_; rintro e w3 ⟨A3, c3, rfl, hc3, ho3, hb3⟩; have HO3 := Lib.hid (ho3.rd encInt_len); have HB3 := Lib.hid (HB2.out.trans (hb3.mono HB2.out.size)); clear ho3 hb3) | (go_at_call 42; with_reducible show Calls _ _ #[Value.slice A2 _ _, _] _ _; refine (l21Of_any l bell A2 c2 w3 ((H2.out.below HB3.out (Nat.le_refl _)).more HB3.out.size) hl2).mono ?_; rintro e w4 ⟨A4, c4, rfl, hc4, ho4, hb4⟩; have HO4 := Lib.hid (ho4.rd encInt_len); have HP4 := Lib.hid ((HO3.out.below hb4 (Nat.le_refl _)).more hb4.size); have HB4 := Lib.hid (HB3.out.trans (hb4.mono HB3.out.size)); clear ho4 hb4) | (go_at_call 63; refine (HBM.out w4 A3 A4 c3 c4 HP4.out HO4.out).mono ?_; rintro e w5 ⟨A5, c5, rfl, ho5, hb5⟩; have HO5 := Lib.hid ho5; have HB5 := Lib.hid (HB4.out.trans (hb5.mono HB4.out.size)); have HX5 := Lib.hid (hX0.out.later HB5.out); have y0 : w5.cell? ⟨(w.heap.size + 1), 0, none⟩ = some (.slice none 0 0) := (HX5.out).cell (i := 0) (by omega); have y1 : w5.cell? ⟨(w.heap.size + 1), 1, none⟩ = some (.int .i64 0) := (HX5.out).cell (i := 1) (by omega); have z0 := (HX5.out).free (i := 0) (by omega); have z1 := (HX5.out).free (i := 1) (by omega); have hz4 := HB4.out.size; clear ho5 hb5) | fail)
  refine bodyPost_ret (v := .tuple #[.agg #[.slice A5 O.length c5, .int .i64 x], .bool ok]) (by simp [results, Tryz.results41, go_sem, y0, y1, z0, z1]) rfl ?_
  exact ⟨A5, c5, rfl, (HO5.out.box2 (g := w.heap.size + 1) (by omega) _ _).mono (by omega) (Nat.le_refl _), below_box2 (hB0.out.trans (HB5.out.mono hB0.out.size)) (Nat.le_succ _) _ _⟩
end Go.Proofs.YtglnehinmdmgmaaGreat

/-
  BlowsIn: what both sides' walks share.
-/
namespace Go.Proofs.YtglnehinmdmgmaaGreat
open Go.RowKit
set_option linter.unusedVariables false
set_option linter.unusedSimpArgs false
set_option maxRecDepth 100000

section
variable {st gap hand : Int} {rows : List ByteArray} {l : List Stk} {bell s x : Int} {O : List Int}
theorem mbR_ok (h : mbR st gap hand rows l bell s = ((O, x), true)) : O = mof st gap hand rows l s bell ∧ mbP st gap hand rows l ∧ askP (ofL (idealL st gap hand rows rows.length) bell) (ofL l bell) s := by
  unfold mbR at h
  split at h
  · rename_i h1
    unfold bmR at h
    split at h
    · rename_i h2
      injection h with h _
      injection h with h _
      exact ⟨h.symm, h1, h2⟩
    · injection h with _ h; cases h
  · injection h with _ h; cases h
theorem mb_of_bi (h : biP st gap hand rows l s) {k : Nat} (hk : k < sz0 rows) : (mbR st gap hand rows l ((k : Int) + 1) s).2 = true := by
  rw [mbR_y ⟨⟨h.2.2.1, h.1, h.2.2.2.2.1⟩, h.2.2.2.1⟩, bmR_y (h.2.2.2.2.2 k hk)]
theorem bi_of_mb (hR : rowsP rows) (h0 : 0 < rows.length) (h : ∀ j : Nat, j < sz0 rows → (mbR st gap hand rows l ((j : Int) + 1) s).2 = true) : biP st gap hand rows l s := by
  have hz : 3 ≤ sz0 rows := by have := (hR.2 0 h0).1.1; rw [(hR.2 0 h0).2] at this; exact this
  have key : ∀ j : Nat, j < sz0 rows → mbP st gap hand rows l ∧ askP (ofL (idealL st gap hand rows rows.length) ((j : Int) + 1)) (ofL l ((j : Int) + 1)) s := fun j hj => by
    have h1 := h j hj
    obtain ⟨O, x, e⟩ : ∃ O x, mbR st gap hand rows l ((j : Int) + 1) s = ((O, x), true) := ⟨_, _, by rw [← h1]⟩
    exact (mbR_ok e).2
  have h1 := (key 0 (by omega)).1
  exact ⟨hR, h0, h1.1.1, h1.2, h1.1.2.2, fun k hk => (key k hk).2⟩
end
def BiC (R : List Blw × Bool) (w : World) (e : Ending) (w' : World) : Prop := ∃ (A' : Option Addr) (c' : Nat), e = .returned (.tuple #[.slice A' R.1.length c', .bool R.2]) ∧ OwnL w' w.heap.size w'.heap.size A' 3 Blw.enc R.1 ∧ Below w.heap.size w w'
theorem BiC.no {R : List Blw × Bool} {w w' : World} {e : Ending} (hR : R = ([], false)) (he : e = .returned (.tuple #[.slice none 0 0, .bool false])) (hb : Below w.heap.size w w') : BiC R w e w' := by
  subst hR; exact ⟨none, 0, he, .inl rfl, hb⟩
theorem BiC.yes {R : List Blw × Bool} {w w' : World} {e : Ending} {l : List Blw} {A : Option Addr} {c n : Nat} (hR : R = (l, true)) (hn : n = l.length) (he : e = .returned (.tuple #[.slice A n c, .bool true])) (hr : OwnL w' w.heap.size w'.heap.size A 3 Blw.enc l) (hb : Below w.heap.size w w') : BiC R w e w' := by
  subst hR; subst hn; exact ⟨A, c, he, hr, hb⟩
theorem ownL_grown {α : Type} {enc : α → List Value} {size : Nat} {w w' : World} {b c : Nat} {A : Option Addr} {l : List α} {o : Option Nat} (h : OwnL w b c A size enc l) (hg : w.grownBy w' o) (ho : ∀ g, o = some g → g < b ∨ c ≤ g) : OwnL w' b c A size enc l := by
  cases o with
  | none => exact h.later ⟨hg.os, hg.tape, hg.output, hg.size, fun k hk => hg.block k hk (by simp)⟩
  | some g =>
    refine h.chg (b' := g) (c' := g + 1) ⟨hg.os, hg.tape, hg.output, hg.size, fun k hk hr => hg.block k hk (fun e => by injection e with e; omega)⟩ ?_
    have := ho g rfl; omega
end Go.Proofs.YtglnehinmdmgmaaGreat

/-
  The world behind a sort of the library, in our own words: one block has turned; its cells.
-/
namespace Go.Proofs.YtglnehinmdmgmaaGreat
open Go.RowKit Go.Sort Go.Shelf
set_option linter.unusedVariables false
set_option linter.unusedSimpArgs false
variable {α : Type} [Inhabited α]

theorem heap_putRow (enc : α → Value) (w : World) (blk off : Nat) (d : Array α) (k : Nat) (hk : k ≠ blk) : (putRow enc w blk off d).heap[k]? = w.heap[k]? := by
  simp only [putRow, mapBlock, Array.getElem?_modify]
  rw [if_neg (fun e => hk e.symm)]
theorem chg_sortWorld (enc : α → Value) (w : World) (blk off n : Nat) (d : Array α) (os : Array Obj) : Chg blk (blk + 1) w (sortWorld enc w blk off n d os) := by
  refine ⟨rfl, rfl, rfl, ?_, fun k hk hr => ?_⟩
  · unfold sortWorld grow
    simp
  · unfold sortWorld grow
    simp only
    rw [Array.getElem?_append_left (by simpa using hk), heap_putRow _ _ _ _ _ _ (by omega)]
    rfl
theorem cells_sortWorld (enc : α → Value) (w : World) (blk n : Nat) (d0 d : Array α) (os : Array Obj) (hblk : blk < w.heap.size) (h0 : Holds enc w blk 0 d0) (hs : d.size = d0.size) :
    Cells (sortWorld enc w blk 0 n d os) blk d.size (fun i => enc d[i]!) := by
  have hh := holds_sortWorld enc w blk 0 n d0 d os hblk h0 hs
  refine ⟨lt_sortWorld enc w blk 0 n d os hblk, fun i hi => ?_⟩
  have := hh i hi
  rw [Nat.zero_add] at this
  exact this
end Go.Proofs.YtglnehinmdmgmaaGreat
