import Derived.Test.YtglnehinmdmgmaaGreatMErrorsL30
import Derived.Test.YtglnehinmdmgmaaGreatMErrorsL21
/-
  The best match of times, and of one bell: the contracts of both sides.
-/
namespace Go.Proofs.YtglnehinmdmgmaaGreat
open Go.RowKit
set_option linter.unusedVariables false
set_option linter.unusedSimpArgs false
set_option maxRecDepth 100000

open Classical in
/-- What BestMatch answers. -/
noncomputable def bmR (a b : List Int) (s : Int) : (List Int × Int) × Bool := if askP a b s then (((ofM s a b a.length).1, pM s a b 0 0), true) else (([], 0), false)
theorem bmR_y {a b : List Int} {s : Int} (h : askP a b s) : bmR a b s = (((ofM s a b a.length).1, pM s a b 0 0), true) := if_pos h
theorem bmR_n {a b : List Int} {s : Int} (h : ¬ askP a b s) : bmR a b s = (([], 0), false) := if_neg h
def BmC (R : (List Int × Int) × Bool) (w : World) (e : Ending) (w' : World) : Prop := ∃ (A' : Option Addr) (c' : Nat), e = .returned (.tuple #[.agg #[.slice A' R.1.1.length c', .int .i64 R.1.2], .bool R.2]) ∧ OwnL w' w.heap.size w'.heap.size A' 1 encInt R.1.1 ∧ Below w.heap.size w w'
theorem BmC.no {R : (List Int × Int) × Bool} {w w' : World} {e : Ending} (hR : R = (([], 0), false)) (he : e = .returned (.tuple #[.agg #[.slice none 0 0, .int .i64 0], .bool false])) (hb : Below w.heap.size w w') : BmC R w e w' := by
  subst hR; exact ⟨none, 0, he, .inl rfl, hb⟩
theorem BmC.yes {R : (List Int × Int) × Bool} {w w' : World} {e : Ending} {l : List Int} {A : Option Addr} {c n : Nat} {x : Int} (hR : R = ((l, x), true)) (hn : n = l.length) (he : e = .returned (.tuple #[.agg #[.slice A n c, .int .i64 x], .bool true])) (hr : OwnL w' w.heap.size w'.heap.size A 1 encInt l) (hb : Below w.heap.size w w') : BmC R w e w' := by
  subst hR; subst hn; exact ⟨A, c, he, hr, hb⟩
/-- A match stored into its box: what is told of a list of other blocks stays. -/
theorem OwnL.box2 {w : World} {b g : Nat} {A : Option Addr} {l : List Int} (h : OwnL w b w.heap.size A 1 encInt l) (hg : g < b) (u v : Value) : OwnL ((w.setCell ⟨g, 0, none⟩ u).setCell ⟨g, 1, none⟩ v) b ((w.setCell ⟨g, 0, none⟩ u).setCell ⟨g, 1, none⟩ v).heap.size A 1 encInt l := by
  have hc : Chg g (g + 1) w ((w.setCell ⟨g, 0, none⟩ u).setCell ⟨g, 1, none⟩ v) := ((Chg.refl g (g + 1) w).setCell (p := ⟨g, 0, none⟩) (Nat.le_refl _) (Nat.lt_succ_self _) u).setCell (p := ⟨g, 1, none⟩) (Nat.le_refl _) (Nat.lt_succ_self _) v
  exact (h.chg hc (.inr (by omega))).mono (Nat.le_refl _) hc.size
theorem below_box2 {w w1 : World} {b g : Nat} (h : Below b w w1) (hg : b ≤ g) (u v : Value) : Below b w ((w1.setCell ⟨g, 0, none⟩ u).setCell ⟨g, 1, none⟩ v) :=
  (h.setCell (p := ⟨g, 0, none⟩) hg u).setCell (p := ⟨g, 1, none⟩) hg v





set_option maxHeartbeats 1600000 in
theorem iBest2_any (a b : List Int) (s : Int) (A B_ : Option Addr) (c c' : Nat) (w : World) (ha : RdL w w.heap.size A 1 encInt a) (hb : RdL w w.heap.size B_ 1 encInt b) (hla : a.length ≤ 1048576) (hlb : b.length ≤ 1048576) : Calls Tryz.prog 59 #[.slice A a.length c, .slice B_ b.length c', .int .i64 s] w fun e w' => BmC (bmR a b s) w e w' := by
  have hB0 : Hid (Below w.heap.size w (w.alloc (.cells #[.slice none 0 0, .int .i64 0] 66))) := Lib.hid ((Below.refl _ _).alloc (Nat.le_refl _) _)
  have hX0 : Hid (Cells (w.alloc (.cells #[.slice none 0 0, .int .i64 0] 66)) w.heap.size 2 (bxM (.slice none 0 0) 0)) := Lib.hid (bxM_new w _ _ _)
  have Ha := Lib.hid ((ha.below hB0.out (Nat.le_refl _)).more hB0.out.size)
  have Hb := Lib.hid ((hb.below hB0.out (Nat.le_refl _)).more hB0.out.size)
  clear ha hb
  obtain ⟨V, hV, hVs⟩ : ∃ V, Hid ((w.alloc (.cells #[.slice none 0 0, .int .i64 0] 66)) = V) ∧ w.heap.size + 1 = V.heap.size := ⟨_, Lib.hid rfl, by simp⟩
  rw [hV.out] at hB0 hX0 Ha Hb
  by_cases hp : askP a b s
  · have e1 := B_t hp
    have HY := Lib.hid (bmR_y hp)
    have HL := Lib.hid ((ofM_inv (s := s) (a := a) (b := b) a.length (Nat.le_refl _)).2.1)
    have HBM : Hid (∀ W, Below V.heap.size V W → Calls Tryz.prog 71 #[.slice A a.length c, .slice B_ b.length c', .int .i64 s] W fun e w' => ∃ (A' : Option Addr) (c' : Nat), e = .returned (.agg #[.slice A' a.length c', .int .i64 (pM s a b 0 0)]) ∧ OwnL w' W.heap.size w'.heap.size A' 1 encInt (ofM s a b a.length).1 ∧ Below W.heap.size W w') := Lib.hid fun W hW => bestMatch_any a b s A B_ c c' W ((Ha.out.below hW (Nat.le_refl _)).more hW.size) ((Hb.out.below hW (Nat.le_refl _)).more hW.size) hp
    clear hp
    generalize (ofM s a b a.length).1 = O at *
    generalize pM s a b 0 0 = x at *
    go_enter Tryz.func59, Tryz.ntmps59
    go_upto_region 1 with fail
    rw [hV.out]
    go_wp2_with (first | (go_at_call 70; refine (goodMatching_any a b s A B_ c c' V Ha.out Hb.out hla hlb).mono ?_; rintro e w1 ⟨rfl, hb1⟩; have HB1 := Lib.hid hb1; clear hb1) | (go_at_call 71; refine (HBM.out _ HB1.out).mono ?_; rintro e w2 ⟨A2, c2, rfl, ho2, hb2⟩; have HO2 := Lib.hid ho2; have HB2 := Lib.hid (HB1.out.trans (hb2.mono HB1.out.size)); have HX2 := Lib.hid (hX0.out.later HB2.out); have y0 : w2.cell? ⟨w.heap.size, 0, none⟩ = some (.slice none 0 0) := (HX2.out).cell (i := 0) (by omega); have y1 : w2.cell? ⟨w.heap.size, 1, none⟩ = some (.int .i64 0) := (HX2.out).cell (i := 1) (by omega); have z0 := (HX2.out).free (i := 0) (by omega); have z1 := (HX2.out).free (i := 1) (by omega); have hz1 := HB1.out.size; clear ho2 hb2) | fail)
    refine bodyPost_ret (v := .tuple #[.agg #[.slice A2 a.length c2, .int .i64 x], .bool true]) (by simp [results, Tryz.results59, go_sem, y0, y1, z0, z1]) rfl ?_
    exact BmC.yes HY.out HL.out.symm rfl ((HO2.out.box2 (g := w.heap.size) (by omega) _ _).mono (by omega) (Nat.le_refl _)) (below_box2 (hB0.out.trans (HB2.out.mono hB0.out.size)) (Nat.le_refl _) _ _)
  · have e1 := B_f hp
    have HY := Lib.hid (bmR_n hp)
    clear hp
    go_enter Tryz.func59, Tryz.ntmps59
    go_upto_region 1 with fail
    rw [hV.out]
    go_wp2_with (first | (go_at_call 70; refine (goodMatching_any a b s A B_ c c' V Ha.out Hb.out hla hlb).mono ?_; rintro e w1 ⟨rfl, hb1⟩; have HB1 := Lib.hid hb1; have HX1 := Lib.hid (hX0.out.later hb1); have y0 : w1.cell? ⟨w.heap.size, 0, none⟩ = some (.slice none 0 0) := (HX1.out).cell (i := 0) (by omega); have y1 : w1.cell? ⟨w.heap.size, 1, none⟩ = some (.int .i64 0) := (HX1.out).cell (i := 1) (by omega); have z0 := (HX1.out).free (i := 0) (by omega); have z1 := (HX1.out).free (i := 1) (by omega); clear hb1) | fail)
    refine bodyPost_ret (v := .tuple #[.agg #[.slice none 0 0, .int .i64 0], .bool false]) (by simp [results, Tryz.results59, go_sem, y0, y1, z0, z1]) rfl ?_
    exact BmC.no HY.out rfl (below_box2 (hB0.out.trans (HB1.out.mono hB0.out.size)) (Nat.le_refl _) _ _)
set_option maxHeartbeats 1600000 in
theorem sBest2_any (a b : List Int) (s : Int) (A B_ : Option Addr) (c c' : Nat) (w : World) (ha : RdL w w.heap.size A 1 encInt a) (hb : RdL w w.heap.size B_ 1 encInt b) (hla : a.length ≤ 1048576) (hlb : b.length ≤ 1048576) : Calls Tryz.prog 63 #[.slice A a.length c, .slice B_ b.length c', .int .i64 s] w fun e w' => BmC (bmR a b s) w e w' := by
  have hB0 : Hid (Below w.heap.size w (w.alloc (.cells #[.slice none 0 0, .int .i64 0] 66))) := Lib.hid ((Below.refl _ _).alloc (Nat.le_refl _) _)
  have hX0 : Hid (Cells (w.alloc (.cells #[.slice none 0 0, .int .i64 0] 66)) w.heap.size 2 (bxM (.slice none 0 0) 0)) := Lib.hid (bxM_new w _ _ _)
  have Ha := Lib.hid ((ha.below hB0.out (Nat.le_refl _)).more hB0.out.size)
  have Hb := Lib.hid ((hb.below hB0.out (Nat.le_refl _)).more hB0.out.size)
  clear ha hb
  obtain ⟨V, hV, hVs⟩ : ∃ V, Hid ((w.alloc (.cells #[.slice none 0 0, .int .i64 0] 66)) = V) ∧ w.heap.size + 1 = V.heap.size := ⟨_, Lib.hid rfl, by simp⟩
  rw [hV.out] at hB0 hX0 Ha Hb
  by_cases hp : askP a b s
  · have e1 := B_t hp
    have HY := Lib.hid (bmR_y hp)
    have HL := Lib.hid ((ofM_inv (s := s) (a := a) (b := b) a.length (Nat.le_refl _)).2.1)
    have HBM : Hid (∀ W, Below V.heap.size V W → Calls Tryz.prog 83 #[.slice A a.length c, .slice B_ b.length c', .int .i64 s] W fun e w' => ∃ (A' : Option Addr) (c' : Nat), e = .returned (.agg #[.slice A' a.length c', .int .i64 (pM s a b 0 0)]) ∧ OwnL w' W.heap.size w'.heap.size A' 1 encInt (ofM s a b a.length).1 ∧ Below W.heap.size W w') := Lib.hid fun W hW => l22Best_any a b s A B_ c c' W ((Ha.out.below hW (Nat.le_refl _)).more hW.size) ((Hb.out.below hW (Nat.le_refl _)).more hW.size) hp
    clear hp
    generalize (ofM s a b a.length).1 = O at *
    generalize pM s a b 0 0 = x at *
    go_enter Tryz.func63, Tryz.ntmps63
    go_upto_region 1 with fail
    rw [hV.out]
    go_wp2_with (first | (go_at_call 82; refine (l22Asked_any a b s A B_ c c' V Ha.out Hb.out hla hlb).mono ?_; rintro e w1 ⟨rfl, hb1⟩; have HB1 := Lib.hid hb1; clear hb1) | (go_at_call 83; refine (HBM.out _ HB1.out).mono ?_; rintro e w2 ⟨A2, c2, rfl, ho2, hb2⟩; have HO2 := Lib.hid ho2; have HB2 := Lib.hid (HB1.out.trans (hb2.mono HB1.out.size)); have HX2 := Lib.hid (hX0.out.later HB2.out); have y0 : w2.cell? ⟨w.heap.size, 0, none⟩ = some (.slice none 0 0) := (HX2.out).cell (i := 0) (by omega); have y1 : w2.cell? ⟨w.heap.size, 1, none⟩ = some (.int .i64 0) := (HX2.out).cell (i := 1) (by omega); have z0 := (HX2.out).free (i := 0) (by omega); have z1 := (HX2.out).free (i := 1) (by omega); have hz1 := HB1.out.size; clear ho2 hb2) | fail)
    refine bodyPost_ret (v := .tuple #[.agg #[.slice A2 a.length c2, .int .i64 x], .bool true]) (by simp [results, Tryz.results63, go_sem, y0, y1, z0, z1]) rfl ?_
    exact BmC.yes HY.out HL.out.symm rfl ((HO2.out.box2 (g := w.heap.size) (by omega) _ _).mono (by omega) (Nat.le_refl _)) (below_box2 (hB0.out.trans (HB2.out.mono hB0.out.size)) (Nat.le_refl _) _ _)
  · have e1 := B_f hp
    have HY := Lib.hid (bmR_n hp)
    clear hp
    go_enter Tryz.func63, Tryz.ntmps63
    go_upto_region 1 with fail
    rw [hV.out]
    go_wp2_with (first | (go_at_call 82; refine (l22Asked_any a b s A B_ c c' V Ha.out Hb.out hla hlb).mono ?_; rintro e w1 ⟨rfl, hb1⟩; have HB1 := Lib.hid hb1; have HX1 := Lib.hid (hX0.out.later hb1); have y0 : w1.cell? ⟨w.heap.size, 0, none⟩ = some (.slice none 0 0) := (HX1.out).cell (i := 0) (by omega); have y1 : w1.cell? ⟨w.heap.size, 1, none⟩ = some (.int .i64 0) := (HX1.out).cell (i := 1) (by omega); have z0 := (HX1.out).free (i := 0) (by omega); have z1 := (HX1.out).free (i := 1) (by omega); clear hb1) | fail)
    refine bodyPost_ret (v := .tuple #[.agg #[.slice none 0 0, .int .i64 0], .bool false]) (by simp [results, Tryz.results63, go_sem, y0, y1, z0, z1]) rfl ?_
    exact BmC.no HY.out rfl (below_box2 (hB0.out.trans (HB1.out.mono hB0.out.size)) (Nat.le_refl _) _ _)
end Go.Proofs.YtglnehinmdmgmaaGreat
