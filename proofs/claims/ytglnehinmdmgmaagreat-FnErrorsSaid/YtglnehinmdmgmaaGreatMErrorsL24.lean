import Derived.Test.YtglnehinmdmgmaaGreatMErrorsL22
import Derived.Test.YtglnehinmdmgmaaGreatMErrorsL23
/-
  The draws of FnErrors: a beat, a skip, struck strikes.
-/
namespace Go.Proofs.YtglnehinmdmgmaaGreat
open Go.RowKit
set_option linter.unusedVariables false
set_option linter.unusedSimpArgs false
set_option maxRecDepth 100000


theorem skip_any (g K : Nat) (w : World) (h : Cur w g K) (hK : K ≤ 1000000) :
    Calls Tryz.prog 34 #[.pointer (some ⟨g, 0, none⟩)] w fun e w' => ∃ x, e = .returned (.int .i64 x) ∧ Cur w' g (K + 2) ∧ Turn g w w' := by
  have H := Lib.hid h
  clear h
  go_enter Tryz.func34, Tryz.ntmps34
  go_wp2_with (first | (go_at_call 47; with_reducible show Calls _ _ #[_, Value.slice (some ⟨(w).heap.size, 0, none⟩) _ _] _ _; refine (among_any g (K) (w).heap.size 7 7 _ (fun _ => True) _ ((H.out).later ((Below.refl _ _).alloc (Nat.le_refl _) _)) (by omega) (by omega) (by omega) (Cells.lit w _ _ 7 rfl) (by have := (H.out).lt; omega) (by intro k hk; rcases k with _ | _ | _ | _ | _ | _ | _ | k <;> first | exact ⟨_, rfl, trivial⟩ | omega)).mono ?_; rintro e w1 ⟨y1, rfl, _, hc9, ht9⟩; have ht9' := (Turn.of (g := g) ((Below.refl (w).heap.size (w)).alloc (Nat.le_refl _) _)).trans ht9; have HCw1 := Lib.hid hc9; have HTw1 := Lib.hid (((Chg.refl g (g + 1) w)).trans ht9'); have HNw1 := Lib.hid ht9'; have hzw1 := ht9'.size; clear hc9 ht9 ht9') | fail)
  go_ret
  exact ⟨_, rfl, HCw1.out, HTw1.out⟩


theorem cells3_set1 {w : World} {g : Nat} {a b c : Int} (h : Cells w g 3 (fun i => (#[Value.int .i64 a, .int .i64 b, .int .i64 c] : Array Value).getD i undef)) (y : Int) : Cells (w.setCell ⟨g, 1, none⟩ (.int .i64 y)) g 3 (fun i => (#[Value.int .i64 a, .int .i64 y, .int .i64 c] : Array Value).getD i undef) :=
  (h.set (i := 1) (by omega) _).congr fun i hi => by rcases (show i = 0 ∨ i = 1 ∨ i = 2 by omega) with rfl | rfl | rfl <;> rfl
theorem cells3_set0 {w : World} {g : Nat} {a b c : Int} (h : Cells w g 3 (fun i => (#[Value.int .i64 a, .int .i64 b, .int .i64 c] : Array Value).getD i undef)) (y : Int) : Cells (w.setCell ⟨g, 0, none⟩ (.int .i64 y)) g 3 (fun i => (#[Value.int .i64 y, .int .i64 b, .int .i64 c] : Array Value).getD i undef) :=
  (h.set (i := 0) (by omega) _).congr fun i hi => by rcases (show i = 0 ∨ i = 1 ∨ i = 2 by omega) with rfl | rfl | rfl <;> rfl
theorem below_box3 {w w1 : World} {b g : Nat} (h : Below b w w1) (hg : b ≤ g) (u v x : Value) : Below b w (((w1.setCell ⟨g, 0, none⟩ u).setCell ⟨g, 1, none⟩ v).setCell ⟨g, 2, none⟩ x) :=
  ((h.setCell (p := ⟨g, 0, none⟩) hg u).setCell (p := ⟨g, 1, none⟩) hg v).setCell (p := ⟨g, 2, none⟩) hg x


set_option maxHeartbeats 3200000 in
theorem beat_any (g K : Nat) (w : World) (h : Cur w g K) (hK : K ≤ 1000000) :
    Calls Tryz.prog 28 #[.pointer (some ⟨g, 0, none⟩)] w fun e w' => ∃ a b d : Int, e = .returned (.agg #[.int .i64 a, .int .i64 b, .int .i64 d]) ∧ Cur w' g (K + 20) ∧ Turn g w w' := by
  have H := Lib.hid h
  have hgw := h.lt
  clear h
  obtain ⟨V, hV, HBV, HZ, hVs⟩ : ∃ V, Hid (w.alloc (.cells #[.int .i64 0, .int .i64 0, .int .i64 0] 33) = V) ∧ Hid (Below w.heap.size w V) ∧ Hid (Cells V w.heap.size 3 (fun i => (#[Value.int .i64 0, .int .i64 0, .int .i64 0] : Array Value).getD i undef)) ∧ w.heap.size + 1 = V.heap.size := ⟨_, Lib.hid rfl, Lib.hid ((Below.refl _ _).alloc (Nat.le_refl _) _), Lib.hid (box3_new w _ _ _ _), by simp⟩
  have HCV := Lib.hid (H.out.later HBV.out)
  obtain ⟨rb, hrb⟩ : ∃ b, Hid (w.heap.size = b) := ⟨_, Lib.hid rfl⟩
  rw [hrb.out] at HZ hgw
  go_enter Tryz.func28, Tryz.ntmps28
  go_upto_region 1 with fail
  rw [hV.out, hrb.out]
  go_upto_region 2 with (first
    | (go_at_call 47; with_reducible show Calls _ _ #[_, Value.slice (some ⟨(V).heap.size, 0, none⟩) _ _] _ _; refine (among_any g (K) (V).heap.size 3 3 _ (fun _ => True) _ ((HCV.out).later ((Below.refl _ _).alloc (Nat.le_refl _) _)) (by omega) (by omega) (by omega) (Cells.lit V _ _ 3 rfl) (by have := (HCV.out).lt; omega) (by intro k hk; rcases k with _ | _ | _ | _ | _ | _ | _ | k <;> first | exact ⟨_, rfl, trivial⟩ | omega)).mono ?_; rintro e wA ⟨a, rfl, _, hc9, ht9⟩; have ht9' := (Turn.of (g := g) ((Below.refl (V).heap.size (V)).alloc (Nat.le_refl _) _)).trans ht9; have HCwA := Lib.hid hc9; have HTwA := Lib.hid (((Chg.refl g (g + 1) V)).trans ht9'); have HNwA := Lib.hid ht9'; have hzwA := ht9'.size; clear hc9 ht9 ht9')
    | (go_at_call 47; with_reducible show Calls _ _ #[_, Value.slice (some ⟨(wA).heap.size, 0, none⟩) _ _] _ _; refine (among_any g (K + 2) (wA).heap.size 3 3 _ (fun _ => True) _ ((HCwA.out).later ((Below.refl _ _).alloc (Nat.le_refl _) _)) (by omega) (by omega) (by omega) (Cells.lit wA _ _ 3 rfl) (by have := (HCwA.out).lt; omega) (by intro k hk; rcases k with _ | _ | _ | _ | _ | _ | _ | k <;> first | exact ⟨_, rfl, trivial⟩ | omega)).mono ?_; rintro e wB ⟨b, rfl, _, hc9, ht9⟩; have ht9' := (Turn.of (g := g) ((Below.refl (wA).heap.size (wA)).alloc (Nat.le_refl _) _)).trans ht9; have HCwB := Lib.hid hc9; have HTwB := Lib.hid ((HTwA.out).trans ht9'); have HNwB := Lib.hid ht9'; have hzwB := ht9'.size; clear hc9 ht9 ht9')
    | (go_at_call 47; with_reducible show Calls _ _ #[_, Value.slice (some ⟨(wB).heap.size, 0, none⟩) _ _] _ _; refine (among_any g (K + 4) (wB).heap.size 3 3 _ (fun _ => True) _ ((HCwB.out).later ((Below.refl _ _).alloc (Nat.le_refl _) _)) (by omega) (by omega) (by omega) (Cells.lit wB _ _ 3 rfl) (by have := (HCwB.out).lt; omega) (by intro k hk; rcases k with _ | _ | _ | _ | _ | _ | _ | k <;> first | exact ⟨_, rfl, trivial⟩ | omega)).mono ?_; rintro e wC ⟨d, rfl, _, hc9, ht9⟩; have ht9' := (Turn.of (g := g) ((Below.refl (wB).heap.size (wB)).alloc (Nat.le_refl _) _)).trans ht9; have HCwC := Lib.hid hc9; have HTwC := Lib.hid ((HTwB.out).trans ht9'); have HNwC := Lib.hid ht9'; have hzwC := ht9'.size; clear hc9 ht9 ht9')
    | fail)
  obtain ⟨bb, hbb⟩ : ∃ b, Hid (wC.heap.size = b) := ⟨_, Lib.hid rfl⟩
  obtain ⟨U, hU, HBU, HX, hUs⟩ : ∃ U, Hid (wC.alloc (.cells #[.int .i64 a, .int .i64 b, .int .i64 d] 33) = U) ∧ Hid (Below wC.heap.size wC U) ∧ Hid (Cells U wC.heap.size 3 (fun i => (#[Value.int .i64 a, .int .i64 b, .int .i64 d] : Array Value).getD i undef)) ∧ wC.heap.size + 1 = U.heap.size := ⟨_, Lib.hid rfl, Lib.hid ((Below.refl _ _).alloc (Nat.le_refl _) _), Lib.hid (box3_new wC _ _ _ _), by simp⟩
  rw [hU.out, hbb.out]
  clear hU
  have hbs : V.heap.size ≤ bb := by rw [← hbb.out]; omega
  have hrbb : rb < bb := by have := hrb.out; omega
  have hgb : g < bb := by omega
  have HZU := Lib.hid ((HZ.out.chg HTwC.out (.inr (by omega))).later HBU.out)
  have HCU := Lib.hid (HCwC.out.later HBU.out)
  have HTU : Hid (Turn g w U) := Lib.hid ((Turn.of HBV.out).trans (Turn.then HTwC.out HBU.out))
  rw [hbb.out] at HX
  clear HZ HCV HBU
  go_upto_region 3 with (first | (go_at_call 48; refine (pick_any g (K + 6) 25 U HCU.out (by omega) (by omega)).mono ?_; rintro e w5 ⟨q, rfl, hq0, hq1, hc5, ht5⟩; have HC5 := Lib.hid hc5; have HT5 := Lib.hid (HTU.out.trans ht5); have HX5 := Lib.hid (HX.out.chg ht5 (.inr (by omega))); have HZ5 := Lib.hid (HZU.out.chg ht5 (.inr (by omega))); have hz5 := ht5.size; clear hc5 ht5) | fail)
  clear HX HZU HCU HTU
  by_cases e0 : q = 0
  · have d0 : (q == (0 : Int)) = true := by simpa using e0
    clear e0
    go_wp2_with (first | ((go_at_call 47; with_reducible show Calls _ _ #[_, Value.slice (some ⟨(w5).heap.size, 0, none⟩) _ _] _ _; refine (among_any g (K + 8) (w5).heap.size 4 4 _ (fun _ => True) _ ((HC5.out).later ((Below.refl _ _).alloc (Nat.le_refl _) _)) (by omega) (by omega) (by omega) (Cells.lit w5 _ _ 4 rfl) (by have := (HC5.out).lt; omega) (by intro k hk; rcases k with _ | _ | _ | _ | _ | _ | _ | k <;> first | exact ⟨_, rfl, trivial⟩ | omega)).mono ?_; rintro e w6 ⟨y, rfl, _, hc9, ht9⟩; have ht9' := (Turn.of (g := g) ((Below.refl (w5).heap.size (w5)).alloc (Nat.le_refl _) _)).trans ht9; have HCw6 := Lib.hid hc9; have HTw6 := Lib.hid ((HT5.out).trans ht9'); have HNw6 := Lib.hid ht9'; have hzw6 := ht9'.size; clear hc9 ht9 ht9'); have HX6 := Lib.hid (HX5.out.chg HNw6.out (.inr (by omega))); have HZ6 := Lib.hid (HZ5.out.chg HNw6.out (.inr (by omega))); have HX7 := Lib.hid (cells3_set1 HX6.out y); have HZ7 := Lib.hid (HZ6.out.other (p := ⟨bb, 1, none⟩) (show bb ≠ rb by omega) (.int .i64 y)); have x1 : w6.cell? ⟨bb, 1, none⟩ = some (.int .i64 b) := HX6.out.cell (i := 1) (by omega); have f1 := HX6.out.free (i := 1) (by omega); have y0 : (w6.setCell ⟨bb, 1, none⟩ (.int .i64 y)).cell? ⟨rb, 0, none⟩ = some (.int .i64 0) := (HZ7.out).cell (i := 0) (by omega); have y1 : (w6.setCell ⟨bb, 1, none⟩ (.int .i64 y)).cell? ⟨rb, 1, none⟩ = some (.int .i64 0) := (HZ7.out).cell (i := 1) (by omega); have y2 : (w6.setCell ⟨bb, 1, none⟩ (.int .i64 y)).cell? ⟨rb, 2, none⟩ = some (.int .i64 0) := (HZ7.out).cell (i := 2) (by omega); have z0 := (HZ7.out).free (i := 0) (by omega); have z1 := (HZ7.out).free (i := 1) (by omega); have z2 := (HZ7.out).free (i := 2) (by omega); have b0 : (w6.setCell ⟨bb, 1, none⟩ (.int .i64 y)).cell? ⟨bb, 0, none⟩ = some (.int .i64 a) := (HX7.out).cell (i := 0) (by omega); have b1 : (w6.setCell ⟨bb, 1, none⟩ (.int .i64 y)).cell? ⟨bb, 1, none⟩ = some (.int .i64 y) := (HX7.out).cell (i := 1) (by omega); have b2 : (w6.setCell ⟨bb, 1, none⟩ (.int .i64 y)).cell? ⟨bb, 2, none⟩ = some (.int .i64 d) := (HX7.out).cell (i := 2) (by omega)) | fail)
    have kb : Below rb w6 (w6.setCell ⟨bb, 1, none⟩ (.int .i64 y)) := (Below.refl _ _).setCell (p := ⟨bb, 1, none⟩) (show rb ≤ bb by omega) _
    refine bodyPost_ret (v := .agg #[.int .i64 a, .int .i64 y, .int .i64 d]) (by simp [results, Tryz.results28, go_sem, y0, y1, y2, z0, z1, z2]) rfl ⟨a, y, d, rfl, (HCw6.out.keep (below_box3 kb (Nat.le_refl _) _ _ _) hgw).more (by omega), Turn.thenB HTw6.out ((below_box3 kb (Nat.le_refl _) _ _ _).mono (by have := hrb.out; omega))⟩
  have d0 : (q == (0 : Int)) = false := by simpa using e0
  clear e0
  by_cases e1 : q = 1
  · have d1 : (q == (1 : Int)) = true := by simpa using e1
    clear e1
    go_wp2_with (first | ((go_at_call 47; with_reducible show Calls _ _ #[_, Value.slice (some ⟨(w5).heap.size, 0, none⟩) _ _] _ _; refine (among_any g (K + 8) (w5).heap.size 3 3 _ (fun _ => True) _ ((HC5.out).later ((Below.refl _ _).alloc (Nat.le_refl _) _)) (by omega) (by omega) (by omega) (Cells.lit w5 _ _ 3 rfl) (by have := (HC5.out).lt; omega) (by intro k hk; rcases k with _ | _ | _ | _ | _ | _ | _ | k <;> first | exact ⟨_, rfl, trivial⟩ | omega)).mono ?_; rintro e w6 ⟨y, rfl, _, hc9, ht9⟩; have ht9' := (Turn.of (g := g) ((Below.refl (w5).heap.size (w5)).alloc (Nat.le_refl _) _)).trans ht9; have HCw6 := Lib.hid hc9; have HTw6 := Lib.hid ((HT5.out).trans ht9'); have HNw6 := Lib.hid ht9'; have hzw6 := ht9'.size; clear hc9 ht9 ht9'); have HX6 := Lib.hid (HX5.out.chg HNw6.out (.inr (by omega))); have HZ6 := Lib.hid (HZ5.out.chg HNw6.out (.inr (by omega))); have HX7 := Lib.hid (cells3_set0 HX6.out y); have HZ7 := Lib.hid (HZ6.out.other (p := ⟨bb, 0, none⟩) (show bb ≠ rb by omega) (.int .i64 y)); have x1 : w6.cell? ⟨bb, 0, none⟩ = some (.int .i64 a) := HX6.out.cell (i := 0) (by omega); have f1 := HX6.out.free (i := 0) (by omega); have y0 : (w6.setCell ⟨bb, 0, none⟩ (.int .i64 y)).cell? ⟨rb, 0, none⟩ = some (.int .i64 0) := (HZ7.out).cell (i := 0) (by omega); have y1 : (w6.setCell ⟨bb, 0, none⟩ (.int .i64 y)).cell? ⟨rb, 1, none⟩ = some (.int .i64 0) := (HZ7.out).cell (i := 1) (by omega); have y2 : (w6.setCell ⟨bb, 0, none⟩ (.int .i64 y)).cell? ⟨rb, 2, none⟩ = some (.int .i64 0) := (HZ7.out).cell (i := 2) (by omega); have z0 := (HZ7.out).free (i := 0) (by omega); have z1 := (HZ7.out).free (i := 1) (by omega); have z2 := (HZ7.out).free (i := 2) (by omega); have b0 : (w6.setCell ⟨bb, 0, none⟩ (.int .i64 y)).cell? ⟨bb, 0, none⟩ = some (.int .i64 y) := (HX7.out).cell (i := 0) (by omega); have b1 : (w6.setCell ⟨bb, 0, none⟩ (.int .i64 y)).cell? ⟨bb, 1, none⟩ = some (.int .i64 b) := (HX7.out).cell (i := 1) (by omega); have b2 : (w6.setCell ⟨bb, 0, none⟩ (.int .i64 y)).cell? ⟨bb, 2, none⟩ = some (.int .i64 d) := (HX7.out).cell (i := 2) (by omega)) | fail)
    have kb : Below rb w6 (w6.setCell ⟨bb, 0, none⟩ (.int .i64 y)) := (Below.refl _ _).setCell (p := ⟨bb, 0, none⟩) (show rb ≤ bb by omega) _
    refine bodyPost_ret (v := .agg #[.int .i64 y, .int .i64 b, .int .i64 d]) (by simp [results, Tryz.results28, go_sem, y0, y1, y2, z0, z1, z2]) rfl ⟨y, b, d, rfl, (HCw6.out.keep (below_box3 kb (Nat.le_refl _) _ _ _) hgw).more (by omega), Turn.thenB HTw6.out ((below_box3 kb (Nat.le_refl _) _ _ _).mono (by have := hrb.out; omega))⟩
  have d1 : (q == (1 : Int)) = false := by simpa using e1
  clear e1
  have y0 : w5.cell? ⟨rb, 0, none⟩ = some (.int .i64 0) := (HZ5.out).cell (i := 0) (by omega); have y1 : w5.cell? ⟨rb, 1, none⟩ = some (.int .i64 0) := (HZ5.out).cell (i := 1) (by omega); have y2 : w5.cell? ⟨rb, 2, none⟩ = some (.int .i64 0) := (HZ5.out).cell (i := 2) (by omega); have z0 := (HZ5.out).free (i := 0) (by omega); have z1 := (HZ5.out).free (i := 1) (by omega); have z2 := (HZ5.out).free (i := 2) (by omega)
  have b0 : w5.cell? ⟨bb, 0, none⟩ = some (.int .i64 a) := (HX5.out).cell (i := 0) (by omega); have b1 : w5.cell? ⟨bb, 1, none⟩ = some (.int .i64 b) := (HX5.out).cell (i := 1) (by omega); have b2 : w5.cell? ⟨bb, 2, none⟩ = some (.int .i64 d) := (HX5.out).cell (i := 2) (by omega)
  go_wp2
  refine bodyPost_ret (v := .agg #[.int .i64 a, .int .i64 b, .int .i64 d]) (by simp [results, Tryz.results28, go_sem, y0, y1, y2, z0, z1, z2]) rfl ⟨a, b, d, rfl, (HC5.out.keep (below_box3 (Below.refl rb w5) (Nat.le_refl _) _ _ _) hgw).more (by omega), Turn.thenB HT5.out ((below_box3 (Below.refl rb w5) (Nat.le_refl _) _ _ _).mono (by have := hrb.out; omega))⟩

theorem box2_new (w : World) (T : TypeId) (a b : Value) : Cells (w.alloc (.cells #[a, b] T)) w.heap.size 2 (fun i => (#[a, b] : Array Value).getD i undef) :=
  Cells.new _ _ _ 2 _ (fun i hi => by rcases (show i = 0 ∨ i = 1 by omega) with rfl | rfl <;> rfl)
theorem cells2_set1 {w : World} {g : Nat} {a b : Int} (h : Cells w g 2 (fun i => (#[Value.int .i64 a, .int .i64 b] : Array Value).getD i undef)) (y : Int) : Cells (w.setCell ⟨g, 1, none⟩ (.int .i64 y)) g 2 (fun i => (#[Value.int .i64 a, .int .i64 y] : Array Value).getD i undef) :=
  (h.set (i := 1) (by omega) _).congr fun i hi => by rcases (show i = 0 ∨ i = 1 by omega) with rfl | rfl <;> rfl
theorem rd_one (w : World) (T : TypeId) (a b : Int) : RdL (w.alloc (.cells #[.int .i64 a, .int .i64 b] T)) (w.alloc (.cells #[.int .i64 a, .int .i64 b] T)).heap.size (some ⟨w.heap.size, 0, none⟩) 2 Stk.enc [⟨a, b⟩] := by
  have h := box2_new w T (.int .i64 a) (.int .i64 b)
  refine .inr ⟨w.heap.size, 0, rfl, h.lt, fun i hi j u hu => ?_⟩
  obtain rfl : i = 0 := by simpa using hi
  have hj : j < 2 := by have := (List.getElem?_eq_some_iff.1 hu).1; rw [Stk_enc_len] at this; exact this
  rw [show 0 + (0 * 2 + j) = j by omega, h.cell hj]
  rcases (show j = 0 ∨ j = 1 by omega) with rfl | rfl <;> (simp [Stk.enc] at hu; rw [← hu]; rfl)

set_option maxHeartbeats 6400000 in
theorem struck_any (g K : Nat) (R : List ByteArray) (A : Option Addr) (c : Nat) (st gap hand : Int) (w : World) (h : Cur w g K) (hK : K ≤ 1000000) (hR : Aw w (g + 1) A 1 encString R) (hn : R.length ≤ 12) (hs : ∀ r ∈ R, r.size ≤ 8) :
    Calls Tryz.prog 33 #[.pointer (some ⟨g, 0, none⟩), .agg #[.int .i64 st, .int .i64 gap, .int .i64 hand], .slice A R.length c] w fun e w' => ∃ (L : List Stk) (A2 : Option Addr) (c2 : Nat), e = .returned (.slice A2 L.length c2) ∧ L.length ≤ 200 ∧ L.length ≤ c2 ∧ Aw w' w.heap.size A2 2 Stk.enc L ∧ Cur w' g (K + 700) ∧ Turn g w w' := by
  have H := Lib.hid h
  have hgw := h.lt
  have HRw := Lib.hid hR
  have HSz := Lib.hid hs
  clear h hR hs
  obtain ⟨W, hWe, hWb, hWs⟩ : ∃ W : World, Hid (w.alloc (.cells #[.int .i64 st, .int .i64 gap, .int .i64 hand] 33) = W) ∧ Hid (Below w.heap.size w W) ∧ w.heap.size + 1 = W.heap.size := ⟨_, Lib.hid rfl, Lib.hid ((Below.refl _ _).alloc (Nat.le_refl _) _), by simp⟩
  have hBt : Hid (Cells W w.heap.size 3 (fun i => (#[Value.int .i64 st, .int .i64 gap, .int .i64 hand] : Array Value).getD i undef)) := Lib.hid (by rw [← hWe.out]; exact box3_new w _ _ _ _)
  have k0 : W.cell? ⟨w.heap.size, 0, none⟩ = some (.int .i64 st) := hBt.out.cell (i := 0) (by omega)
  have k1 : W.cell? ⟨w.heap.size, 1, none⟩ = some (.int .i64 gap) := hBt.out.cell (i := 1) (by omega)
  have k2 : W.cell? ⟨w.heap.size, 2, none⟩ = some (.int .i64 hand) := hBt.out.cell (i := 2) (by omega)
  go_enter Tryz.func33, Tryz.ntmps33
  go_upto_region 1 with fail
  rw [hWe.out]
  clear hWe
  go_upto_region 3 with (first | (go_at_call 54; refine (l21Ideal_ex st gap hand R A c W ((HRw.out.later hWb.out).1) hn HSz.out).mono ?_; rintro e w1 ⟨l, A1, c1, rfl, hl96, ho1, hb1⟩; have HI1 : Hid (Aw w1 (g + 1) A1 2 Stk.enc l) := Lib.hid (Aw.own ho1 Stk_enc_len (by omega)); have HC1 := Lib.hid ((H.out.later hWb.out).later hb1); have HT1 : Hid (Turn g w w1) := Lib.hid ((Turn.of hWb.out).trans (Turn.of hb1)); clear ho1 hb1) | fail)
  clear k0 k1 k2
  go_loopw [7, 14] (fun v i wr => ∃ (k : Nat) (L : List Stk) (A2 : Option Addr) (c2 : Nat), i = .int .i64 (k : Int) ∧ k ≤ l.length ∧ v = .slice A2 L.length c2 ∧ L.length ≤ 2 * k ∧ L.length ≤ c2 ∧ Hid (Aw wr w.heap.size A2 2 Stk.enc L) ∧ Hid (Aw wr (g + 1) A1 2 Stk.enc l) ∧ Hid (Cur wr g (K + 6 * k)) ∧ Hid (Turn g w wr)) (fun _ i _ => l.length - (intOf i).toNat)
  case atStart => exact ⟨0, [], none, 0, by rfl, by omega, by rfl, by simp, by simp, Lib.hid ⟨.inl rfl, .inl rfl⟩, HI1, HC1, HT1⟩
  case round =>
    obtain ⟨k, L, A2, c2, rfl, hk, rfl, hL2, hLc, HA, HI, HC, HT⟩ := hrel
    clear HI1 HC1 HT1
    have hzw := HT.out.size
    by_cases hlt : k < l.length
    · obtain ⟨gI, oI, hAI, hgI, hcI⟩ := HI.out.1.at hlt
      have r0 : wr.cell? ⟨gI, oI + k * 2, none⟩ = some (.int .i64 (l[k]).bell) := hcI 0 _ rfl
      have r1 : wr.cell? ⟨gI, oI + k * 2 + 1, none⟩ = some (.int .i64 (l[k]).at_) := hcI 1 _ rfl
      obtain ⟨x, hx⟩ : ∃ x, Hid (l[k] = x) := ⟨_, Lib.hid rfl⟩
      rw [hx.out] at r0 r1
      obtain ⟨bell, t⟩ := x
      simp only at r0 r1
      subst hAI
      clear hcI
      obtain ⟨sb, hsb⟩ : ∃ n, Hid (wr.heap.size = n) := ⟨_, Lib.hid rfl⟩
      go_upto_region 5 with fail
      obtain ⟨V, hV, HBV, HSV, hVs⟩ : ∃ V, Hid (wr.alloc (.cells #[.int .i64 bell, .int .i64 t] 81) = V) ∧ Hid (Below wr.heap.size wr V) ∧ Hid (Cells V sb 2 (fun i => (#[Value.int .i64 bell, .int .i64 t] : Array Value).getD i undef)) ∧ sb + 1 = V.heap.size := ⟨_, Lib.hid rfl, Lib.hid ((Below.refl _ _).alloc (Nat.le_refl _) _), Lib.hid (by rw [← hsb.out]; exact box2_new wr _ _ _), by simp [hsb.out]⟩
      rw [hV.out, hsb.out]
      clear hV r0 r1
      have hgs : g < sb := by have := hsb.out; omega
      have HAV := Lib.hid (HA.out.later HBV.out)
      have HIV := Lib.hid (HI.out.later HBV.out)
      have HCV := Lib.hid (HC.out.later HBV.out)
      have HTV : Hid (Turn g wr V) := Lib.hid (Turn.of HBV.out)
      clear HC HBV HAV HIV
      go_upto_region 6 with (first | (go_at_call 17; refine (one_any g _ 12 V HCV.out (by omega) (by omega)).mono ?_; rintro e w3 ⟨b3, rfl, hc3, ht3⟩; have HC3 := Lib.hid hc3; have HT3 : Hid (Turn g wr w3) := Lib.hid (HTV.out.trans ht3); have HS3 := Lib.hid (HSV.out.chg ht3 (.inr (by omega))); have hz3 := ht3.size; clear hc3 ht3; cases b3) | fail)
      rotate_left
      · go_wp2
        go_roundw
        case rel => exact ⟨k + 1, L, A2, c2, by go_num, by omega, rfl, by omega, hLc, Lib.hid (HA.out.turn HT3.out hgw), Lib.hid (HI.out.turn HT3.out (by omega)), Lib.hid (HC3.out.more (by omega)), Lib.hid (HT.out.trans HT3.out)⟩
        case measure => simp [intOf]; omega
      have HAm : Hid (∀ (W : World) (f : Nat → Value), Below w3.heap.size w3 W → Cells W w3.heap.size 8 f → (∀ k, k < 8 → ∃ x, f k = .int .i64 x ∧ True) → Calls Tryz.prog 47 #[.pointer (some ⟨g, 0, none⟩), .slice (some ⟨w3.heap.size, 0, none⟩) 8 8] W fun e w' => ∃ v, e = .returned v ∧ ((∃ y : Int, v = .int .i64 y) ∧ Cur w' g (K + 6 * k + 4) ∧ Turn g w3 w')) := Lib.hid fun W f hW hf hx => (among_any g (K + 6 * k + 2) w3.heap.size 8 8 f (fun _ => True) W (HC3.out.later hW) (by omega) (by omega) (by omega) hf (by have := HC3.out.lt; omega) hx).mono fun e w' ⟨y, h1, _, h2, h3⟩ => ⟨_, h1, ⟨y, rfl⟩, h2, (Turn.of hW).trans h3⟩
      have hsb3 : sb < w3.heap.size := HS3.out.lt
      have q0 : w3.cell? ⟨sb, 1, none⟩ = some (.int .i64 t) := HS3.out.cell (i := 1) (by omega)
      have q1 : w3.drew.cell? ⟨sb, 1, none⟩ = some (.int .i64 t) := q0
      go_region_law (first
        | (refine step_callsX rfl 47 rfl #[.pointer (some ⟨g, 0, none⟩), .slice (some ⟨w3.heap.size, 0, none⟩) 8 8] (by go_simp) (HAm.out _ _ (by repeat (first | exact Below.refl _ _ | refine Below.drew ?_ | refine Below.alloc ?_ (Nat.le_refl _) _)) (by first | exact Cells.lit _ _ _ 8 rfl | exact Cells.lit w3 _ 3 8 rfl) (by intro k hk; rcases k with _ | _ | _ | _ | _ | _ | _ | _ | k <;> first | exact ⟨_, rfl, trivial⟩ | omega)) ?_; rintro v w4 ⟨⟨y, rfl⟩, hc4, ht4⟩; obtain ⟨z, hz⟩ : ∃ z, IntKind.i64.wrap (t + y) = z := ⟨_, rfl⟩; have HC4 := Lib.hid hc4; have HT4 := Lib.hid ht4; have HS4 := Lib.hid (HS3.out.chg ht4 (.inr (by omega))); have q2 : w4.cell? ⟨sb, 1, none⟩ = some (.int .i64 t) := HS4.out.cell (i := 1) (by omega); have q3 := HS4.out.free (i := 1) (by omega); have hz4 := ht4.size; clear hc4 ht4)
        | (refine step_callsX rfl 46 rfl #[.int .i64 0, .int .i64 z] (by go_simp) ((l1Most_ex 0 z _).mono fun e w' ⟨m, h1, h2⟩ => (⟨_, h1, ⟨m, rfl⟩, h2.symm⟩ : ∃ v, e = .returned v ∧ ((∃ m : Int, v = .int .i64 m) ∧ w' = _))) ?_; rintro v wM ⟨⟨m, rfl⟩, rfl⟩)
        | fail)
      all_goals
        obtain ⟨X5, hX5, HS5, kb5⟩ : ∃ X5, Hid (wM.setCell ⟨sb, 1, none⟩ (.int .i64 m) = X5) ∧ Hid (Cells X5 sb 2 (fun i => (#[Value.int .i64 bell, .int .i64 m] : Array Value).getD i undef)) ∧ Hid (Below sb wM X5) := ⟨_, Lib.hid rfl, Lib.hid (cells2_set1 HS4.out m), Lib.hid ((Below.refl _ _).setCell (p := ⟨sb, 1, none⟩) (Nat.le_refl _) _)⟩
        rw [hX5.out]
        have HTr5 : Hid (Turn g wr X5) := Lib.hid (Turn.thenB (HT3.out.trans HT4.out) (by rw [hsb.out]; exact kb5.out))
        have HT5 : Hid (Turn g w X5) := Lib.hid (HT.out.trans HTr5.out)
        have HC5 := Lib.hid (HC4.out.keep kb5.out hgs)
        have HA5 := Lib.hid (HA.out.turn HTr5.out hgw)
        have HI5 := Lib.hid (HI.out.turn HTr5.out (by omega))
        have hz5 : w.heap.size ≤ X5.heap.size := HT5.out.size
        have s0 : X5.cell? ⟨sb, 0, none⟩ = some (.int .i64 bell) := HS5.out.cell (i := 0) (by omega)
        have s1 : X5.cell? ⟨sb, 1, none⟩ = some (.int .i64 m) := HS5.out.cell (i := 1) (by omega)
        clear hX5 q0 q1 q2 q3 HA HI HT HTr5 HT3 HT4 HC4 HS4 HC3 HS3 HAm kb5 HTV HSV
        go_upto_region 8 with (first | (go_at_call 55; refine (l21Merge_any L [⟨bell, m⟩] A2 (some ⟨X5.heap.size, 0, none⟩) c2 1 _ ((HA5.out.later ((Below.refl _ _).alloc (Nat.le_refl _) _)).1) (rd_one X5 _ bell m) hLc (by simp) (by simp; omega)).mono ?_; rintro e w6 ⟨L6, v6, rfl, hL6, g6, b6⟩; have HB6 : Hid (Below X5.heap.size X5 w6) := Lib.hid (((Below.refl _ _).alloc (Nat.le_refl _) _).trans (b6.mono (by simp))); obtain ⟨A6, c6, rfl, ho6⟩ := g6.own Stk_enc_len; have hc6 := g6.capN; have HA6 : Hid (Aw w6 w.heap.size A6 2 Stk.enc L6) := Lib.hid (Aw.own ho6 Stk_enc_len (by simp; omega)); rw [List.length_singleton] at hL6; replace hL6 := Nat.le_of_eq hL6; clear g6 b6 ho6) | fail)
        clear s0 s1
        have HI6 := Lib.hid (HI5.out.later HB6.out)
        have HC6 := Lib.hid (HC5.out.later HB6.out)
        have HS6 := Lib.hid (HS5.out.later HB6.out)
        have HT6 : Hid (Turn g w w6) := Lib.hid (Turn.then HT5.out HB6.out)
        clear HA5 HI5 HC5 HS5 HT5 HB6
        go_upto_region 9 with (first | (go_at_call 17; refine (one_any g _ 25 w6 HC6.out (by omega) (by omega)).mono ?_; rintro e w7 ⟨b7, rfl, hc7, ht7⟩; have HC7 := Lib.hid hc7; have HT7 : Hid (Turn g w w7) := Lib.hid (HT6.out.trans ht7); have HS7 := Lib.hid (HS6.out.chg ht7 (.inr (by omega))); have HA7 := Lib.hid (HA6.out.turn ht7 hgw); have HI7 := Lib.hid (HI6.out.turn ht7 (by omega)); clear hc7 ht7; cases b7) | fail)
        · go_wp2
          go_roundw
          case rel => exact ⟨k + 1, L6, A6, c6, by go_num, by omega, rfl, by omega, hc6, HA7, HI7, Lib.hid (HC7.out.more (by omega)), HT7⟩
          case measure => simp [intOf]; omega
        · have s0 : w7.cell? ⟨sb, 0, none⟩ = some (.int .i64 bell) := HS7.out.cell (i := 0) (by omega)
          have s1 : w7.cell? ⟨sb, 1, none⟩ = some (.int .i64 m) := HS7.out.cell (i := 1) (by omega)
          obtain ⟨z2, hz2⟩ : ∃ z, IntKind.i64.wrap (m + 60) = z := ⟨_, rfl⟩
          have hz7 : w.heap.size ≤ w7.heap.size := HT7.out.size
          go_wp2_with (first | (go_at_call 55; refine (l21Merge_any L6 [⟨bell, z2⟩] A6 (some ⟨w7.heap.size, 0, none⟩) c6 1 _ ((HA7.out.later ((Below.refl _ _).alloc (Nat.le_refl _) _)).1) (rd_one w7 _ bell z2) hc6 (by simp) (by simp; omega)).mono ?_; rintro e w8 ⟨L8, v8, rfl, hL8, g8, b8⟩; have HB8 : Hid (Below w7.heap.size w7 w8) := Lib.hid (((Below.refl _ _).alloc (Nat.le_refl _) _).trans (b8.mono (by simp))); obtain ⟨A8, c8, rfl, ho8⟩ := g8.own Stk_enc_len; have hc8 := g8.capN; have HA8 : Hid (Aw w8 w.heap.size A8 2 Stk.enc L8) := Lib.hid (Aw.own ho8 Stk_enc_len (by simp; omega)); rw [List.length_singleton] at hL8; replace hL8 := Nat.le_of_eq hL8; clear g8 b8 ho8) | fail)
          go_roundw
          case rel => exact ⟨k + 1, L8, A8, c8, by go_num, by omega, rfl, by omega, hc8, HA8, Lib.hid (HI7.out.later HB8.out), Lib.hid ((HC7.out.later HB8.out).more (by omega)), Lib.hid (Turn.then HT7.out HB8.out)⟩
          case measure => simp [intOf]; omega
    · obtain rfl : k = l.length := by omega
      go_wp2
      go_ret
      exact ⟨L, A2, c2, rfl, by omega, hLc, HA.out, HC.out.more (by omega), HT.out⟩
end Go.Proofs.YtglnehinmdmgmaaGreat
