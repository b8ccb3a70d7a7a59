import Derived.Test.YtkegbbndmfnolaaGreatDoorMHeardL09
import Derived.Test.YtkegbbndmfnolaaGreatDoorMHeardL10
import Derived.Deep.Cut
/-
  The change of a band's step: a called lead (the program), l24Change (the reference).
-/
namespace Go.Proofs.YtkegbbndmfnolaaGreatDoor
open Go.RowKit
set_option linter.unusedVariables false
set_option linter.unusedSimpArgs false
set_option maxRecDepth 100000

/-- A lead's changes with a call. -/
def calledX (x : List ByteArray) (b s call : ByteArray) : List ByteArray := if call.toList = [98] then x.set (x.length - 1) b else if call.toList = [115] then x.set (x.length - 1) s else x
theorem calledX_len (x : List ByteArray) (b s call : ByteArray) : (calledX x b s call).length = x.length := by unfold calledX; split; (· simp); split <;> simp
section
variable {w : World} {b c g : Nat} {l : List ByteArray}
theorem OwnL.someStr {A : Option Addr} (h : OwnL w b c A 1 encString l) (hl : 0 < l.length) : ∃ g, A = some ⟨g, 0, none⟩ ∧ b ≤ g ∧ g < c ∧ g < w.heap.size := by
  obtain ⟨g, f, hA, h1, h2, h3⟩ := h.cells hl
  exact ⟨g, hA, h1, h2, h3.lt⟩
theorem OwnL.cellStr (h : OwnL w b c (some ⟨g, 0, none⟩) 1 encString l) (k : Nat) (hk : k < l.length) : w.cell? ⟨g, k, none⟩ = some (.string l[k]) ∧ w.frozen? ⟨g, k, none⟩ = false := by
  rcases h with h | ⟨g', f, hA, h1, h2, h3, h4⟩
  · subst h; simp at hk
  · simp only [Option.some.injEq, Addr.mk.injEq, and_true] at hA
    subst hA
    have := h4 k hk 0 _ rfl
    have hc := h3.cell (i := k) (by omega)
    rw [Nat.mul_one, Nat.add_zero] at this
    rw [this] at hc
    exact ⟨hc, h3.free (by omega)⟩
theorem OwnL.setStr (h : OwnL w b c (some ⟨g, 0, none⟩) 1 encString l) (k : Nat) (hk : k < l.length) (v : ByteArray) : OwnL (w.setCell ⟨g, k, none⟩ (.string v)) b c (some ⟨g, 0, none⟩) 1 encString (l.set k v) := by
  rcases h with h | ⟨g', f, hA, h1, h2, h3, h4⟩
  · subst h; simp at hk
  · simp only [Option.some.injEq, Addr.mk.injEq, and_true] at hA
    subst hA
    refine .inr ⟨g, _, rfl, h1, h2, by rw [List.length_set]; exact h3.set (i := k) (by omega) _, fun i hi j u hu => ?_⟩
    have hj : j = 0 := by have := (List.getElem?_eq_some_iff.1 hu).1; simp [encString] at this; exact this
    subst hj
    by_cases e : i = k
    · subst e
      rw [List.getElem_set_self] at hu
      rw [Nat.mul_one, Nat.add_zero, upd_same]
      simpa [encString] using hu
    · rw [List.getElem_set_ne (by omega)] at hu
      rw [Nat.mul_one, Nat.add_zero, upd_other _ _ _ _ (by omega)]
      have := h4 i (by simpa using hi) 0 u hu
      rw [Nat.mul_one, Nat.add_zero] at this
      exact this
end
/-- A method whose changes lie in memory of the call's own is handed back. -/
def MdOut (nm : ByteArray) (st : Int) (x : List ByteArray) (w : World) (e : Ending) (w' : World) : Prop :=
  ∃ A1 c1, e = .returned (.agg #[.string nm, .int .i64 st, .slice A1 x.length c1]) ∧ OwnL w' w.heap.size w'.heap.size A1 1 encString x ∧ Below w.heap.size w w'
set_option maxHeartbeats 1600000 in
theorem calledLead_any (m : Mth) (b s call : ByteArray) (w : World) (h : RdL w w.heap.size m.A 1 encString m.x) (hl : m.x.length ≤ 1048576) (h0 : 0 < m.x.length) :
    Calls Tryz.prog 131 #[.agg #[.string m.name, .int .i64 m.stage, .slice m.A m.x.length m.c], .agg #[.string b, .string s], .string call] w fun e w' => MdOut m.name m.stage (calledX m.x b s call) w e w' := by
  have hW : ∃ W : World, Hid ((((w.alloc (.cells #[.string m.name, .int .i64 m.stage, .slice m.A m.x.length m.c] 26)).alloc (.cells #[.string b, .string s] 28)).alloc (.cells #[Value.string ⟨#[]⟩, .int .i64 0, .slice none 0 0] 26)) = W) ∧ Hid (W.heap.size = w.heap.size + 3) ∧ Hid (Below w.heap.size w W) ∧ Hid (Cells W w.heap.size 3 (fun i => ((#[Value.string m.name, .int .i64 m.stage, .slice m.A m.x.length m.c] : Array Value)).getD i undef)) ∧ Hid (Cells W (w.heap.size + 1) 2 (fun i => (#[Value.string b, .string s] : Array Value).getD i undef)) ∧ Hid (Cells W (w.heap.size + 1 + 1) 3 (fun i => (#[Value.string ⟨#[]⟩, .int .i64 0, .slice none 0 0] : Array Value).getD i undef)) := by
    have z1 : w.heap.size + 1 = (w.alloc (.cells #[.string m.name, .int .i64 m.stage, .slice m.A m.x.length m.c] 26)).heap.size := by simp
    have z2 : w.heap.size + 1 + 1 = ((w.alloc (.cells #[.string m.name, .int .i64 m.stage, .slice m.A m.x.length m.c] 26)).alloc (.cells #[.string b, .string s] 28)).heap.size := by simp
    refine ⟨_, Lib.hid rfl, Lib.hid (by simp), Lib.hid ((((Below.refl _ _).alloc (Nat.le_refl _) _).alloc (by simp) _).alloc (by simp; omega) _), Lib.hid ?_, Lib.hid ?_, Lib.hid ?_⟩
    · exact ((Cells.newD _ #[.string m.name, .int .i64 m.stage, .slice m.A m.x.length m.c] _).alloc _).alloc _
    · rw [z1]; exact (Cells.newD _ #[.string b, .string s] _).alloc _
    · rw [z2]; exact Cells.newD _ #[Value.string ⟨#[]⟩, .int .i64 0, .slice none 0 0] _
  obtain ⟨W, hWe, hWs, hWb, hM, hK, hZ⟩ := hW
  have hWs1 : w.heap.size + 3 ≤ W.heap.size := by have := hWs.out; omega
  have H := Lib.hid (show RdL W W.heap.size m.A 1 encString m.x from (h.below hWb.out (Nat.le_refl _)).more hWb.out.size)
  clear h
  have u0 : W.cell? ⟨w.heap.size, 0, none⟩ = some (.string m.name) := hM.out.cell (i := 0) (by omega)
  have u1 : W.cell? ⟨w.heap.size, 1, none⟩ = some (.int .i64 m.stage) := hM.out.cell (i := 1) (by omega)
  have u2 : W.cell? ⟨w.heap.size, 2, none⟩ = some (.slice m.A m.x.length m.c) := hM.out.cell (i := 2) (by omega)
  have f0 := Later.cell u0 (show w.heap.size < W.heap.size by omega)
  have f1 := Later.cell u1 (show w.heap.size < W.heap.size by omega)
  have f2 := Later.cell u2 (show w.heap.size < W.heap.size by omega)
  go_enter Tryz.func131, Tryz.ntmps131
  go_wp2_with fail
  rw [hWe.out]
  clear hWe
  refine wp_region_G (by kernel_rfl) [.q, .s (fun _ => gNil), .q, .q, .s (fun _ u lo hi w' => ∃ A c, u = .slice A m.x.length c ∧ OwnL w' lo hi A 1 encString m.x), .s (fun g u lo hi w' => u = .agg #[.string m.name, .int .i64 m.stage, g.getD 1 undef]), .s (fun _ => gBox 3), .t] [0, 1, 0, 0, 1, 1, 1, 2] rfl 3 (by kernel_rfl) (inC W) (W).heap.size (inC.size W) (inC.of (Below.refl _ _).drew) ?_
  (refine wpG_quiets 1 _ _ _ _ (by first | exact cls_none rfl | exact fun w h => h.1) (by intro j hj; rcases j with _ | _ | _ | _ | _ | _ | _ | _ | _ | _ | j <;> first | exact ⟨rfl, ⟨_, rfl, rfl⟩, rfl⟩ | (exfalso; omega)) ?_; simp only [List.take_succ_cons, List.take_zero, List.drop_succ_cons, List.drop_zero, Nat.zero_add, Nat.reduceAdd]; change wpQuiet _ _ (fun wq9 => ∃ x : Later W, wq9 = x.W) _ _ _; (repeat (go_big_quiet_step (fail))); refine wpQuiet_nil ?_; try dsimp only)
  refine wpG_nil 9 rfl rfl rfl rfl (by intro w; go_simp) ?_
  (intro un lon hin hsat; obtain ⟨w1, hw1⟩ := hsat; have hr : un = .slice (some ⟨lon, 0, none⟩) 0 0 := (hw1.rec rfl 1).2.2; obtain rfl := hr; clear hw1; simp only [Act.put, List.setIfInBounds_toArray, List.set_cons_zero, List.set_cons_succ, Nat.reduceAdd])
  (refine wpG_quiets 2 _ _ _ _ (by first | exact cls_none rfl | exact fun w h => h.1) (by intro j hj; rcases j with _ | _ | _ | _ | _ | _ | _ | _ | _ | _ | j <;> first | exact ⟨rfl, ⟨_, rfl, rfl⟩, rfl⟩ | (exfalso; omega)) ?_; simp only [List.take_succ_cons, List.take_zero, List.drop_succ_cons, List.drop_zero, Nat.zero_add, Nat.reduceAdd]; change wpQuiet _ _ (fun wq9 => ∃ x : Later W, wq9 = x.W) _ _ _; (repeat (go_big_quiet_step (fail))); refine wpQuiet_nil ?_; try dsimp only)
  refine wpG_appendNew (enc := encString) (.tmp 10) (.tmp 12) 24 rfl 9 _ 1 16 rfl String_info rfl (by omega) ⟨lon, 0, none⟩ rfl m.x m.A m.c rfl (fun w1 hw1 => ((H.out.below hw1.below (Nat.le_refl _)).more hw1.below.size)) h0 encString_len (by omega) (by omega) rfl rfl rfl rfl ?_
  (intro u lo hi hsat; obtain ⟨w1, hw1⟩ := hsat; have hr : ∃ A c, u = .slice A m.x.length c ∧ OwnL w1 lo hi A 1 encString m.x := (hw1.rec rfl 4).2.2; obtain ⟨A1, c1, rfl, _⟩ := hr; clear hw1; simp only [Act.put, List.setIfInBounds_toArray, List.set_cons_zero, List.set_cons_succ, Nat.reduceAdd])
  (refine wpG_call _ rfl rfl rfl rfl (fun u lo hi => loc_pure _) 111 #[.agg #[.string m.name, .int .i64 m.stage, .slice m.A m.x.length m.c], .slice A1 m.x.length c1] (by intro w; go_simp) (by intro w1 hw1 hd; (refine (withChanges_any m A1 m.x.length c1 _).mono ?_; rintro e w2 ⟨rfl, hb⟩; exact ⟨_, rfl, hw1.step hb, eff_of_below hb, rfl⟩)) ?_)
  (intro u4 lo4 hi4 hsat; obtain ⟨w1, hw1⟩ := hsat; have hr : u4 = .agg #[.string m.name, .int .i64 m.stage, .slice A1 m.x.length c1] := (hw1.rec rfl 5).2.2; obtain rfl := hr; clear hw1; simp only [Act.put, List.setIfInBounds_toArray, List.set_cons_zero, List.set_cons_succ, Nat.reduceAdd])
  (refine wpG_box 3 #[Value.string ⟨#[]⟩, .int .i64 0, .slice none 0 0] 26 rfl rfl rfl rfl rfl (by intro w; go_simp) ?_; intro u7 lo7 hi7 hsat; obtain ⟨w1, hw1⟩ := hsat; have hr : gBox 3 u7 lo7 hi7 w1 := (hw1.rec rfl 6).2.2; obtain ⟨rfl, rfl, _⟩ := hr; clear hw1; simp only [Act.put, List.setIfInBounds_toArray, List.set_cons_zero, List.set_cons_succ, Nat.reduceAdd])
  (refine wpG_t (fun w' => setN w' lo7 0 [.string m.name, .int .i64 m.stage, .slice A1 m.x.length c1]) rfl rfl rfl rfl (by intro w1 hw1; have hr : gBox 3 (.pointer (some ⟨lo7, 0, none⟩)) lo7 (lo7 + 1) w1 := (hw1.rec rfl 6).2.2; have hlo : W.heap.size ≤ lo7 := (hw1.rng rfl 6 rfl).1; obtain ⟨_, _, f, hcf⟩ := hr; have p0 := hcf.cell (i := 0) (by omega); have q0 := hcf.free (i := 0) (by omega); have p1 := hcf.cell (i := 1) (by omega); have q1 := hcf.free (i := 1) (by omega); have p2 := hcf.cell (i := 2) (by omega); have q2 := hcf.free (i := 2) (by omega); have hC1 := (hw1.cls rfl).below; clear hw1; refine ⟨?_, inC.of (Below.setN hlo _ hC1)⟩; simp only [setN]; go_simp; try rfl) ?_)
  intro w' hh
  obtain ⟨_, wz, hz, rfl⟩ := hh
  obtain ⟨Az, cz, hez, hO⟩ : ∃ A c, Value.slice A1 m.x.length c1 = .slice A m.x.length c ∧ OwnL wz lo hi A 1 encString m.x := (hz.rec rfl 4).2.2
  obtain ⟨rfl, rfl⟩ : A1 = Az ∧ c1 = cz := by simpa using hez
  obtain ⟨hlo, _, hhi⟩ : W.heap.size ≤ lo ∧ lo ≤ hi ∧ hi ≤ wz.heap.size := hz.rng rfl 4 rfl
  obtain ⟨hx1, _, hx3⟩ : W.heap.size ≤ lo7 ∧ lo7 ≤ lo7 + 1 ∧ lo7 + 1 ≤ wz.heap.size := hz.rng rfl 6 rfl
  have hap : hi ≤ lo7 ∨ lo7 + 1 ≤ lo := hz.apart rfl 4 6 (by omega)
  obtain ⟨_, _, f, hcf⟩ : gBox 3 (.pointer (some ⟨lo7, 0, none⟩)) lo7 (lo7 + 1) wz := (hz.rec rfl 6).2.2
  have hbz := (hz.cls rfl).below
  have hcv := Lib.hid (hcf.boxed [.string m.name, .int .i64 m.stage, .slice A1 m.x.length c1] rfl)
  have hck : Chg lo7 (lo7 + 1) wz (setN wz lo7 0 [.string m.name, .int .i64 m.stage, .slice A1 m.x.length c1]) := Chg.setN (Nat.le_refl _) (Nat.lt_succ_self _) _ (Chg.refl _ _ _)
  have hsz9 := setN_size lo7 [.string m.name, .int .i64 m.stage, .slice A1 m.x.length c1] wz 0
  have hbV : Hid (Below W.heap.size W (setN wz lo7 0 [.string m.name, .int .i64 m.stage, .slice A1 m.x.length c1])) := Lib.hid (Below.setN hx1 _ hbz)
  have hOV := Lib.hid (hO.chg hck (by omega))
  rw [← hsz9] at hhi hx3
  clear hsz9 hck hcf hO hz hbz hez f0 f1 f2 u0 u1 u2
  generalize setN wz lo7 0 [.string m.name, .int .i64 m.stage, .slice A1 m.x.length c1] = V at *
  obtain ⟨g, hA1, hg1, hg2, _⟩ := hOV.out.someStr h0
  subst hA1
  have k0 : V.cell? ⟨w.heap.size + 1, 0, none⟩ = some (.string b) := (hbV.out.cell (p := ⟨w.heap.size + 1, 0, none⟩) (show w.heap.size + 1 < W.heap.size by omega)).trans (hK.out.cell (i := 0) (by omega))
  have k1 : V.cell? ⟨w.heap.size + 1, 1, none⟩ = some (.string s) := (hbV.out.cell (p := ⟨w.heap.size + 1, 1, none⟩) (show w.heap.size + 1 < W.heap.size by omega)).trans (hK.out.cell (i := 1) (by omega))
  have v0 : V.cell? ⟨lo7, 0, none⟩ = some (.string m.name) := hcv.out.cell (i := 0) (by omega)
  have v1 : V.cell? ⟨lo7, 1, none⟩ = some (.int .i64 m.stage) := hcv.out.cell (i := 1) (by omega)
  have v2 : V.cell? ⟨lo7, 2, none⟩ = some (.slice (some ⟨g, 0, none⟩) m.x.length c1) := hcv.out.cell (i := 2) (by omega)
  have hZV := hZ.out.later (hbV.out.mono (by omega) |> fun h => h) |> fun h => h
  have z0 := hZV.cell (i := 0) (by omega)
  have z1 := hZV.cell (i := 1) (by omega)
  have z2 := hZV.cell (i := 2) (by omega)
  have y0 := hZV.free (i := 0) (by omega)
  have y1 := hZV.free (i := 1) (by omega)
  have y2 := hZV.free (i := 2) (by omega)
  obtain ⟨t0, t1⟩ := hOV.out.cellStr (m.x.length - 1) (by omega)
  have hlast : ((m.x.length : Int) - 1).toNat = m.x.length - 1 := by omega
  clear hZV
  by_cases e2 : call.toList = [98]
  · have d2 : (call.toList == [98]) = true := beq_iff_eq.2 e2
    have hcx : Hid (calledX m.x b s call = m.x.set (m.x.length - 1) b) := Lib.hid (by unfold calledX; rw [if_pos e2])
    clear e2
    go_wp2
    refine bodyPost_ret (v := .agg #[.string m.name, .int .i64 m.stage, .slice (some ⟨g, 0, none⟩) m.x.length c1]) (by simp [results, Tryz.results131, go_sem, z0, z1, z2, y0, y1, y2]) rfl ?_
    have k1 : Chg w.heap.size hi V (V.setCell ⟨g, m.x.length - 1, none⟩ (.string b)) := (Chg.refl _ _ V).setCell (p := ⟨g, m.x.length - 1, none⟩) (show w.heap.size ≤ g by omega) hg2 _
    have ho := hOV.out.setStr (m.x.length - 1) (by omega) b
    have k2 : Chg (w.heap.size + 1 + 1) (w.heap.size + 1 + 1 + 1) (V.setCell ⟨g, m.x.length - 1, none⟩ (.string b)) (setN (V.setCell ⟨g, m.x.length - 1, none⟩ (.string b)) (w.heap.size + 1 + 1) 0 [.string m.name, .int .i64 m.stage, .slice (some ⟨g, 0, none⟩) m.x.length c1]) := Chg.setN (Nat.le_refl _) (Nat.lt_succ_self _) _ (Chg.refl _ _ _)
    have hO2 := (ho.chg k2 (.inr (by omega))).mono (show w.heap.size ≤ lo by omega) (Nat.le_trans hhi (Nat.le_trans k1.size k2.size))
    have hBB := Below.chg (Below.chg (hWb.out.trans (hbV.out.mono hWb.out.size)) k1 (Nat.le_refl _) (by have := hbV.out.size; omega)) k2 (by omega) (by have := hbV.out.size; have := k1.size; omega)
    exact ⟨some ⟨g, 0, none⟩, c1, by rw [calledX_len], by rw [hcx.out]; exact hO2, hBB⟩
  · have d2 : (call.toList == [98]) = false := beq_eq_false_iff_ne.2 e2
    by_cases e3 : call.toList = [115]
    · have d3 : (call.toList == [115]) = true := beq_iff_eq.2 e3
      have hcx : Hid (calledX m.x b s call = m.x.set (m.x.length - 1) s) := Lib.hid (by unfold calledX; rw [if_neg e2, if_pos e3])
      clear e2 e3
      go_wp2
      refine bodyPost_ret (v := .agg #[.string m.name, .int .i64 m.stage, .slice (some ⟨g, 0, none⟩) m.x.length c1]) (by simp [results, Tryz.results131, go_sem, z0, z1, z2, y0, y1, y2]) rfl ?_
      have k1 : Chg w.heap.size hi V (V.setCell ⟨g, m.x.length - 1, none⟩ (.string s)) := (Chg.refl _ _ V).setCell (p := ⟨g, m.x.length - 1, none⟩) (show w.heap.size ≤ g by omega) hg2 _
      have ho := hOV.out.setStr (m.x.length - 1) (by omega) s
      have k2 : Chg (w.heap.size + 1 + 1) (w.heap.size + 1 + 1 + 1) (V.setCell ⟨g, m.x.length - 1, none⟩ (.string s)) (setN (V.setCell ⟨g, m.x.length - 1, none⟩ (.string s)) (w.heap.size + 1 + 1) 0 [.string m.name, .int .i64 m.stage, .slice (some ⟨g, 0, none⟩) m.x.length c1]) := Chg.setN (Nat.le_refl _) (Nat.lt_succ_self _) _ (Chg.refl _ _ _)
      have hO2 := (ho.chg k2 (.inr (by omega))).mono (show w.heap.size ≤ lo by omega) (Nat.le_trans hhi (Nat.le_trans k1.size k2.size))
      have hBB := Below.chg (Below.chg (hWb.out.trans (hbV.out.mono hWb.out.size)) k1 (Nat.le_refl _) (by have := hbV.out.size; omega)) k2 (by omega) (by have := hbV.out.size; have := k1.size; omega)
      exact ⟨some ⟨g, 0, none⟩, c1, by rw [calledX_len], by rw [hcx.out]; exact hO2, hBB⟩
    · have d3 : (call.toList == [115]) = false := beq_eq_false_iff_ne.2 e3
      have hcx : Hid (calledX m.x b s call = m.x) := Lib.hid (by unfold calledX; rw [if_neg e2, if_neg e3])
      clear e2 e3
      go_wp2
      refine bodyPost_ret (v := .agg #[.string m.name, .int .i64 m.stage, .slice (some ⟨g, 0, none⟩) m.x.length c1]) (by simp [results, Tryz.results131, go_sem, z0, z1, z2, y0, y1, y2]) rfl ?_
      have k1 : Chg w.heap.size hi V V := Chg.refl _ _ V
      have ho := hOV.out
      have k2 : Chg (w.heap.size + 1 + 1) (w.heap.size + 1 + 1 + 1) V (setN V (w.heap.size + 1 + 1) 0 [.string m.name, .int .i64 m.stage, .slice (some ⟨g, 0, none⟩) m.x.length c1]) := Chg.setN (Nat.le_refl _) (Nat.lt_succ_self _) _ (Chg.refl _ _ _)
      have hO2 := (ho.chg k2 (.inr (by omega))).mono (show w.heap.size ≤ lo by omega) (Nat.le_trans hhi (Nat.le_trans k1.size k2.size))
      have hBB := Below.chg (Below.chg (hWb.out.trans (hbV.out.mono hWb.out.size)) k1 (Nat.le_refl _) (by have := hbV.out.size; omega)) k2 (by omega) (by have := hbV.out.size; have := k1.size; omega)
      exact ⟨some ⟨g, 0, none⟩, c1, by rw [calledX_len], by rw [hcx.out]; exact hO2, hBB⟩
end Go.Proofs.YtkegbbndmfnolaaGreatDoor

/-
  A band copied; a called lead; a band behind one change: contracts of both sides.
-/
namespace Go.Proofs.YtkegbbndmfnolaaGreatDoor
open Go.RowKit
set_option linter.unusedVariables false
set_option linter.unusedSimpArgs false
set_option maxRecDepth 100000




def Bnd.bd (b : Bnd) : Bd := ⟨b.m.name, b.m.stage, b.m.x, b.bob, b.sing, b.step, b.call, b.tru, b.rx⟩


end Go.Proofs.YtkegbbndmfnolaaGreatDoor

/-
  A band behind one change: contracts of both sides.
-/
namespace Go.Proofs.YtkegbbndmfnolaaGreatDoor
open Go.RowKit
set_option linter.unusedVariables false
set_option linter.unusedSimpArgs false
set_option maxRecDepth 100000

/-- A band behind one change. -/
noncomputable def stepD (b : Bnd) : Bd := ⟨b.m.name, b.m.stage, b.m.x, b.bob, b.sing, stepN b, stepC b, stepT b, stepRs b⟩
theorem changeP.size {n : Int} {c : ByteArray} (h : changeP n c) : c.size ≤ 8 := by
  have h8 := h.1.2
  rcases h.2 with h2 | h2
  · rw [h2.1, dash_size]; omega
  · have := h2.2.2.1; omega
/-- What is needed of a band that is taken apart. -/
structure StepF (n k : Nat) (nm : ByteArray) (x : List ByteArray) (bob sing call tru : ByteArray) (rx : List Rgr) (HC OC : ByteArray) (f : Rgr → Rgr) (D : Bd) : Prop where
  n3 : 3 ≤ n
  n8 : n ≤ 8
  kx : k < x.length
  hc : changeP (n : Int) HC
  oc : changeP (n : Int) OC
  row : isRow tru
  ts : tru.size = n
  own : ∀ h : k < x.length, x[k] = OC
  cx : (calledX x bob sing call).getD k ByteArray.empty = HC
  rl : rx.length = n
  rp : ∀ (i : Nat) (hi : i < rx.length), 1 ≤ rx[i].place ∧ rx[i].place ≤ n
  ff : ∀ r, f r = ⟨((mvP n (if r.deaf then OC else HC) r.place.toNat : Nat) : Int), r.deaf⟩
  hh : ∀ (A : Option Addr) (c : Nat) (RA : Option Addr) (rc : Nat), heardChg ⟨⟨nm, (n : Int), x, A, c⟩, bob, sing, (k : Int), call, tru, rx, RA, rc⟩ = HC
  oo : ∀ (A : Option Addr) (c : Nat) (RA : Option Addr) (rc : Nat), ownChg ⟨⟨nm, (n : Int), x, A, c⟩, bob, sing, (k : Int), call, tru, rx, RA, rc⟩ = OC
  dl : k + 1 = x.length → D = ⟨nm, n, x, bob, sing, 0, ⟨#[112]⟩, timesS tru (chgS n HC), (rx.map f).map hearR⟩
  dm : k + 1 ≠ x.length → D = ⟨nm, n, x, bob, sing, (k : Int) + 1, call, timesS tru (chgS n HC), rx.map f⟩
end Go.Proofs.YtkegbbndmfnolaaGreatDoor

/-
  Touches in plain words: rows behind changes one after the other, the heads of a touch.
-/
namespace Go.Proofs.YtkegbbndmfnolaaGreatDoor
open Go.RowKit
set_option linter.unusedVariables false
set_option linter.unusedSimpArgs false

section
variable {α : Type} (f : ByteArray → α → ByteArray)
/-- What stands behind k steps. -/
def after (r : ByteArray) (l : List α) (k : Nat) : ByteArray := (l.take k).foldl f r
theorem after_zero (r : ByteArray) (l : List α) : after f r l 0 = r := by simp [after]
theorem after_succ (r : ByteArray) (l : List α) (k : Nat) (h : k < l.length) : after f r l (k + 1) = f (after f r l k) l[k] := by
  unfold after; rw [List.take_succ_eq_append_getElem h, List.foldl_append]; rfl
theorem after_congr {r : ByteArray} {l l' : List α} {k : Nat} (h : l.take k = l'.take k) : after f r l k = after f r l' k := by unfold after; rw [h]
/-- The first n of them. -/
def walkL (r : ByteArray) (l : List α) (n : Nat) : List ByteArray := (List.range n).map (after f r l)
theorem walkL_len (r : ByteArray) (l : List α) (n : Nat) : (walkL f r l n).length = n := by simp [walkL]
theorem walkL_one (r : ByteArray) (l : List α) : walkL f r l 1 = [r] := by simp [walkL, after_zero]
theorem walkL_succ (r : ByteArray) (l : List α) (n : Nat) : walkL f r l (n + 1) = walkL f r l n ++ [after f r l n] := by simp [walkL, List.range_succ]
theorem walkL_at (r : ByteArray) (l : List α) (n k : Nat) (h : k < (walkL f r l n).length) : (walkL f r l n)[k] = after f r l k := by simp [walkL]
end
/-- A row behind a change of stage n. -/
noncomputable def chF (n : Nat) (r c : ByteArray) : ByteArray := timesS r (chgS n c)
theorem row_times {a b : ByteArray} (ha : isRow a) (hb : isRow b) (h : a.size = b.size) : isRow (timesS a b) := by
  have h1 := hb.1
  have h2 := hb.2.1
  have key : ∀ i : Nat, i < b.size → ∃ k : Nat, k < a.size ∧ bat b i - 49 = (k : Int) ∧ bat (timesS a b) i = bat a k := fun i hi => by
    have := hb.2.2.1 i hi
    refine ⟨(bat b i - 49).toNat, by omega, by omega, ?_⟩
    rw [bat_times a b i hi]
    congr 1
    omega
  refine ⟨by rw [size_times]; exact h1, by rw [size_times]; exact h2, fun i hi => ?_, fun i j hij hj => ?_⟩
  · rw [size_times] at hi ⊢
    obtain ⟨k, hk, _, e⟩ := key i hi
    rw [e]
    have := ha.2.2.1 k hk
    omega
  · rw [size_times] at hj
    obtain ⟨k, hk, ek, e⟩ := key i (by omega)
    obtain ⟨m, hm, em, e2⟩ := key j hj
    rw [e, e2]
    intro hc
    have hkm := ha.inj hk hm hc
    subst hkm
    exact hb.2.2.2 i j hij hj (by omega)
theorem row_chg {n : Nat} (h3 : 3 ≤ n) (h8 : n ≤ 8) (c : ByteArray) : isRow (chgS n c) ∧ (chgS n c).size = n :=
  ⟨ptS_row (swL_bd c n) (swL_sep c n) h3 h8, ptS_size _ _⟩
theorem row_rounds {n : Nat} (h3 : 3 ≤ n) (h8 : n ≤ 8) : isRow (roundsS n) ∧ (roundsS n).size = n := by
  have hs : (roundsS (n : Int)).size = n := by rw [roundsS_size (by omega) (by omega)]; omega
  refine ⟨⟨by omega, by omega, fun i hi => ?_, fun i j hij hj => ?_⟩, hs⟩
  · rw [hs] at hi ⊢; rw [rounds_bat hi h8]; omega
  · rw [hs] at hj; rw [rounds_bat (by omega) h8, rounds_bat hj h8]; omega
def rowN (n : Nat) (r : ByteArray) : Prop := isRow r ∧ r.size = n
theorem chF_row {n : Nat} (h3 : 3 ≤ n) (h8 : n ≤ 8) {r : ByteArray} (hr : rowN n r) (c : ByteArray) : rowN n (chF n r c) := by
  obtain ⟨h1, h2⟩ := row_chg h3 h8 c
  exact ⟨row_times hr.1 h1 (by rw [hr.2, h2]), by unfold chF; rw [size_times, h2]⟩
theorem after_rowN {α : Type} {n : Nat} {f : ByteArray → α → ByteArray} {l : List α} (hf : ∀ r, rowN n r → ∀ x ∈ l, rowN n (f r x)) {r : ByteArray} (hr : rowN n r) : ∀ k, rowN n (after f r l k) := by
  intro k
  induction k with
  | zero => rw [after_zero]; exact hr
  | succ k ih =>
    by_cases h : k < l.length
    · rw [after_succ f r l k h]; exact hf _ ih _ (List.getElem_mem h)
    · have e : after f r l (k + 1) = after f r l k := by
        unfold after; rw [List.take_of_length_le (show l.length ≤ k + 1 by omega), List.take_of_length_le (show l.length ≤ k by omega)]
      rw [e]; exact ih
/-- The lead head of a lead with a call. -/
noncomputable def hdS (n : Nat) (x : List ByteArray) (b s call : ByteArray) : ByteArray := after (chF n) (roundsS n) (calledX x b s call) x.length
/-- The change that a call makes of the last one. -/
def lastC (x : List ByteArray) (b s call : ByteArray) : ByteArray := if call.toList = [98] then b else if call.toList = [115] then s else x.getD (x.length - 1) ByteArray.empty
theorem calledX_last {x : List ByteArray} {b s call : ByteArray} (h : 0 < x.length) : (calledX x b s call)[x.length - 1]'(by rw [calledX_len]; omega) = lastC x b s call := by
  have hg : ∀ (i : Nat) (hi : i < (calledX x b s call).length), (calledX x b s call)[i] = (calledX x b s call).getD i ByteArray.empty := fun i hi => by rw [List.getD_eq_getElem?_getD, List.getElem?_eq_getElem hi]; rfl
  rw [hg]
  unfold calledX lastC
  split
  · rw [List.getD_eq_getElem?_getD, List.getElem?_set_self (by omega)]; rfl
  · split
    · rw [List.getD_eq_getElem?_getD, List.getElem?_set_self (by omega)]; rfl
    · rfl
theorem calledX_take {x : List ByteArray} {b s call : ByteArray} : (calledX x b s call).take (x.length - 1) = x.take (x.length - 1) := by
  unfold calledX
  split
  · rw [List.take_set_of_le (Nat.le_refl _)]
  · split
    · rw [List.take_set_of_le (Nat.le_refl _)]
    · rfl
/-- The head, by the changes up to the last one and the last one. -/
theorem hdS_last {n : Nat} {x : List ByteArray} {b s call : ByteArray} (h : 0 < x.length) : hdS n x b s call = chF n (after (chF n) (roundsS n) x (x.length - 1)) (lastC x b s call) := by
  unfold hdS
  obtain ⟨k, hk⟩ : ∃ k, x.length = k + 1 := ⟨x.length - 1, by omega⟩
  have e := after_succ (chF n) (roundsS n) (calledX x b s call) (x.length - 1) (by rw [calledX_len]; omega)
  rw [show x.length - 1 + 1 = x.length by omega] at e
  rw [e, calledX_last h]
  congr 1
  exact after_congr _ calledX_take
theorem hdS_row {n : Nat} (h3 : 3 ≤ n) (h8 : n ≤ 8) (x : List ByteArray) (b s call : ByteArray) : rowN n (hdS n x b s call) :=
  after_rowN (fun r hr c _ => chF_row h3 h8 hr c) (row_rounds h3 h8) _
/-- The call that a byte stands for. -/
def callOf (v : Int) : ByteArray := mkS [v]
noncomputable def hdF (n : Nat) (x : List ByteArray) (b s : ByteArray) (r : ByteArray) (v : Int) : ByteArray := timesS r (hdS n x b s (callOf v))
/-- The bytes of a string. -/
def batL (t : ByteArray) : List Int := (List.range t.size).map fun i : Nat => bat t i
theorem batL_len (t : ByteArray) : (batL t).length = t.size := by simp [batL]
theorem batL_at (t : ByteArray) (k : Nat) (h : k < (batL t).length) : (batL t)[k] = bat t k := by simp [batL]
theorem hdF_row {n : Nat} (h3 : 3 ≤ n) (h8 : n ≤ 8) (x : List ByteArray) (b s : ByteArray) {r : ByteArray} (hr : rowN n r) (v : Int) : rowN n (hdF n x b s r v) := by
  obtain ⟨h1, h2⟩ := hdS_row h3 h8 x b s (callOf v)
  exact ⟨row_times hr.1 h1 (by rw [hr.2, h2]), by unfold hdF; rw [size_times, h2]⟩
/-- The head behind k leads of a touch. -/
noncomputable def headS (n : Nat) (x : List ByteArray) (b s t : ByteArray) (k : Nat) : ByteArray := after (hdF n x b s) (roundsS n) (batL t) k
noncomputable def headsL (n : Nat) (x : List ByteArray) (b s t : ByteArray) (k : Nat) : List ByteArray := walkL (hdF n x b s) (roundsS n) (batL t) k
theorem headS_succ (n : Nat) (x : List ByteArray) (b s t : ByteArray) (k : Nat) (h : k < t.size) : headS n x b s t (k + 1) = timesS (headS n x b s t k) (hdS n x b s (callOf (bat t k))) := by
  unfold headS
  rw [after_succ _ _ _ k (by rw [batL_len]; exact h), batL_at]; rfl
theorem headS_row {n : Nat} (h3 : 3 ≤ n) (h8 : n ≤ 8) (x : List ByteArray) (b s t : ByteArray) (k : Nat) : rowN n (headS n x b s t k) :=
  after_rowN (fun r hr v _ => hdF_row h3 h8 x b s hr v) (row_rounds h3 h8) _
/-- The touch comes round. -/
def roundP (n : Nat) (x : List ByteArray) (b s t : ByteArray) : Prop := headS n x b s t t.size = roundsS n
theorem callOf_ext {t : ByteArray} {k : Nat} (h : k < t.size) : t.extract k (k + 1) = callOf (bat t k) := by
  refine (str_ext (by unfold callOf; rw [size_mkS, size_ext]; simp; omega) fun i hi => ?_)
  rw [size_ext] at hi
  obtain rfl : i = 0 := by omega
  rw [bat_ext t k (k + 1) 0 (by omega)]
  unfold callOf
  rw [bat_mkS [bat t k] 0 (by simp) (by simpa using bat_lo _ _) (by simpa using bat_hi _ _)]
  rfl
end Go.Proofs.YtkegbbndmfnolaaGreatDoor
