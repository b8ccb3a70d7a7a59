import Derived.Test.YtkegbbndmfnolaaGreatDoorMHeardL18
import Derived.Test.YtkegbbndmfnolaaGreatDoorMHeardL19
import Derived.Test.YtkegbbndmfnolaaGreatDoorMHeardL05
/-
  Contracts: a touch comes round, what is asked of a conductor (both sides).
-/
namespace Go.Proofs.YtkegbbndmfnolaaGreatDoor
open Go.RowKit
set_option linter.unusedVariables false
set_option linter.unusedSimpArgs false
set_option maxRecDepth 100000

structure Geo (m : Mth) (b s : ByteArray) (n : Nat) : Prop where
  st : m.stage = (n : Int)
  n3 : 3 ≤ n
  n8 : n ≤ 8
  l0 : 0 < m.x.length
  l40 : m.x.length ≤ 40
  xs : ∀ c ∈ m.x, c.size ≤ 1048576
  bs : b.size ≤ 1048576
  ss : s.size ≤ 1048576
  ok : callsOk n m.x b s
theorem callsP.geo {m : Mth} {b s : ByteArray} (h : callsP m b s) : Geo m b s m.stage.toNat := by
  have hst := h.1.2.stage
  have h1 := hst.1
  have h2 := hst.2
  refine ⟨by omega, by omega, by omega, by have := h.1.2.1.1; omega, h.1.2.1.2, fun c hc => ?_, by have := h.2.1.size; omega, by have := h.2.2.size; omega, callsOk_of h.1.2.2 h.2.1 h.2.2 _⟩
  obtain ⟨i, hi, rfl⟩ := List.getElem_of_mem hc
  have := (h.1.2.2 i hi).size; omega
/-- What is asked of a method and calls in memory. -/
structure MkOk (m : Mth) (b s : ByteArray) (w : World) : Prop where
  rd : RdL w w.heap.size m.A 1 encString m.x
  nm : m.name.size ≤ 1048576
  xl : m.x.length ≤ 1048576
  xs : ∀ x ∈ m.x, String_small 1048576 x
  bs : b.size ≤ 1048576
  ss : s.size ≤ 1048576
  cp : m.x.length ≤ m.c
theorem MkOk.later {m : Mth} {b s : ByteArray} {w w' : World} (h : MkOk m b s w) (hb : Below w.heap.size w w') : MkOk m b s w' := ⟨(h.rd.below hb (Nat.le_refl _)).more hb.size, h.nm, h.xl, h.xs, h.bs, h.ss, h.cp⟩





def askP (m : Mth) (b s t : ByteArray) : Prop := callsP m b s ∧ touchP t
def condP (m : Mth) (b s : ByteArray) : Prop := callsP m b s ∧ 2 ≤ m.x.length
def isRoundP (m : Mth) (b s t : ByteArray) : Prop := askP m b s t ∧ roundP m.stage.toNat m.x b s t
theorem l9Asked_any (m : Mth) (b s t : ByteArray) (w : World) (h : MkOk m b s w) (ht : t.size ≤ 1048576) :
    Calls Tryz.prog 176 #[.agg #[Value.string m.name, .int .i64 m.stage, .slice m.A m.x.length m.c], .agg #[Value.string b, .string s], .string t] w fun e w' => e = .returned (.bool (B (askP m b s t))) ∧ Below w.heap.size w w' := by
  have hW : ∃ W : World, Hid ((w.alloc (.cells #[Value.string m.name, .int .i64 m.stage, .slice m.A m.x.length m.c] 26)).alloc (.cells #[Value.string b, .string s] 28) = W) ∧ Hid (Below w.heap.size w W) ∧ w.heap.size + 2 ≤ W.heap.size ∧ Hid (Cells W w.heap.size 3 (fun i => (#[Value.string m.name, .int .i64 m.stage, .slice m.A m.x.length m.c] : Array Value).getD i undef)) ∧ Hid (Cells W (w.heap.size + 1) 2 (fun i => (#[Value.string b, .string s] : Array Value).getD i undef)) := by
    have z1 : w.heap.size + 1 = (w.alloc (.cells #[Value.string m.name, .int .i64 m.stage, .slice m.A m.x.length m.c] 26)).heap.size := by simp
    refine ⟨_, Lib.hid rfl, Lib.hid (((Below.refl _ _).alloc (Nat.le_refl _) _).alloc (by simp) _), by simp, Lib.hid ?_, Lib.hid ?_⟩
    · exact (Cells.newD _ #[Value.string m.name, .int .i64 m.stage, .slice m.A m.x.length m.c] _).alloc _
    · rw [z1]; exact Cells.newD _ #[Value.string b, .string s] _
  obtain ⟨W, hWe, hWb, hWs, hM, hK⟩ := hW
  have H := Lib.hid (h.later hWb.out)
  clear h
  have u0 : W.cell? ⟨w.heap.size, 0, none⟩ = some (.string m.name) := hM.out.cell (i := 0) (by omega)
  have u1 : W.cell? ⟨w.heap.size, 1, none⟩ = some (.int .i64 m.stage) := hM.out.cell (i := 1) (by omega)
  have u2 : W.cell? ⟨w.heap.size, 2, none⟩ = some (.slice m.A m.x.length m.c) := hM.out.cell (i := 2) (by omega)
  have u3 : W.cell? ⟨w.heap.size + 1, 0, none⟩ = some (.string b) := hK.out.cell (i := 0) (by omega)
  have u4 : W.cell? ⟨w.heap.size + 1, 1, none⟩ = some (.string s) := hK.out.cell (i := 1) (by omega)
  by_cases c1 : callsP m b s
  · have e1 := B_t c1
    have C1 := Lib.hid c1
    clear c1
    by_cases c2 : touchP t
    all_goals
      first | have e2 := B_t c2 | have e2 := B_f c2
      have C2 := Lib.hid c2
      clear c2
      go_enter Tryz.func176, Tryz.ntmps176
      go_wp2_with fail
      rw [hWe.out]
      go_wp2_with (first | (go_at_call 116; refine (l8Good_any m b s _ H.out.rd H.out.nm H.out.xl H.out.xs H.out.bs H.out.ss).mono ?_; rintro e w' ⟨rfl, hb1⟩) | (go_at_call 117; refine (l9Good_any t _ (by omega)).mono ?_; rintro e w' ⟨rfl, rfl⟩))
      go_ret
      refine ⟨?_, hWb.out.trans (hb1.mono hWb.out.size)⟩
      first
        | (show Ending.returned (Value.bool (B (touchP t))) = _; rw [B_t C2.out, B_t (show askP m b s t from ⟨C1.out, C2.out⟩)])
        | (show Ending.returned (Value.bool (B (touchP t))) = _; rw [B_f C2.out, B_f (fun h : askP m b s t => C2.out h.2)])
        | exact ret_t ⟨C1.out, C2.out⟩
        | exact ret_f (fun h => C2.out h.2)
  · have e1 := B_f c1
    have C1 := Lib.hid c1
    clear c1
    go_enter Tryz.func176, Tryz.ntmps176
    go_wp2_with fail
    rw [hWe.out]
    go_wp2_with ((go_at_call 116; refine (l8Good_any m b s _ H.out.rd H.out.nm H.out.xl H.out.xs H.out.bs H.out.ss).mono ?_; rintro e w' ⟨rfl, hb1⟩))
    go_ret
    exact ⟨ret_f (fun h => C1.out h.1), hWb.out.trans (hb1.mono hWb.out.size)⟩
theorem l9End_any (m : Mth) (n : Nat) (b s t : ByteArray) (w : World) (h : MkOk m b s w) (hg : Geo m b s n) (ht : t.size ≤ 1048576) :
    Calls Tryz.prog 177 #[.agg #[Value.string m.name, .int .i64 m.stage, .slice m.A m.x.length m.c], .agg #[Value.string b, .string s], .string t] w fun e w' => e = .returned (.string (headS n m.x b s t t.size)) ∧ Below w.heap.size w w' := by
  have hW : ∃ W : World, Hid ((w.alloc (.cells #[Value.string m.name, .int .i64 m.stage, .slice m.A m.x.length m.c] 26)).alloc (.cells #[Value.string b, .string s] 28) = W) ∧ Hid (Below w.heap.size w W) ∧ w.heap.size + 2 ≤ W.heap.size ∧ Hid (Cells W w.heap.size 3 (fun i => (#[Value.string m.name, .int .i64 m.stage, .slice m.A m.x.length m.c] : Array Value).getD i undef)) ∧ Hid (Cells W (w.heap.size + 1) 2 (fun i => (#[Value.string b, .string s] : Array Value).getD i undef)) := by
    have z1 : w.heap.size + 1 = (w.alloc (.cells #[Value.string m.name, .int .i64 m.stage, .slice m.A m.x.length m.c] 26)).heap.size := by simp
    refine ⟨_, Lib.hid rfl, Lib.hid (((Below.refl _ _).alloc (Nat.le_refl _) _).alloc (by simp) _), by simp, Lib.hid ?_, Lib.hid ?_⟩
    · exact (Cells.newD _ #[Value.string m.name, .int .i64 m.stage, .slice m.A m.x.length m.c] _).alloc _
    · rw [z1]; exact Cells.newD _ #[Value.string b, .string s] _
  obtain ⟨W, hWe, hWb, hWs, hM, hK⟩ := hW
  have H := Lib.hid (h.later hWb.out)
  clear h
  have u0 : W.cell? ⟨w.heap.size, 0, none⟩ = some (.string m.name) := hM.out.cell (i := 0) (by omega)
  have u1 : W.cell? ⟨w.heap.size, 1, none⟩ = some (.int .i64 m.stage) := hM.out.cell (i := 1) (by omega)
  have u2 : W.cell? ⟨w.heap.size, 2, none⟩ = some (.slice m.A m.x.length m.c) := hM.out.cell (i := 2) (by omega)
  have u3 : W.cell? ⟨w.heap.size + 1, 0, none⟩ = some (.string b) := hK.out.cell (i := 0) (by omega)
  have u4 : W.cell? ⟨w.heap.size + 1, 1, none⟩ = some (.string s) := hK.out.cell (i := 1) (by omega)
  have hh : Hid (Calls Tryz.prog 199 #[.agg #[Value.string m.name, .int .i64 m.stage, .slice m.A m.x.length m.c], .agg #[Value.string b, .string s], .string t] W fun e w' => ∃ A2 c2, e = .returned (.slice A2 (t.size + 1) c2) ∧ OwnL w' W.heap.size w'.heap.size A2 1 encString (headsL n m.x b s t (t.size + 1)) ∧ Below W.heap.size W w') := Lib.hid (by rw [hg.st]; exact l9Heads_any m.name n m.x m.A m.c b s t W H.out.rd hg.n3 hg.n8 H.out.xl hg.l0 H.out.cp hg.xs hg.bs hg.ss ht)
  obtain ⟨T, hT⟩ : ∃ T, Hid (headS n m.x b s t t.size = T) := ⟨_, Lib.hid rfl⟩
  clear hg
  go_enter Tryz.func177, Tryz.ntmps177
  go_wp2_with fail
  rw [hWe.out]
  clear hWe
  go_wp2_with (go_at_call 199; refine hh.out.mono ?_; rintro e w1 ⟨A2, c2, rfl, ho, hb1⟩; obtain ⟨g, rfl, _, _, _⟩ := ho.someStr (by unfold headsL; rw [walkL_len]; omega); have q0 := (ho.cellStr t.size (by unfold headsL; rw [walkL_len]; omega)).1; rw [show (headsL n m.x b s t (t.size + 1))[t.size]'(by unfold headsL; rw [walkL_len]; omega) = headS n m.x b s t t.size from walkL_at _ _ _ _ _ _] at q0; rw [hT.out] at q0; clear ho)
  go_ret
  exact ⟨ret_str hT.out.symm, hWb.out.trans (hb1.mono hWb.out.size)⟩
set_option maxHeartbeats 1600000 in
theorem sIsRound_any (m : Mth) (b s t : ByteArray) (w : World) (h : MkOk m b s w) (ht : t.size ≤ 1048576) :
    Calls Tryz.prog 146 #[.agg #[Value.string m.name, .int .i64 m.stage, .slice m.A m.x.length m.c], .agg #[Value.string b, .string s], .string t] w fun e w' => e = .returned (.tuple #[.bool (B (isRoundP m b s t)), .bool (B (askP m b s t))]) ∧ Below w.heap.size w w' := by
  by_cases c1 : askP m b s t
  · have hg := c1.1.geo
    generalize hn : m.stage.toNat = n at hg
    have hR : Hid (B (isRoundP m b s t) = B (headS n m.x b s t t.size = roundsS n)) := Lib.hid (B_iff ⟨fun x => by have := x.2; unfold roundP at this; rw [hn] at this; exact this, fun x => ⟨c1, by unfold roundP; rw [hn]; exact x⟩⟩)
    have e1 := B_t c1
    have C1 := Lib.hid c1
    clear c1
    have hW : ∃ W : World, Hid ((w.alloc (.cells #[Value.string m.name, .int .i64 m.stage, .slice m.A m.x.length m.c] 26)).alloc (.cells #[Value.string b, .string s] 28) = W) ∧ Hid (Below w.heap.size w W) ∧ w.heap.size + 2 ≤ W.heap.size ∧ Hid (Cells W w.heap.size 3 (fun i => (#[Value.string m.name, .int .i64 m.stage, .slice m.A m.x.length m.c] : Array Value).getD i undef)) ∧ Hid (Cells W (w.heap.size + 1) 2 (fun i => (#[Value.string b, .string s] : Array Value).getD i undef)) := by
      have z1 : w.heap.size + 1 = (w.alloc (.cells #[Value.string m.name, .int .i64 m.stage, .slice m.A m.x.length m.c] 26)).heap.size := by simp
      refine ⟨_, Lib.hid rfl, Lib.hid (((Below.refl _ _).alloc (Nat.le_refl _) _).alloc (by simp) _), by simp, Lib.hid ?_, Lib.hid ?_⟩
      · exact (Cells.newD _ #[Value.string m.name, .int .i64 m.stage, .slice m.A m.x.length m.c] _).alloc _
      · rw [z1]; exact Cells.newD _ #[Value.string b, .string s] _
    obtain ⟨W, hWe, hWb, hWs, hM, hK⟩ := hW
    have H := Lib.hid (h.later hWb.out)
    clear h
    have u0 : W.cell? ⟨w.heap.size, 0, none⟩ = some (.string m.name) := hM.out.cell (i := 0) (by omega)
    have u1 : W.cell? ⟨w.heap.size, 1, none⟩ = some (.int .i64 m.stage) := hM.out.cell (i := 1) (by omega)
    have u2 : W.cell? ⟨w.heap.size, 2, none⟩ = some (.slice m.A m.x.length m.c) := hM.out.cell (i := 2) (by omega)
    have u3 : W.cell? ⟨w.heap.size + 1, 0, none⟩ = some (.string b) := hK.out.cell (i := 0) (by omega)
    have u4 : W.cell? ⟨w.heap.size + 1, 1, none⟩ = some (.string s) := hK.out.cell (i := 1) (by omega)
    have hh : Hid (∀ w1, Below W.heap.size W w1 → ∀ y : Later w1, Calls Tryz.prog 177 #[.agg #[Value.string m.name, .int .i64 m.stage, .slice m.A m.x.length m.c], .agg #[Value.string b, .string s], .string t] y.W fun e w' => e = .returned (.string (headS n m.x b s t t.size)) ∧ Below y.W.heap.size y.W w') := Lib.hid (fun w1 hb1 y => l9End_any m n b s t y.W ((H.out.later hb1).later y.hb) hg ht)
    have hrn : Hid (∀ w, Calls Tryz.prog 120 #[.int .i64 m.stage] w fun e w' => e = .returned (.string (roundsS n)) ∧ w = w') := Lib.hid (fun w => by rw [hg.st]; exact l1Rounds_any n w (by have := hg.n3; omega) (by have := hg.n8; omega))
    clear hg hn
    generalize B (isRoundP m b s t) = RB at *
    generalize headS n m.x b s t t.size = T at *
    generalize roundsS (n : Int) = R0 at *
    by_cases hc : T = R0
    all_goals
      first | have e2 := eqB_t hc | have e2 := eqB_f hc
      have Hc := Lib.hid hc
      clear hc
      go_enter Tryz.func146, Tryz.ntmps146
      go_wp2_with fail
      rw [hWe.out]
      clear hWe
      go_upto_region 3 with (go_at_call 176; refine (l9Asked_any m b s t _ H.out ht).mono ?_; rintro e w1 ⟨rfl, hb1⟩; have Hb1 := Lib.hid hb1; have hs1 := hb1.size; have q0 : w1.cell? ⟨w.heap.size, 0, none⟩ = some (.string m.name) := (hb1.cell (p := ⟨w.heap.size, 0, none⟩) (show w.heap.size < W.heap.size by omega)).trans u0; have q1 : w1.cell? ⟨w.heap.size, 1, none⟩ = some (.int .i64 m.stage) := (hb1.cell (p := ⟨w.heap.size, 1, none⟩) (show w.heap.size < W.heap.size by omega)).trans u1; have q2 : w1.cell? ⟨w.heap.size, 2, none⟩ = some (.slice m.A m.x.length m.c) := (hb1.cell (p := ⟨w.heap.size, 2, none⟩) (show w.heap.size < W.heap.size by omega)).trans u2; have q3 : w1.cell? ⟨w.heap.size + 1, 0, none⟩ = some (.string b) := (hb1.cell (p := ⟨w.heap.size + 1, 0, none⟩) (show w.heap.size + 1 < W.heap.size by omega)).trans u3; have q4 : w1.cell? ⟨w.heap.size + 1, 1, none⟩ = some (.string s) := (hb1.cell (p := ⟨w.heap.size + 1, 1, none⟩) (show w.heap.size + 1 < W.heap.size by omega)).trans u4; clear u0 u1 u2 u3 u4 hb1)
      have f0 := Later.cell q0 (show w.heap.size < w1.heap.size by omega)
      have f1 := Later.cell q1 (show w.heap.size < w1.heap.size by omega)
      have f2 := Later.cell q2 (show w.heap.size < w1.heap.size by omega)
      have f3 := Later.cell q3 (show w.heap.size + 1 < w1.heap.size by omega)
      have f4 := Later.cell q4 (show w.heap.size + 1 < w1.heap.size by omega)
      (refine wp_region_later (by kernel_rfl) (by kernel_rfl) ?_; (repeat (go_big_quiet_step ((first | (go_at_call 177; exact Later.call (hh.out _ Hb1.out _)) | (go_at_call 120; exact Later.same (hrn.out _)))))); refine wpQuiet_nil ?_; intro _ hw'; obtain ⟨y, hw''⟩ := hw'; subst hw'')
      go_wp2
      go_ret2
      refine ⟨?_, (hWb.out.trans (Hb1.out.mono hWb.out.size)).trans (y.hb.mono (by omega))⟩
      first
        | (rw [hR.out, B_t Hc.out, e1]; rfl)
        | (rw [hR.out, B_f Hc.out, e1]; rfl)
  · have e1 := B_f c1
    have e2 := B_f (fun h : isRoundP m b s t => c1 h.1)
    have C1 := Lib.hid c1
    clear c1
    have hW : ∃ W : World, Hid ((w.alloc (.cells #[Value.string m.name, .int .i64 m.stage, .slice m.A m.x.length m.c] 26)).alloc (.cells #[Value.string b, .string s] 28) = W) ∧ Hid (Below w.heap.size w W) ∧ w.heap.size + 2 ≤ W.heap.size ∧ Hid (Cells W w.heap.size 3 (fun i => (#[Value.string m.name, .int .i64 m.stage, .slice m.A m.x.length m.c] : Array Value).getD i undef)) ∧ Hid (Cells W (w.heap.size + 1) 2 (fun i => (#[Value.string b, .string s] : Array Value).getD i undef)) := by
      have z1 : w.heap.size + 1 = (w.alloc (.cells #[Value.string m.name, .int .i64 m.stage, .slice m.A m.x.length m.c] 26)).heap.size := by simp
      refine ⟨_, Lib.hid rfl, Lib.hid (((Below.refl _ _).alloc (Nat.le_refl _) _).alloc (by simp) _), by simp, Lib.hid ?_, Lib.hid ?_⟩
      · exact (Cells.newD _ #[Value.string m.name, .int .i64 m.stage, .slice m.A m.x.length m.c] _).alloc _
      · rw [z1]; exact Cells.newD _ #[Value.string b, .string s] _
    obtain ⟨W, hWe, hWb, hWs, hM, hK⟩ := hW
    have H := Lib.hid (h.later hWb.out)
    clear h
    have u0 : W.cell? ⟨w.heap.size, 0, none⟩ = some (.string m.name) := hM.out.cell (i := 0) (by omega)
    have u1 : W.cell? ⟨w.heap.size, 1, none⟩ = some (.int .i64 m.stage) := hM.out.cell (i := 1) (by omega)
    have u2 : W.cell? ⟨w.heap.size, 2, none⟩ = some (.slice m.A m.x.length m.c) := hM.out.cell (i := 2) (by omega)
    have u3 : W.cell? ⟨w.heap.size + 1, 0, none⟩ = some (.string b) := hK.out.cell (i := 0) (by omega)
    have u4 : W.cell? ⟨w.heap.size + 1, 1, none⟩ = some (.string s) := hK.out.cell (i := 1) (by omega)
    go_enter Tryz.func146, Tryz.ntmps146
    go_wp2_with fail
    rw [hWe.out]
    clear hWe
    go_wp2_with (go_at_call 176; refine (l9Asked_any m b s t _ H.out ht).mono ?_; rintro e w1 ⟨rfl, hb1⟩)
    go_ret2
    exact ⟨by rw [e2, e1]; rfl, hWb.out.trans (hb1.mono hWb.out.size)⟩
theorem l26Round_any (m : Mth) (b s t : ByteArray) (w : World) (h : MkOk m b s w) (ht : t.size ≤ 1048576) :
    Calls Tryz.prog 98 #[.agg #[Value.string m.name, .int .i64 m.stage, .slice m.A m.x.length m.c], .agg #[Value.string b, .string s], .string t] w fun e w' => e = .returned (.bool (B (isRoundP m b s t))) ∧ Below w.heap.size w w' := by
  by_cases c1 : askP m b s t
  · have e1 := B_t c1
    clear c1
    generalize hR : B (isRoundP m b s t) = RB
    have HR := Lib.hid hR
    clear hR
    have hW : ∃ W : World, Hid ((w.alloc (.cells #[Value.string m.name, .int .i64 m.stage, .slice m.A m.x.length m.c] 26)).alloc (.cells #[Value.string b, .string s] 28) = W) ∧ Hid (Below w.heap.size w W) ∧ w.heap.size + 2 ≤ W.heap.size ∧ Hid (Cells W w.heap.size 3 (fun i => (#[Value.string m.name, .int .i64 m.stage, .slice m.A m.x.length m.c] : Array Value).getD i undef)) ∧ Hid (Cells W (w.heap.size + 1) 2 (fun i => (#[Value.string b, .string s] : Array Value).getD i undef)) := by
      have z1 : w.heap.size + 1 = (w.alloc (.cells #[Value.string m.name, .int .i64 m.stage, .slice m.A m.x.length m.c] 26)).heap.size := by simp
      refine ⟨_, Lib.hid rfl, Lib.hid (((Below.refl _ _).alloc (Nat.le_refl _) _).alloc (by simp) _), by simp, Lib.hid ?_, Lib.hid ?_⟩
      · exact (Cells.newD _ #[Value.string m.name, .int .i64 m.stage, .slice m.A m.x.length m.c] _).alloc _
      · rw [z1]; exact Cells.newD _ #[Value.string b, .string s] _
    obtain ⟨W, hWe, hWb, hWs, hM, hK⟩ := hW
    have H := Lib.hid (h.later hWb.out)
    clear h
    have u0 : W.cell? ⟨w.heap.size, 0, none⟩ = some (.string m.name) := hM.out.cell (i := 0) (by omega)
    have u1 : W.cell? ⟨w.heap.size, 1, none⟩ = some (.int .i64 m.stage) := hM.out.cell (i := 1) (by omega)
    have u2 : W.cell? ⟨w.heap.size, 2, none⟩ = some (.slice m.A m.x.length m.c) := hM.out.cell (i := 2) (by omega)
    have u3 : W.cell? ⟨w.heap.size + 1, 0, none⟩ = some (.string b) := hK.out.cell (i := 0) (by omega)
    have u4 : W.cell? ⟨w.heap.size + 1, 1, none⟩ = some (.string s) := hK.out.cell (i := 1) (by omega)
    go_enter Tryz.func98, Tryz.ntmps98
    go_wp2_with fail
    rw [hWe.out]
    clear hWe
    go_wp2_with (go_at_call 146; refine (sIsRound_any m b s t _ H.out ht).mono ?_; rintro e w1 ⟨he, hb1⟩; rw [HR.out, e1] at he; subst he)
    go_ret
    exact ⟨rfl, hWb.out.trans (hb1.mono hWb.out.size)⟩
  · have e1 := B_f c1
    have e2 := B_f (fun h : isRoundP m b s t => c1 h.1)
    clear c1
    have hW : ∃ W : World, Hid ((w.alloc (.cells #[Value.string m.name, .int .i64 m.stage, .slice m.A m.x.length m.c] 26)).alloc (.cells #[Value.string b, .string s] 28) = W) ∧ Hid (Below w.heap.size w W) ∧ w.heap.size + 2 ≤ W.heap.size ∧ Hid (Cells W w.heap.size 3 (fun i => (#[Value.string m.name, .int .i64 m.stage, .slice m.A m.x.length m.c] : Array Value).getD i undef)) ∧ Hid (Cells W (w.heap.size + 1) 2 (fun i => (#[Value.string b, .string s] : Array Value).getD i undef)) := by
      have z1 : w.heap.size + 1 = (w.alloc (.cells #[Value.string m.name, .int .i64 m.stage, .slice m.A m.x.length m.c] 26)).heap.size := by simp
      refine ⟨_, Lib.hid rfl, Lib.hid (((Below.refl _ _).alloc (Nat.le_refl _) _).alloc (by simp) _), by simp, Lib.hid ?_, Lib.hid ?_⟩
      · exact (Cells.newD _ #[Value.string m.name, .int .i64 m.stage, .slice m.A m.x.length m.c] _).alloc _
      · rw [z1]; exact Cells.newD _ #[Value.string b, .string s] _
    obtain ⟨W, hWe, hWb, hWs, hM, hK⟩ := hW
    have H := Lib.hid (h.later hWb.out)
    clear h
    have u0 : W.cell? ⟨w.heap.size, 0, none⟩ = some (.string m.name) := hM.out.cell (i := 0) (by omega)
    have u1 : W.cell? ⟨w.heap.size, 1, none⟩ = some (.int .i64 m.stage) := hM.out.cell (i := 1) (by omega)
    have u2 : W.cell? ⟨w.heap.size, 2, none⟩ = some (.slice m.A m.x.length m.c) := hM.out.cell (i := 2) (by omega)
    have u3 : W.cell? ⟨w.heap.size + 1, 0, none⟩ = some (.string b) := hK.out.cell (i := 0) (by omega)
    have u4 : W.cell? ⟨w.heap.size + 1, 1, none⟩ = some (.string s) := hK.out.cell (i := 1) (by omega)
    go_enter Tryz.func98, Tryz.ntmps98
    go_wp2_with fail
    rw [hWe.out]
    clear hWe
    go_wp2_with (go_at_call 146; refine (sIsRound_any m b s t _ H.out ht).mono ?_; rintro e w1 ⟨he, hb1⟩; rw [e2, e1] at he; subst he)
    go_ret
    exact ⟨by rw [e2]; rfl, hWb.out.trans (hb1.mono hWb.out.size)⟩

set_option maxHeartbeats 1600000 in
theorem goodConductor_any (m : Mth) (b s : ByteArray) (w : World) (h : MkOk m b s w) :
    Calls Tryz.prog 144 #[.agg #[Value.string m.name, .int .i64 m.stage, .slice m.A m.x.length m.c], .agg #[Value.string b, .string s]] w fun e w' => e = .returned (.bool (B (condP m b s))) ∧ Below w.heap.size w w' := by
  have hW : ∃ W : World, Hid ((w.alloc (.cells #[Value.string m.name, .int .i64 m.stage, .slice m.A m.x.length m.c] 26)).alloc (.cells #[Value.string b, .string s] 28) = W) ∧ Hid (Below w.heap.size w W) ∧ w.heap.size + 2 ≤ W.heap.size ∧ Hid (Cells W w.heap.size 3 (fun i => (#[Value.string m.name, .int .i64 m.stage, .slice m.A m.x.length m.c] : Array Value).getD i undef)) ∧ Hid (Cells W (w.heap.size + 1) 2 (fun i => (#[Value.string b, .string s] : Array Value).getD i undef)) := by
    have z1 : w.heap.size + 1 = (w.alloc (.cells #[Value.string m.name, .int .i64 m.stage, .slice m.A m.x.length m.c] 26)).heap.size := by simp
    refine ⟨_, Lib.hid rfl, Lib.hid (((Below.refl _ _).alloc (Nat.le_refl _) _).alloc (by simp) _), by simp, Lib.hid ?_, Lib.hid ?_⟩
    · exact (Cells.newD _ #[Value.string m.name, .int .i64 m.stage, .slice m.A m.x.length m.c] _).alloc _
    · rw [z1]; exact Cells.newD _ #[Value.string b, .string s] _
  obtain ⟨W, hWe, hWb, hWs, hM, hK⟩ := hW
  have H := Lib.hid (h.later hWb.out)
  clear h
  have u0 : W.cell? ⟨w.heap.size, 0, none⟩ = some (.string m.name) := hM.out.cell (i := 0) (by omega)
  have u1 : W.cell? ⟨w.heap.size, 1, none⟩ = some (.int .i64 m.stage) := hM.out.cell (i := 1) (by omega)
  have u2 : W.cell? ⟨w.heap.size, 2, none⟩ = some (.slice m.A m.x.length m.c) := hM.out.cell (i := 2) (by omega)
  have u3 : W.cell? ⟨w.heap.size + 1, 0, none⟩ = some (.string b) := hK.out.cell (i := 0) (by omega)
  have u4 : W.cell? ⟨w.heap.size + 1, 1, none⟩ = some (.string s) := hK.out.cell (i := 1) (by omega)
  by_cases c1 : callsP m b s
  · have e1 := B_t c1
    have C1 := Lib.hid c1
    clear c1
    by_cases c2 : 2 ≤ m.x.length
    all_goals
      first | have d2 : decide (2 ≤ m.x.length) = true := decide_eq_true c2 | have d2 : decide (2 ≤ m.x.length) = false := decide_eq_false c2
      have C2 := Lib.hid c2
      go_enter Tryz.func144, Tryz.ntmps144
      go_wp2_with fail
      rw [hWe.out]
      clear hWe
      go_wp2_with (go_at_call 70; refine (goodCalls_any m b s _ H.out.rd H.out.nm H.out.xl H.out.xs H.out.bs H.out.ss).mono ?_; rintro e w1 ⟨rfl, hb1⟩; have q0 : w1.cell? ⟨w.heap.size, 0, none⟩ = some (.string m.name) := (hb1.cell (p := ⟨w.heap.size, 0, none⟩) (show w.heap.size < W.heap.size by omega)).trans u0; have q1 : w1.cell? ⟨w.heap.size, 1, none⟩ = some (.int .i64 m.stage) := (hb1.cell (p := ⟨w.heap.size, 1, none⟩) (show w.heap.size < W.heap.size by omega)).trans u1; have q2 : w1.cell? ⟨w.heap.size, 2, none⟩ = some (.slice m.A m.x.length m.c) := (hb1.cell (p := ⟨w.heap.size, 2, none⟩) (show w.heap.size < W.heap.size by omega)).trans u2; have q3 : w1.cell? ⟨w.heap.size + 1, 0, none⟩ = some (.string b) := (hb1.cell (p := ⟨w.heap.size + 1, 0, none⟩) (show w.heap.size + 1 < W.heap.size by omega)).trans u3; have q4 : w1.cell? ⟨w.heap.size + 1, 1, none⟩ = some (.string s) := (hb1.cell (p := ⟨w.heap.size + 1, 1, none⟩) (show w.heap.size + 1 < W.heap.size by omega)).trans u4)
      go_ret
      refine ⟨?_, hWb.out.trans (hb1.mono hWb.out.size)⟩
      first
        | exact ret_t ⟨C1.out, C2.out⟩
        | exact ret_f (fun h => C2.out h.2)
        | (rw [B_t (show condP m b s from ⟨C1.out, C2.out⟩)]; simp; omega)
        | (rw [B_f (fun h : condP m b s => C2.out h.2)]; simp; omega)
  · have e1 := B_f c1
    have C1 := Lib.hid c1
    clear c1
    go_enter Tryz.func144, Tryz.ntmps144
    go_wp2_with fail
    rw [hWe.out]
    clear hWe
    go_wp2_with (go_at_call 70; refine (goodCalls_any m b s _ H.out.rd H.out.nm H.out.xl H.out.xs H.out.bs H.out.ss).mono ?_; rintro e w1 ⟨rfl, hb1⟩)
    go_ret
    exact ⟨ret_f (fun h => C1.out h.1), hWb.out.trans (hb1.mono hWb.out.size)⟩
set_option maxHeartbeats 1600000 in
theorem l26Asked_any (m : Mth) (b s : ByteArray) (w : World) (h : MkOk m b s w) :
    Calls Tryz.prog 97 #[.agg #[Value.string m.name, .int .i64 m.stage, .slice m.A m.x.length m.c], .agg #[Value.string b, .string s]] w fun e w' => e = .returned (.bool (B (condP m b s))) ∧ Below w.heap.size w w' := by
  have hW : ∃ W : World, Hid ((w.alloc (.cells #[Value.string m.name, .int .i64 m.stage, .slice m.A m.x.length m.c] 26)).alloc (.cells #[Value.string b, .string s] 28) = W) ∧ Hid (Below w.heap.size w W) ∧ w.heap.size + 2 ≤ W.heap.size ∧ Hid (Cells W w.heap.size 3 (fun i => (#[Value.string m.name, .int .i64 m.stage, .slice m.A m.x.length m.c] : Array Value).getD i undef)) ∧ Hid (Cells W (w.heap.size + 1) 2 (fun i => (#[Value.string b, .string s] : Array Value).getD i undef)) := by
    have z1 : w.heap.size + 1 = (w.alloc (.cells #[Value.string m.name, .int .i64 m.stage, .slice m.A m.x.length m.c] 26)).heap.size := by simp
    refine ⟨_, Lib.hid rfl, Lib.hid (((Below.refl _ _).alloc (Nat.le_refl _) _).alloc (by simp) _), by simp, Lib.hid ?_, Lib.hid ?_⟩
    · exact (Cells.newD _ #[Value.string m.name, .int .i64 m.stage, .slice m.A m.x.length m.c] _).alloc _
    · rw [z1]; exact Cells.newD _ #[Value.string b, .string s] _
  obtain ⟨W, hWe, hWb, hWs, hM, hK⟩ := hW
  have H := Lib.hid (h.later hWb.out)
  clear h
  have u0 : W.cell? ⟨w.heap.size, 0, none⟩ = some (.string m.name) := hM.out.cell (i := 0) (by omega)
  have u1 : W.cell? ⟨w.heap.size, 1, none⟩ = some (.int .i64 m.stage) := hM.out.cell (i := 1) (by omega)
  have u2 : W.cell? ⟨w.heap.size, 2, none⟩ = some (.slice m.A m.x.length m.c) := hM.out.cell (i := 2) (by omega)
  have u3 : W.cell? ⟨w.heap.size + 1, 0, none⟩ = some (.string b) := hK.out.cell (i := 0) (by omega)
  have u4 : W.cell? ⟨w.heap.size + 1, 1, none⟩ = some (.string s) := hK.out.cell (i := 1) (by omega)
  by_cases c1 : callsP m b s
  · have e1 := B_t c1
    have C1 := Lib.hid c1
    clear c1
    by_cases c2 : 2 ≤ m.x.length
    all_goals
      first | have d2 : decide (2 ≤ m.x.length) = true := decide_eq_true c2 | have d2 : decide (2 ≤ m.x.length) = false := decide_eq_false c2
      have C2 := Lib.hid c2
      go_enter Tryz.func97, Tryz.ntmps97
      go_wp2_with fail
      rw [hWe.out]
      clear hWe
      go_wp2_with (go_at_call 116; refine (l8Good_any m b s _ H.out.rd H.out.nm H.out.xl H.out.xs H.out.bs H.out.ss).mono ?_; rintro e w1 ⟨rfl, hb1⟩; have q0 : w1.cell? ⟨w.heap.size, 0, none⟩ = some (.string m.name) := (hb1.cell (p := ⟨w.heap.size, 0, none⟩) (show w.heap.size < W.heap.size by omega)).trans u0; have q1 : w1.cell? ⟨w.heap.size, 1, none⟩ = some (.int .i64 m.stage) := (hb1.cell (p := ⟨w.heap.size, 1, none⟩) (show w.heap.size < W.heap.size by omega)).trans u1; have q2 : w1.cell? ⟨w.heap.size, 2, none⟩ = some (.slice m.A m.x.length m.c) := (hb1.cell (p := ⟨w.heap.size, 2, none⟩) (show w.heap.size < W.heap.size by omega)).trans u2; have q3 : w1.cell? ⟨w.heap.size + 1, 0, none⟩ = some (.string b) := (hb1.cell (p := ⟨w.heap.size + 1, 0, none⟩) (show w.heap.size + 1 < W.heap.size by omega)).trans u3; have q4 : w1.cell? ⟨w.heap.size + 1, 1, none⟩ = some (.string s) := (hb1.cell (p := ⟨w.heap.size + 1, 1, none⟩) (show w.heap.size + 1 < W.heap.size by omega)).trans u4)
      go_ret
      refine ⟨?_, hWb.out.trans (hb1.mono hWb.out.size)⟩
      first
        | exact ret_t ⟨C1.out, C2.out⟩
        | exact ret_f (fun h => C2.out h.2)
        | (rw [B_t (show condP m b s from ⟨C1.out, C2.out⟩)]; simp; omega)
        | (rw [B_f (fun h : condP m b s => C2.out h.2)]; simp; omega)
  · have e1 := B_f c1
    have C1 := Lib.hid c1
    clear c1
    go_enter Tryz.func97, Tryz.ntmps97
    go_wp2_with fail
    rw [hWe.out]
    clear hWe
    go_wp2_with (go_at_call 116; refine (l8Good_any m b s _ H.out.rd H.out.nm H.out.xl H.out.xs H.out.bs H.out.ss).mono ?_; rintro e w1 ⟨rfl, hb1⟩)
    go_ret
    exact ⟨ret_f (fun h => C1.out h.1), hWb.out.trans (hb1.mono hWb.out.size)⟩
end Go.Proofs.YtkegbbndmfnolaaGreatDoor
