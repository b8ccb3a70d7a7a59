import Derived.Test.YtkegbbndmfnolaaGreatDoorMHeardL12
import Derived.Test.YtkegbbndmfnolaaGreatDoorMHeardL16
/-
  Contracts: lead heads with a call (both sides).
-/
namespace Go.Proofs.YtkegbbndmfnolaaGreatDoor
open Go.RowKit
set_option linter.unusedVariables false
set_option linter.unusedSimpArgs false
set_option maxRecDepth 100000










set_option maxHeartbeats 1600000 in
theorem leadHead_any (nm : ByteArray) (n : Nat) (x : List ByteArray) (A : Option Addr) (c : Nat) (w : World) (h : RdL w w.heap.size A 1 encString x) (h3 : 3 ≤ n) (h8 : n ≤ 8) (hl : x.length ≤ 1048576) (hx : chgOk x) :
    Calls Tryz.prog 181 #[.agg #[Value.string nm, .int .i64 (n : Int), .slice A x.length c]] w fun e w' => e = .returned (.string (after (chF n) (roundsS n) x x.length)) ∧ Below w.heap.size w w' := by
  have Hx := Lib.hid hx
  have hrow := row_rounds h3 h8
  have Hrow := Lib.hid hrow
  clear hx hrow
  have hW : ∃ W : World, Hid (w.alloc (.cells #[Value.string nm, .int .i64 (n : Int), .slice A x.length c] 26) = W) ∧ Hid (Below w.heap.size w W) ∧ w.heap.size + 1 ≤ W.heap.size ∧ Hid (Cells W w.heap.size 3 (fun i => (#[Value.string nm, .int .i64 (n : Int), .slice A x.length c] : Array Value).getD i undef)) :=
    ⟨_, Lib.hid rfl, Lib.hid ((Below.refl _ _).alloc (Nat.le_refl _) _), by simp, Lib.hid (Cells.newD _ #[Value.string nm, .int .i64 (n : Int), .slice A x.length c] _)⟩
  obtain ⟨W, hWe, hWb, hWs, hM⟩ := hW
  have H := Lib.hid (show RdL W W.heap.size A 1 encString x from (h.below hWb.out (Nat.le_refl _)).more hWb.out.size)
  clear h
  have u0 : W.cell? ⟨w.heap.size, 0, none⟩ = some (.string nm) := hM.out.cell (i := 0) (by omega)
  have u1 : W.cell? ⟨w.heap.size, 1, none⟩ = some (.int .i64 (n : Int)) := hM.out.cell (i := 1) (by omega)
  have u2 : W.cell? ⟨w.heap.size, 2, none⟩ = some (.slice A x.length c) := hM.out.cell (i := 2) (by omega)
  have f0 := Later.cell u0 (show w.heap.size < W.heap.size by omega)
  have f1 := Later.cell u1 (show w.heap.size < W.heap.size by omega)
  have f2 := Later.cell u2 (show w.heap.size < W.heap.size by omega)
  go_enter Tryz.func181, Tryz.ntmps181
  go_wp2_with fail
  rw [hWe.out]
  clear hWe
  refine wp_region_G (by kernel_rfl) [.q, .q, .s (fun _ u lo hi w' => u = .string (roundsS n)), .q, .q, .s (fun _ u lo hi w' => (∃ A2 c2, u = .slice A2 (x.length + 1) c2 ∧ OwnL w' lo hi A2 1 encString (walkL (chF n) (roundsS n) x (x.length + 1)))), .q] [0, 0, 1, 0, 0, 1, 0] rfl 3 (by kernel_rfl) (inC W) (W).heap.size (inC.size W) (inC.of (Below.refl _ _).drew) ?_
  (refine wpG_quiets 2 _ _ _ _ (by first | exact cls_none rfl | exact fun w h => h.1) (by intro j hj; rcases j with _ | _ | _ | _ | _ | _ | _ | _ | _ | _ | j <;> first | exact ⟨rfl, ⟨_, rfl, rfl⟩, rfl⟩ | (exfalso; omega)) ?_; simp only [List.take_succ_cons, List.take_zero, List.drop_succ_cons, List.drop_zero, Nat.zero_add, Nat.reduceAdd]; change wpQuiet _ _ (fun wq9 => ∃ x : Later W, wq9 = x.W) _ _ _; (repeat (go_big_quiet_step (fail))); refine wpQuiet_nil ?_; try dsimp only)
  (refine wpG_call _ rfl rfl rfl rfl (fun u lo hi => loc_pure _) 113 #[.int .i64 (n : Int)] (by intro w; go_simp) (by intro w1 hw1 hd; (refine (rounds_any n _ (by omega) (by omega)).mono ?_; rintro e w2 ⟨rfl, rfl⟩; exact ⟨_, rfl, hw1, eff_of_below (Below.refl _ _), rfl⟩)) ?_)
  (intro u5 lo5 hi5 hsat; obtain ⟨w1, hw1⟩ := hsat; have hr : u5 = .string (roundsS n) := (hw1.rec rfl 2).2.2; obtain rfl := hr; clear hw1; simp only [Act.put, List.setIfInBounds_toArray, List.set_cons_zero, List.set_cons_succ, Nat.reduceAdd])
  (refine wpG_quiets 2 _ _ _ _ (by first | exact cls_none rfl | exact fun w h => h.1) (by intro j hj; rcases j with _ | _ | _ | _ | _ | _ | _ | _ | _ | _ | j <;> first | exact ⟨rfl, ⟨_, rfl, rfl⟩, rfl⟩ | (exfalso; omega)) ?_; simp only [List.take_succ_cons, List.take_zero, List.drop_succ_cons, List.drop_zero, Nat.zero_add, Nat.reduceAdd]; change wpQuiet _ _ (fun wq9 => ∃ x : Later W, wq9 = x.W) _ _ _; (repeat (go_big_quiet_step (fail))); refine wpQuiet_nil ?_; try dsimp only)
  (refine wpG_call _ rfl rfl rfl rfl (fun u lo hi => loc_ex fun A => loc_ex fun c => loc_and (loc_pure _) (loc_own (Nat.le_refl _) (Nat.le_refl _))) 180 #[.string (roundsS n), .slice A x.length c] (by intro w; go_simp) (by intro w1 hw1 hd; (refine (rowsUnder_any n (roundsS n) x A c _ ((H.out.below hw1.below (Nat.le_refl _)).more hw1.below.size) h3 h8 Hrow.out hl Hx.out).mono ?_; rintro e w2 ⟨A2, c2, rfl, ho, hb⟩; exact ⟨_, rfl, hw1.step hb, eff_of_below hb, A2, c2, by rw [walkL_len], ho⟩)) ?_)
  (intro u lo hi hsat; obtain ⟨w1, hw1⟩ := hsat; have hr : ∃ A2 c2, u = .slice A2 (x.length + 1) c2 ∧ OwnL w1 lo hi A2 1 encString (walkL (chF n) (roundsS n) x (x.length + 1)) := (hw1.rec rfl 5).2.2; obtain ⟨A2, c2, rfl, _⟩ := hr; clear hw1; simp only [Act.put, List.setIfInBounds_toArray, List.set_cons_zero, List.set_cons_succ, Nat.reduceAdd])
  (refine wpG_quiets 1 _ _ _ _ (by first | exact cls_none rfl | exact fun w h => h.1) (by intro j hj; rcases j with _ | _ | _ | _ | _ | _ | _ | _ | _ | _ | j <;> first | exact ⟨rfl, ⟨_, rfl, rfl⟩, rfl⟩ | (exfalso; omega)) ?_; simp only [List.take_succ_cons, List.take_zero, List.drop_succ_cons, List.drop_zero, Nat.zero_add, Nat.reduceAdd]; change wpQuiet _ _ (fun wq9 => ∃ x : Later W, wq9 = x.W) _ _ _; (repeat (go_big_quiet_step (fail))); refine wpQuiet_nil ?_; try dsimp only)
  intro wz hz
  have hr1 : ∃ A c, Value.slice A2 (x.length + 1) c2 = .slice A (x.length + 1) c ∧ OwnL wz lo hi A 1 encString (walkL (chF n) (roundsS n) x (x.length + 1)) := (hz.rec rfl 5).2.2
  obtain ⟨A4, c4, hAe, hO⟩ := hr1
  obtain ⟨rfl, rfl⟩ : A2 = A4 ∧ c2 = c4 := by simpa using hAe
  have hbz := Lib.hid (hz.cls rfl).below
  have hlen := walkL_len (chF n) (roundsS n) x (x.length + 1)
  obtain ⟨g, hA2, _, _, _⟩ := hO.someStr (by rw [hlen]; omega)
  subst hA2
  obtain ⟨t0, _⟩ := hO.cellStr x.length (by rw [hlen]; omega)
  rw [walkL_at] at t0
  obtain ⟨T, hT⟩ : ∃ T, Hid (after (chF n) (roundsS n) x x.length = T) := ⟨_, Lib.hid rfl⟩
  rw [hT.out] at t0
  clear hz hAe hO hlen f0 f1 f2 u0 u1 u2
  go_wp2
  go_ret
  exact ⟨ret_str hT.out.symm, hWb.out.trans (hbz.out.mono hWb.out.size)⟩
set_option maxHeartbeats 1600000 in
theorem callHead_any (nm : ByteArray) (n : Nat) (x : List ByteArray) (A : Option Addr) (c : Nat) (b s call : ByteArray) (w : World) (h : RdL w w.heap.size A 1 encString x) (h3 : 3 ≤ n) (h8 : n ≤ 8) (hl : x.length ≤ 1048576) (h0 : 0 < x.length) (hx : chgOk (calledX x b s call)) :
    Calls Tryz.prog 154 #[.agg #[Value.string nm, .int .i64 (n : Int), .slice A x.length c], .agg #[Value.string b, .string s], .string call] w fun e w' => e = .returned (.string (hdS n x b s call)) ∧ Below w.heap.size w w' := by
  have Hx := Lib.hid hx
  clear hx
  have hW : ∃ W : World, Hid ((w.alloc (.cells #[Value.string nm, .int .i64 (n : Int), .slice A x.length c] 26)).alloc (.cells #[Value.string b, .string s] 28) = W) ∧ Hid (Below w.heap.size w W) ∧ w.heap.size + 2 ≤ W.heap.size ∧ Hid (Cells W w.heap.size 3 (fun i => (#[Value.string nm, .int .i64 (n : Int), .slice A x.length c] : Array Value).getD i undef)) ∧ Hid (Cells W (w.heap.size + 1) 2 (fun i => (#[Value.string b, .string s] : Array Value).getD i undef)) := by
    have z1 : w.heap.size + 1 = (w.alloc (.cells #[Value.string nm, .int .i64 (n : Int), .slice A x.length c] 26)).heap.size := by simp
    refine ⟨_, Lib.hid rfl, Lib.hid (((Below.refl _ _).alloc (Nat.le_refl _) _).alloc (by simp) _), by simp, Lib.hid ?_, Lib.hid ?_⟩
    · exact (Cells.newD _ #[Value.string nm, .int .i64 (n : Int), .slice A x.length c] _).alloc _
    · rw [z1]; exact Cells.newD _ #[Value.string b, .string s] _
  obtain ⟨W, hWe, hWb, hWs, hM, hK⟩ := hW
  have H := Lib.hid (show RdL W W.heap.size A 1 encString x from (h.below hWb.out (Nat.le_refl _)).more hWb.out.size)
  clear h
  have u0 : W.cell? ⟨w.heap.size, 0, none⟩ = some (.string nm) := hM.out.cell (i := 0) (by omega)
  have u1 : W.cell? ⟨w.heap.size, 1, none⟩ = some (.int .i64 (n : Int)) := hM.out.cell (i := 1) (by omega)
  have u2 : W.cell? ⟨w.heap.size, 2, none⟩ = some (.slice A x.length c) := hM.out.cell (i := 2) (by omega)
  have u3 : W.cell? ⟨w.heap.size + 1, 0, none⟩ = some (.string b) := hK.out.cell (i := 0) (by omega)
  have u4 : W.cell? ⟨w.heap.size + 1, 1, none⟩ = some (.string s) := hK.out.cell (i := 1) (by omega)
  go_enter Tryz.func154, Tryz.ntmps154
  go_wp2_with fail
  rw [hWe.out]
  clear hWe
  have hcl := Lib.hid (calledX_len x b s call)
  have hcd : Hid (Calls Tryz.prog 131 #[.agg #[Value.string nm, .int .i64 (n : Int), .slice A x.length c], .agg #[Value.string b, .string s], .string call] W fun e w' => MdOut nm n (calledX x b s call) W e w') := Lib.hid (calledLead_any ⟨nm, n, x, A, c⟩ b s call W H.out hl h0)
  have hll : (calledX x b s call).length ≤ 1048576 := by rw [hcl.out]; exact hl
  go_wp2_with (first | (go_at_call 131; refine hcd.out.mono ?_; rintro e w1 ⟨A1, c1, rfl, ho, hb1⟩; have Ho := Lib.hid ho; clear ho) | (go_at_call 181; refine (leadHead_any nm n (calledX x b s call) A1 c1 _ (Ho.out.rd encString_len) h3 h8 hll Hx.out).mono ?_; rintro e w2 ⟨rfl, hb2⟩))
  go_ret
  refine ⟨ret_str (by unfold hdS; rw [hcl.out]), hWb.out.trans ((hb1.mono hWb.out.size).trans (hb2.mono (Nat.le_trans hWb.out.size hb1.size)))⟩
theorem l8Change_any (nm : ByteArray) (n : Nat) (x : List ByteArray) (A : Option Addr) (c : Nat) (b s call : ByteArray) (w : World) (h : RdL w w.heap.size A 1 encString x) (hl : x.length ≤ 1048576) (h0 : 0 < x.length) :
    Calls Tryz.prog 218 #[.agg #[Value.string nm, .int .i64 (n : Int), .slice A x.length c], .agg #[Value.string b, .string s], .string call] w fun e w' => e = .returned (.string (lastC x b s call)) ∧ Below w.heap.size w w' := by
  obtain ⟨g, off, hA, hg, hcell⟩ := h.at (k := x.length - 1) (by omega)
  have hlast : Hid (x.getD (x.length - 1) ByteArray.empty = x[x.length - 1]) := Lib.hid (by rw [List.getD_eq_getElem?_getD, List.getElem?_eq_getElem (by omega)]; rfl)
  have c0 := hcell 0 _ rfl
  rw [Nat.mul_one, Nat.add_zero, ← hlast.out] at c0
  clear hcell hlast
  have hlc : Hid (lastC x b s call = if call.toList = [98] then b else if call.toList = [115] then s else x.getD (x.length - 1) ByteArray.empty) := Lib.hid rfl
  generalize lastC x b s call = LC at *
  obtain ⟨m, hm⟩ : ∃ m, Hid (x.length - 1 = m) := ⟨_, Lib.hid rfl⟩
  have hm2 : x.length = m + 1 := by have := hm.out; omega
  rw [hm.out] at c0 hlc
  generalize x.getD m ByteArray.empty = LX at *
  subst hA
  generalize x.length = N at *
  subst hm2
  clear h
  have hW : ∃ W : World, Hid ((w.alloc (.cells #[Value.string nm, .int .i64 (n : Int), .slice (some ⟨g, off, none⟩) (m + 1) c] 26)).alloc (.cells #[Value.string b, .string s] 28) = W) ∧ Hid (Below w.heap.size w W) ∧ w.heap.size + 2 ≤ W.heap.size ∧ Hid (Cells W w.heap.size 3 (fun i => (#[Value.string nm, .int .i64 (n : Int), .slice (some ⟨g, off, none⟩) (m + 1) c] : Array Value).getD i undef)) ∧ Hid (Cells W (w.heap.size + 1) 2 (fun i => (#[Value.string b, .string s] : Array Value).getD i undef)) := by
    have z1 : w.heap.size + 1 = (w.alloc (.cells #[Value.string nm, .int .i64 (n : Int), .slice (some ⟨g, off, none⟩) (m + 1) c] 26)).heap.size := by simp
    refine ⟨_, Lib.hid rfl, Lib.hid (((Below.refl _ _).alloc (Nat.le_refl _) _).alloc (by simp) _), by simp, Lib.hid ?_, Lib.hid ?_⟩
    · exact (Cells.newD _ #[Value.string nm, .int .i64 (n : Int), .slice (some ⟨g, off, none⟩) (m + 1) c] _).alloc _
    · rw [z1]; exact Cells.newD _ #[Value.string b, .string s] _
  obtain ⟨W, hWe, hWb, hWs, hM, hK⟩ := hW
  have d0 : W.cell? ⟨g, off + m, none⟩ = some (.string LX) := (hWb.out.cell (p := ⟨g, off + m, none⟩) hg).trans c0
  have u2 : W.cell? ⟨w.heap.size, 2, none⟩ = some (.slice (some ⟨g, off, none⟩) (m + 1) c) := hM.out.cell (i := 2) (by omega)
  have u3 : W.cell? ⟨w.heap.size + 1, 0, none⟩ = some (.string b) := hK.out.cell (i := 0) (by omega)
  have u4 : W.cell? ⟨w.heap.size + 1, 1, none⟩ = some (.string s) := hK.out.cell (i := 1) (by omega)
  by_cases e2 : call.toList = [98]
  · have d2 : (call.toList == [98]) = true := beq_iff_eq.2 e2
    have E2 := Lib.hid e2
    clear e2
    go_enter Tryz.func218, Tryz.ntmps218
    go_wp2_with fail
    rw [hWe.out]
    go_wp2
    go_ret
    exact ⟨ret_str (by rw [hlc.out, if_pos E2.out]), hWb.out⟩
  · have d2 : (call.toList == [98]) = false := beq_eq_false_iff_ne.2 e2
    have E2 := Lib.hid e2
    clear e2
    by_cases e3 : call.toList = [115]
    · have d3 : (call.toList == [115]) = true := beq_iff_eq.2 e3
      have E3 := Lib.hid e3
      clear e3
      go_enter Tryz.func218, Tryz.ntmps218
      go_wp2_with fail
      rw [hWe.out]
      go_wp2
      go_ret
      exact ⟨ret_str (by rw [hlc.out, if_neg E2.out, if_pos E3.out]), hWb.out⟩
    · have d3 : (call.toList == [115]) = false := beq_eq_false_iff_ne.2 e3
      have E3 := Lib.hid e3
      clear e3
      go_enter Tryz.func218, Tryz.ntmps218
      go_wp2_with fail
      rw [hWe.out]
      go_wp2
      go_ret
      exact ⟨ret_str (by rw [hlc.out, if_neg E2.out, if_neg E3.out]), hWb.out⟩
end Go.Proofs.YtkegbbndmfnolaaGreatDoor
