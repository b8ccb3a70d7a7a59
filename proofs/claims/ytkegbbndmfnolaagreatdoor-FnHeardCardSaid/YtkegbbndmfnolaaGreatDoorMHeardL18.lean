import Derived.Test.YtkegbbndmfnolaaGreatDoorMHeardL17
import Derived.Test.YtkegbbndmfnolaaGreatDoorMHeardL00
import Derived.Test.YtkegbbndmfnolaaGreatDoorMHeardL07
import Derived.Test.YtkegbbndmfnolaaGreatDoorRows
import Derived.Maps.Own
import Derived.Maps.OwnOps
import Derived.Maps.Keyed
import Derived.Maps.StringElems
/-
  Contracts: the heads of a touch, whether it comes round (the reference's side).
-/
namespace Go.Proofs.YtkegbbndmfnolaaGreatDoor
open Go.RowKit
set_option linter.unusedVariables false
set_option linter.unusedSimpArgs false
set_option maxRecDepth 100000

theorem Grow.capN' {α : Type} {w : World} {base : Nat} {e : TypeId} {size : Nat} {enc : α → List Value} {l : List α} {A : Option Addr} {n c : Nat} (h : Grow w base e size enc (.slice A n c) l) : n ≤ c := by
  rcases h.2 with ⟨h1, h2⟩ | ⟨g, cap, cur, h1, h2, h3, h4, h5, _⟩
  · injection h1 with _ e1 e2; omega
  · injection h1 with _ e1 e2; omega
theorem RdL.take {α : Type} {w : World} {b : Nat} {A : Option Addr} {size : Nat} {enc : α → List Value} {l : List α} (h : RdL w b A size enc l) (m : Nat) : RdL w b A size enc (l.take m) := by
  rcases h with h | ⟨g, off, hA, hg, hc⟩
  · exact .inl (by subst h; simp)
  · refine .inr ⟨g, off, hA, hg, fun i hi j u hu => hc i (by simp at hi; omega) j u ?_⟩
    rw [List.getElem_take] at hu; exact hu





set_option maxHeartbeats 1600000 in
theorem l8Head_any (nm : ByteArray) (n : Nat) (x : List ByteArray) (A : Option Addr) (c : Nat) (b s call : ByteArray) (w : World) (h : RdL w w.heap.size A 1 encString x) (h3 : 3 ≤ n) (h8 : n ≤ 8) (hl : x.length ≤ 1048576) (h0 : 0 < x.length) (hcap : x.length ≤ c) (hx : ∀ c ∈ x, c.size ≤ 1048576) (hb : b.size ≤ 1048576) (hs : s.size ≤ 1048576) :
    Calls Tryz.prog 210 #[.agg #[Value.string nm, .int .i64 (n : Int), .slice A x.length c], .agg #[Value.string b, .string s], .string call] w fun e w' => e = .returned (.string (hdS n x b s call)) ∧ Below w.heap.size w w' := by
  have hrow := row_rounds h3 h8
  have Hrow := Lib.hid hrow
  have hafter := Lib.hid (after_rowN (f := chF n) (l := x) (fun r hr c _ => chF_row h3 h8 hr c) hrow (x.length - 1))
  have hlz : Hid ((lastC x b s call).size ≤ 1048576) := Lib.hid (by
    unfold lastC
    split
    · exact hb
    · split
      · exact hs
      · rw [List.getD_eq_getElem?_getD, List.getElem?_eq_getElem (by omega)]; exact hx _ (List.getElem_mem _))
  have hhd := Lib.hid (hdS_last (n := n) (b := b) (s := s) (call := call) h0)
  obtain ⟨m, hm⟩ : ∃ m, Hid (x.length - 1 = m) := ⟨_, Lib.hid rfl⟩
  rw [hm.out] at hafter hhd
  have hm2 : x.length = m + 1 := by have := hm.out; omega
  have hl4 : Hid (∀ (W : World), RdL W W.heap.size A 1 encString x → Calls Tryz.prog 217 #[.slice A m c, .string (roundsS n)] W fun e w' => ∃ A2 l2 c2, e = .returned (.tuple #[.slice A2 l2 c2, .string (after (chF n) (roundsS n) x m)]) ∧ Below W.heap.size W w') := Lib.hid (fun W hW => by
    have h1 := l4Lead_any n (roundsS n) (x.take m) A c W (hW.take m) h3 h8 hrow (by rw [List.length_take]; omega) (fun c hc => hx c (List.mem_of_mem_take hc))
    have e1 : (x.take m).length = m := by rw [List.length_take]; omega
    have e2 : after (chF n) (roundsS n) (x.take m) m = after (chF n) (roundsS n) x m := after_congr _ (by rw [List.take_take, Nat.min_self])
    rw [e1, e2] at h1
    exact h1.mono fun e w' ⟨A2, c2, he, _, hb⟩ => ⟨A2, _, c2, he, hb⟩)
  have hl8 : Hid (∀ (W : World), RdL W W.heap.size A 1 encString x → Calls Tryz.prog 218 #[.agg #[Value.string nm, .int .i64 (n : Int), .slice A x.length c], .agg #[Value.string b, .string s], .string call] W fun e w' => e = .returned (.string (lastC x b s call)) ∧ Below W.heap.size W w') := Lib.hid (fun W hW => l8Change_any nm n x A c b s call W hW hl h0)
  obtain ⟨g, off, hA, hg, hcz⟩ := h.at (k := 0) h0
  clear hcz hg
  have hW : ∃ W : World, Hid ((w.alloc (.cells #[Value.string nm, .int .i64 (n : Int), .slice A x.length c] 26)).alloc (.cells #[Value.string b, .string s] 28) = W) ∧ Hid (Below w.heap.size w W) ∧ w.heap.size + 2 ≤ W.heap.size ∧ Hid (Cells W w.heap.size 3 (fun i => (#[Value.string nm, .int .i64 (n : Int), .slice A x.length c] : Array Value).getD i undef)) ∧ Hid (Cells W (w.heap.size + 1) 2 (fun i => (#[Value.string b, .string s] : Array Value).getD i undef)) := by
    have z1 : w.heap.size + 1 = (w.alloc (.cells #[Value.string nm, .int .i64 (n : Int), .slice A x.length c] 26)).heap.size := by simp
    refine ⟨_, Lib.hid rfl, Lib.hid (((Below.refl _ _).alloc (Nat.le_refl _) _).alloc (by simp) _), by simp, Lib.hid ?_, Lib.hid ?_⟩
    · exact (Cells.newD _ #[Value.string nm, .int .i64 (n : Int), .slice A x.length c] _).alloc _
    · rw [z1]; exact Cells.newD _ #[Value.string b, .string s] _
  obtain ⟨W, hWe, hWb, hWs, hM, hK⟩ := hW
  have H := Lib.hid (show RdL W W.heap.size A 1 encString x from (h.below hWb.out (Nat.le_refl _)).more hWb.out.size)
  clear h
  have u0 : W.cell? ⟨w.heap.size, 0, none⟩ = some (.string nm) := hM.out.cell (i := 0) (by omega)
  have u1 : W.cell? ⟨w.heap.size, 1, none⟩ = some (.int .i64 (n : Int)) := hM.out.cell (i := 1) (by omega)
  have u2 : W.cell? ⟨w.heap.size, 2, none⟩ = some (.slice A x.length c) := hM.out.cell (i := 2) (by omega)
  have u3 : W.cell? ⟨w.heap.size + 1, 0, none⟩ = some (.string b) := hK.out.cell (i := 0) (by omega)
  have u4 : W.cell? ⟨w.heap.size + 1, 1, none⟩ = some (.string s) := hK.out.cell (i := 1) (by omega)
  obtain ⟨T, hT⟩ : ∃ T, Hid (after (chF n) (roundsS n) x m = T) := ⟨_, Lib.hid rfl⟩
  obtain ⟨LC, hLC⟩ : ∃ LC, Hid (lastC x b s call = LC) := ⟨_, Lib.hid rfl⟩
  rw [hT.out] at hafter hhd hl4
  rw [hLC.out] at hlz hhd hl8
  have hap : Hid (∀ (W : World), Calls Tryz.prog 134 #[.string T, .string LC] W fun e w' => e = .returned (.string (chF n T LC)) ∧ Below W.heap.size W w') := Lib.hid (fun W => by have := l2Apply_any T LC W hafter.out.1 hlz.out; rw [hafter.out.2] at this; exact this)
  generalize hdS n x b s call = HD at *
  generalize chF n T LC = U at *
  have hle : m + 1 ≤ 1048576 := by omega
  have hcm : m ≤ c := by omega
  have hcm2 : (m : Int) ≤ (c : Int) := by omega
  have hcm0 : (0 : Int) ≤ (m : Int) := by omega
  clear hcap
  subst hA
  clear hx hafter hrow hb hs hlz hm
  generalize hN : x.length = N at *
  subst hm2
  have hN := Lib.hid hN
  have v0 := u0
  have v1 := u1
  have f0 := Later.cell u0 (show w.heap.size < W.heap.size by omega)
  have f1 := Later.cell u1 (show w.heap.size < W.heap.size by omega)
  have f2 := Later.cell u2 (show w.heap.size < W.heap.size by omega)
  clear v0 v1
  go_enter Tryz.func210, Tryz.ntmps210
  go_wp2_with fail
  rw [hWe.out]
  clear hWe
  go_upto_region 2 with fail
  refine wp_region_G (by kernel_rfl) [.q, .q, .q, .q, .q, .q, .s (fun _ u lo hi w' => u = .string (roundsS n)), .s (fun _ u lo hi w' => ∃ A2 l2 c2, u = .tuple #[.slice A2 l2 c2, .string T]), .q, .q, .q, .q, .q] [0, 0, 0, 0, 0, 0, 1, 1, 0, 0, 0, 0, 0] rfl 3 (by kernel_rfl) (inC W) (W).heap.size (inC.size W) (inC.of (Below.refl _ _).drew) ?_
  (refine wpG_quiets 6 _ _ _ _ (by first | exact cls_none rfl | exact fun w h => h.1) (by intro j hj; rcases j with _ | _ | _ | _ | _ | _ | _ | _ | _ | _ | j <;> first | exact ⟨rfl, ⟨_, rfl, rfl⟩, rfl⟩ | (exfalso; omega)) ?_; simp only [List.take_succ_cons, List.take_zero, List.drop_succ_cons, List.drop_zero, Nat.zero_add, Nat.reduceAdd]; change wpQuiet _ _ (fun wq9 => ∃ x : Later W, wq9 = x.W) _ _ _; (repeat (go_big_quiet_step (fail))); refine wpQuiet_nil ?_; try dsimp only)
  (refine wpG_call _ rfl rfl rfl rfl (fun u lo hi => loc_pure _) 120 #[.int .i64 (n : Int)] (by intro w; go_simp) (by intro w1 hw1 hd; (refine (l1Rounds_any n _ (by omega) (by omega)).mono ?_; rintro e w2 ⟨rfl, rfl⟩; exact ⟨_, rfl, hw1, eff_of_below (Below.refl _ _), rfl⟩)) ?_)
  (intro u5 lo5 hi5 hsat; obtain ⟨w1, hw1⟩ := hsat; have hr : u5 = .string (roundsS n) := (hw1.rec rfl 6).2.2; obtain rfl := hr; clear hw1; simp only [Act.put, List.setIfInBounds_toArray, List.set_cons_zero, List.set_cons_succ, Nat.reduceAdd])
  (refine wpG_call _ rfl rfl rfl rfl (fun u lo hi => loc_ex fun _ => loc_ex fun _ => loc_ex fun _ => loc_pure _) 217 #[.slice (some ⟨g, off, none⟩) m c, .string (roundsS n)] (by intro w; go_simp) (by intro w1 hw1 hd; (refine (hl4.out _ ((H.out.below hw1.below (Nat.le_refl _)).more hw1.below.size)).mono ?_; rintro e w2 ⟨A2, l2, c2, rfl, hb⟩; exact ⟨_, rfl, hw1.step hb, eff_of_below hb, A2, l2, c2, rfl⟩)) ?_)
  (intro u lo hi hsat; obtain ⟨w1, hw1⟩ := hsat; have hr : ∃ A2 l2 c2, u = .tuple #[.slice A2 l2 c2, .string T] := (hw1.rec rfl 7).2.2; obtain ⟨A2, l2, c2, rfl⟩ := hr; clear hw1; simp only [Act.put, List.setIfInBounds_toArray, List.set_cons_zero, List.set_cons_succ, Nat.reduceAdd])
  (refine wpG_quiets 5 _ _ _ _ (by first | exact cls_none rfl | exact fun w h => h.1) (by intro j hj; rcases j with _ | _ | _ | _ | _ | _ | _ | _ | _ | _ | j <;> first | exact ⟨rfl, ⟨_, rfl, rfl⟩, rfl⟩ | (exfalso; omega)) ?_; simp only [List.take_succ_cons, List.take_zero, List.drop_succ_cons, List.drop_zero, Nat.zero_add, Nat.reduceAdd]; change wpQuiet _ _ (fun wq9 => ∃ x : Later W, wq9 = x.W) _ _ _; (repeat (go_big_quiet_step (fail))); refine wpQuiet_nil ?_; try dsimp only)
  intro wz hz
  have hbz := Lib.hid (hz.cls rfl).below
  have k0 := (hbz.out.cell (p := ⟨w.heap.size, 0, none⟩) (show w.heap.size < W.heap.size by omega)).trans u0
  have k1 := (hbz.out.cell (p := ⟨w.heap.size, 1, none⟩) (show w.heap.size < W.heap.size by omega)).trans u1
  have k2 := (hbz.out.cell (p := ⟨w.heap.size, 2, none⟩) (show w.heap.size < W.heap.size by omega)).trans u2
  have k3 := (hbz.out.cell (p := ⟨w.heap.size + 1, 0, none⟩) (show w.heap.size + 1 < W.heap.size by omega)).trans u3
  have k4 := (hbz.out.cell (p := ⟨w.heap.size + 1, 1, none⟩) (show w.heap.size + 1 < W.heap.size by omega)).trans u4
  clear hz f0 f1 f2 u0 u1 u2 u3 u4
  have hl8z := hl8.out wz ((H.out.below hbz.out (Nat.le_refl _)).more hbz.out.size)
  have Hl8 := Lib.hid hl8z
  clear hl8z
  go_wp2_with (first | (go_at_call 218; refine Hl8.out.mono ?_; rintro e w2 ⟨rfl, hb2⟩) | (go_at_call 134; refine (hap.out _).mono ?_; rintro e w3 ⟨rfl, hb3⟩))
  go_ret
  refine ⟨ret_str hhd.out.symm, (hWb.out.trans (hbz.out.mono hWb.out.size)).trans ((hb2.trans (hb3.mono hb2.size)).mono (Nat.le_trans hWb.out.size hbz.out.size))⟩
set_option maxHeartbeats 1600000 in
theorem l9HeadsC_any (nm : ByteArray) (n : Nat) (x : List ByteArray) (A : Option Addr) (c : Nat) (b s t : ByteArray) (w : World) (h : RdL w w.heap.size A 1 encString x) (h3 : 3 ≤ n) (h8 : n ≤ 8) (hl : x.length ≤ 1048576) (h0 : 0 < x.length) (hcap : x.length ≤ c) (hx : ∀ c ∈ x, c.size ≤ 1048576) (hb : b.size ≤ 1048576) (hs : s.size ≤ 1048576) (ht : t.size ≤ 1048576) :
    Calls Tryz.prog 199 #[.agg #[Value.string nm, .int .i64 (n : Int), .slice A x.length c], .agg #[Value.string b, .string s], .string t] w fun e w' => ∃ A2 c2, e = .returned (.slice A2 (t.size + 1) c2) ∧ t.size + 1 ≤ c2 ∧ OwnL w' w.heap.size w'.heap.size A2 1 encString (headsL n x b s t (t.size + 1)) ∧ Below w.heap.size w w' := by
  have hcall : Hid (∀ (call : ByteArray) (W : World), RdL W W.heap.size A 1 encString x → Calls Tryz.prog 210 #[.agg #[Value.string nm, .int .i64 (n : Int), .slice A x.length c], .agg #[Value.string b, .string s], .string call] W fun e w' => e = .returned (.string (hdS n x b s call)) ∧ Below W.heap.size W w') := Lib.hid (fun call W hW => l8Head_any nm n x A c b s call W hW h3 h8 hl h0 hcap hx hb hs)
  clear hx hb hs
  have hW : ∃ W : World, Hid ((w.alloc (.cells #[Value.string nm, .int .i64 (n : Int), .slice A x.length c] 26)).alloc (.cells #[Value.string b, .string s] 28) = W) ∧ Hid (Below w.heap.size w W) ∧ w.heap.size + 2 ≤ W.heap.size ∧ Hid (Cells W w.heap.size 3 (fun i => (#[Value.string nm, .int .i64 (n : Int), .slice A x.length c] : Array Value).getD i undef)) ∧ Hid (Cells W (w.heap.size + 1) 2 (fun i => (#[Value.string b, .string s] : Array Value).getD i undef)) := by
    have z1 : w.heap.size + 1 = (w.alloc (.cells #[Value.string nm, .int .i64 (n : Int), .slice A x.length c] 26)).heap.size := by simp
    refine ⟨_, Lib.hid rfl, Lib.hid (((Below.refl _ _).alloc (Nat.le_refl _) _).alloc (by simp) _), by simp, Lib.hid ?_, Lib.hid ?_⟩
    · exact (Cells.newD _ #[Value.string nm, .int .i64 (n : Int), .slice A x.length c] _).alloc _
    · rw [z1]; exact Cells.newD _ #[Value.string b, .string s] _
  obtain ⟨W, hWe, hWb, hWs, hM, hK⟩ := hW
  have H := Lib.hid (show RdL W W.heap.size A 1 encString x from (h.below hWb.out (Nat.le_refl _)).more hWb.out.size)
  clear h
  have u0 : W.cell? ⟨w.heap.size, 0, none⟩ = some (.string nm) := hM.out.cell (i := 0) (by omega)
  have u1 : W.cell? ⟨w.heap.size, 1, none⟩ = some (.int .i64 (n : Int)) := hM.out.cell (i := 1) (by omega)
  have u2 : W.cell? ⟨w.heap.size, 2, none⟩ = some (.slice A x.length c) := hM.out.cell (i := 2) (by omega)
  have u3 : W.cell? ⟨w.heap.size + 1, 0, none⟩ = some (.string b) := hK.out.cell (i := 0) (by omega)
  have u4 : W.cell? ⟨w.heap.size + 1, 1, none⟩ = some (.string s) := hK.out.cell (i := 1) (by omega)
  have g0 : Hid (Grow (W.alloc (.cells #[.string (roundsS n)] 9)) W.heap.size 9 1 encString (.slice (some ⟨W.heap.size, 0, none⟩) 1 1) (headsL n x b s t 1)) := Lib.hid (by unfold headsL; rw [walkL_one]; exact Grow.lit [roundsS n] rfl (Nat.le_refl _) (by simp [maxLen]) encString_len)
  go_enter Tryz.func199, Tryz.ntmps199
  go_wp2_with fail
  rw [hWe.out]
  clear hWe
  go_wp2_with ((go_at_call 120; refine (l1Rounds_any n _ (by omega) (by omega)).mono ?_; rintro e w' ⟨rfl, rfl⟩))
  go_loopw [7, 8, 9] (fun v q j wr => ∃ k : Nat, k ≤ t.size ∧ j = .int .i64 k ∧ v = .string (headS n x b s t k) ∧ Grow wr W.heap.size 9 1 encString q (headsL n x b s t (k + 1)) ∧ Below W.heap.size W wr) (fun _ _ j _ => t.size - (intOf j).toNat)
  case atStart => exact ⟨0, by omega, by rfl, by unfold headS; rw [after_zero], g0.out, (Below.refl _ _).alloc (Nat.le_refl _) _⟩
  case round =>
    obtain ⟨k, hk, rfl, rfl, hg, hbl⟩ := hrel
    have Hg := Lib.hid hg
    have Hb0 := Lib.hid hbl
    have hg0 := hbl.size
    have hlen : (headsL n x b s t (k + 1)).length ≤ 1048577 := by unfold headsL; rw [walkL_len]; omega
    clear hg hbl g0
    have k0 := (Hb0.out.cell (p := ⟨w.heap.size, 0, none⟩) (show w.heap.size < W.heap.size by omega)).trans u0
    have k1 := (Hb0.out.cell (p := ⟨w.heap.size, 1, none⟩) (show w.heap.size < W.heap.size by omega)).trans u1
    have k2 := (Hb0.out.cell (p := ⟨w.heap.size, 2, none⟩) (show w.heap.size < W.heap.size by omega)).trans u2
    have k3 := (Hb0.out.cell (p := ⟨w.heap.size + 1, 0, none⟩) (show w.heap.size + 1 < W.heap.size by omega)).trans u3
    have k4 := (Hb0.out.cell (p := ⟨w.heap.size + 1, 1, none⟩) (show w.heap.size + 1 < W.heap.size by omega)).trans u4
    by_cases hlt : k < t.size
    · have hsu := Lib.hid (headS_succ n x b s t k hlt)
      have hws : Hid (headsL n x b s t (k + 1 + 1) = headsL n x b s t (k + 1) ++ [headS n x b s t (k + 1)]) := Lib.hid (walkL_succ _ _ _ _)
      have hrk := Lib.hid (headS_row h3 h8 x b s t k)
      have hhr := Lib.hid (hdS_row h3 h8 x b s (callOf (bat t k)))
      rw [← callOf_ext hlt] at hhr hsu
      have hcw : Hid (∀ y : Later wr, Calls Tryz.prog 210 #[.agg #[Value.string nm, .int .i64 (n : Int), .slice A x.length c], .agg #[Value.string b, .string s], .string (t.extract k (k + 1))] y.W fun e w' => e = .returned (.string (hdS n x b s (t.extract k (k + 1)))) ∧ Below y.W.heap.size y.W w') := Lib.hid (fun y => by
        have hby := Hb0.out.trans (y.hb.mono hg0)
        exact hcall.out _ _ ((H.out.below hby (Nat.le_refl _)).more hby.size))
      obtain ⟨h, hh⟩ : ∃ h, Hid (hdS n x b s (t.extract k (k + 1)) = h) := ⟨_, Lib.hid rfl⟩
      rw [hh.out] at hhr hsu hcw
      obtain ⟨T, hT⟩ : ∃ T, Hid (headS n x b s t k = T) := ⟨_, Lib.hid rfl⟩
      rw [hT.out] at hrk hsu ⊢
      have htm : Hid (∀ (W : World), Calls Tryz.prog 165 #[.string T, .string h] W fun e w' => e = .returned (.string (timesS T h)) ∧ W = w') := Lib.hid (fun W => l1Times_any T h W (by rw [hhr.out.2]; omega) (by rw [hrk.out.2]; omega) (fun i hi => by have := hhr.out.1.2.2.1 i hi; rw [hhr.out.2] at this; rw [hrk.out.2]; exact this))
      obtain ⟨U, hU⟩ : ∃ U, Hid (timesS T h = U) := ⟨_, Lib.hid rfl⟩
      rw [hU.out] at htm hsu
      rw [hsu.out] at hws
      have hone : (∀ u ∈ [Value.string U], u.oneCell' = true) := by simp [Value.oneCell']
      have Hone := Lib.hid hone
      have f0 := Later.cell k0 (show w.heap.size < wr.heap.size by omega)
      have f1 := Later.cell k1 (show w.heap.size < wr.heap.size by omega)
      have f2 := Later.cell k2 (show w.heap.size < wr.heap.size by omega)
      have f3 := Later.cell k3 (show w.heap.size + 1 < wr.heap.size by omega)
      have f4 := Later.cell k4 (show w.heap.size + 1 < wr.heap.size by omega)
      have hd1 : decide (k < t.size) = true := by simpa using hlt
      clear hone k0 k1 k2 k3 k4 u0 u1 u2 u3 u4
      obtain ⟨wo, rfl⟩ : ∃ wo, wo = wr := ⟨wr, rfl⟩
      go_upto_region 6 with fail
      (refine wp_region_later (by kernel_rfl) (by kernel_rfl) ?_; (repeat (go_big_quiet_step ((first | (go_at_call 210; exact Later.call (hcw.out _)) | (go_at_call 165; exact Later.same (htm.out _)))))); refine wpQuiet_nil ?_; intro _ hw'; obtain ⟨y, hw''⟩ := hw'; subst hw'')
      have hys := y.hb.size
      have hyb := Lib.hid y.hb
      generalize y.W = w3 at *
      have hgw : W.heap.size ≤ w3.heap.size := by omega
      go_wp2_with (at_builtin; go_loud (refine wpList_push rfl (.tmp 31) (.tmp 33) 24 rfl W.heap.size 9 _ 1 16 encString rfl String_info rfl (by omega) u8 (headsL n x b s t (k + 1)) [U] 1 rfl rfl (by simp) (Hg.out.later hyb.out) rfl encString_len Hone.out (by first | omega | (simp; omega)) (by omega) (by first | omega | (simp; omega)) ?_; intro v' w2 hg2 hb2 _))
      go_roundw
      case rel => exact ⟨k + 1, by omega, by go_num, by rw [hsu.out], by rw [hws.out]; exact hg2, (Hb0.out.trans (hyb.out.mono hg0)).trans hb2⟩
      case measure => simp [intOf]; omega
    · obtain rfl : k = t.size := by omega
      go_wp2
      go_ret
      obtain ⟨A2, c2, hv, ho⟩ := Hg.out.own encString_len
      have hlen2 : (headsL n x b s t (t.size + 1)).length = t.size + 1 := walkL_len _ _ _ _
      rw [hlen2] at hv
      have hcap2 := Hg.out
      rw [hv] at hcap2
      exact ⟨A2, c2, by rw [hv]; rfl, hcap2.capN', ho.mono hWb.out.size (Nat.le_refl _), hWb.out.trans (Hb0.out.mono hWb.out.size)⟩
theorem l9Heads_any (nm : ByteArray) (n : Nat) (x : List ByteArray) (A : Option Addr) (c : Nat) (b s t : ByteArray) (w : World) (h : RdL w w.heap.size A 1 encString x) (h3 : 3 ≤ n) (h8 : n ≤ 8) (hl : x.length ≤ 1048576) (h0 : 0 < x.length) (hcap : x.length ≤ c) (hx : ∀ c ∈ x, c.size ≤ 1048576) (hb : b.size ≤ 1048576) (hs : s.size ≤ 1048576) (ht : t.size ≤ 1048576) :
    Calls Tryz.prog 199 #[.agg #[Value.string nm, .int .i64 (n : Int), .slice A x.length c], .agg #[Value.string b, .string s], .string t] w fun e w' => ∃ A2 c2, e = .returned (.slice A2 (t.size + 1) c2) ∧ OwnL w' w.heap.size w'.heap.size A2 1 encString (headsL n x b s t (t.size + 1)) ∧ Below w.heap.size w w' :=
  (l9HeadsC_any nm n x A c b s t w h h3 h8 hl h0 hcap hx hb hs ht).mono fun e w' ⟨A2, c2, h1, _, h2, h3⟩ => ⟨A2, c2, h1, h2, h3⟩
end Go.Proofs.YtkegbbndmfnolaaGreatDoor

/-
  A map of the call's own from letters to strings.
-/
namespace Go.Proofs.YtkegbbndmfnolaaGreatDoor
open Go.RowKit Go.Maps Go.ChangeMaps Go.MapKept
set_option linter.unusedVariables false
set_option linter.unusedSimpArgs false
set_option maxRecDepth 100000

theorem byte_keyed : Keyed Tryz.prog 5 := int_keyed Tryz.underlying5
theorem hmap_ty : Tryz.prog.underlying 149 = some (.map 5 9) := rfl
/-- Block g is the call's own map; what S tells is in it. -/
def HMap (w : World) (g n : Nat) (S : Int → Option ByteArray) : Prop :=
  ∃ D : DataW Unit, w.ownsMap Tryz.prog 5 (plainElem Tryz.prog 9) g n D ∧ IsMap D ∧ ∀ (v : Int) (s : ByteArray), S v = some s → D.atKey (.int .u8 v) (.lit (.string [])) = .lit (.string s.data.toList)
theorem HMap.made (w : World) : HMap (w.alloc (.map #[] 0)) w.heap.size 0 (fun _ => none) :=
  ⟨.map [], World.ownsMap_made w _ _ _, Maps.isMap_empty, fun v s h => by cases h⟩
theorem HMap.kept {w w' : World} {g n : Nat} {S : Int → Option ByteArray} (h : HMap w g n S) (hb : w'.heap[g]? = w.heap[g]?) : HMap w' g n S := by
  obtain ⟨D, ⟨es, clock, hb0, F, hs, hD⟩, hm, ha⟩ := h
  exact ⟨D, ⟨es, clock, hb.trans hb0, F, hs, hD⟩, hm, ha⟩
theorem HMap.lt {w : World} {g n : Nat} {S : Int → Option ByteArray} (h : HMap w g n S) : g < w.heap.size := by
  obtain ⟨D, hD, _⟩ := h; exact hD.lt
theorem HMap.later {w w' : World} {g n : Nat} {S : Int → Option ByteArray} (h : HMap w g n S) (hb : Below w.heap.size w w') : HMap w' g n S := h.kept (hb.block g h.lt)
theorem HMap.congr {w : World} {g n : Nat} {S S' : Int → Option ByteArray} (h : HMap w g n S) (e : ∀ v s, S' v = some s → S v = some s) : HMap w g n S' := by
  obtain ⟨D, hD, hm, ha⟩ := h
  exact ⟨D, hD, hm, fun v s hs => ha v s (e v s hs)⟩
theorem bytes_inj {a b : ByteArray} (h : a.data.toList = b.data.toList) : a = b := by
  apply ByteArray.ext; exact Array.ext' h
theorem byte_key {v : Int} (h0 : 0 ≤ v) (h1 : v < 256) : keyOf Tryz.prog 5 (.int .u8 v) = some (.int .u8 v) :=
  keyOf_int_mk Tryz.underlying5 (by simp [Lit.wf, IntKind.min, IntKind.max, IntKind.signed, IntKind.bits]; omega)
/-- The look-up. -/
theorem HMap.look {w : World} {g n : Nat} {S : Int → Option ByteArray} (h : HMap w g n S) {v : Int} {s : ByteArray} (h0 : 0 ≤ v) (h1 : v < 256) (hs : S v = some s) :
    (Instr.lookup 149 (.map (some g)) (.int .u8 v) false).run Tryz.prog w = .ok (.string s) w := by
  obtain ⟨D, hD, _, ha⟩ := h
  have hz : (zeroValue 9).run Tryz.prog w = .ok (.string ⟨#[]⟩) w := by kernel_rfl
  obtain ⟨u, ps, hrun, hv⟩ := hD.lookup byte_keyed hmap_ty hz (plainElem_string Tryz.underlying9 (s := ⟨#[]⟩) (by show 0 ≤ maxLen; omega)) (byte_key h0 h1)
  obtain ⟨t, rfl, he, _⟩ := plainElem_string_inv Tryz.underlying9 hv
  have e2 := ha v s hs
  simp only [Prod.mk.injEq] at he
  rw [e2] at he
  have : t = s := bytes_inj (by simpa using he.1.symm)
  subst this
  exact hrun
/-- The store. -/
theorem HMap.put {w : World} {g n : Nat} {S : Int → Option ByteArray} (h : HMap w g n S) {v : Int} {s : ByteArray} (h0 : 0 ≤ v) (h1 : v < 256) (hn : n ≤ 1000000) (hs : s.size ≤ 1000000) :
    ∃ w', (Instr.mapUpdate 149 (.map (some g)) (.int .u8 v) (.string s)).run Tryz.prog w = .ok () w' ∧ HMap w' g (n + 1) (fun u => if u = v then some s else S u) ∧ w.grownBy w' (some g) := by
  obtain ⟨D, hD, him, ha⟩ := h
  obtain ⟨w', hrun, hown, hgr⟩ := hD.update byte_keyed hmap_ty (by unfold maxLen; omega) (byte_key h0 h1) (plainElem_string Tryz.underlying9 (s := s) (by unfold maxLen; omega))
  refine ⟨w', hrun, ⟨_, hown, him.put _ _, fun u t hu => ?_⟩, hgr⟩
  by_cases e : u = v
  · subst e
    simp only [if_true] at hu
    injection hu with hu
    subst hu
    exact Maps.atKey_put_same him (byte_keyed.key (byte_key h0 h1)) _ _
  · replace hu : S u = some t := by simpa [e] using hu
    rw [Maps.atKey_put_other (fun x => e (by injection x))]
    exact ha u t hu
end Go.Proofs.YtkegbbndmfnolaaGreatDoor
