import Derived.Test.YtkegbbndmfnolaaGreatDoorMBandsL08
import Derived.Test.YtkegbbndmfnolaaGreatDoorMBandsL09
import Derived.Deep.Cut
/-
 The change of a band's step: a called lead (the program), l24Change (the reference).
-/
namespace Go.Proofs.YtkegbbndmfnolaaGreatDoor
open Go.RowKit
set_option linter.unusedVariables false
set_option linter.unusedSimpArgs false
set_option maxRecDepth 100000

/-- A lead's changes with a call. -/
def calledX (x : List ByteArray) (b s call : ByteArray) : List ByteArray := if call.toList = [98] then x.set (x.length - 1) b else if call.toList = [115] then x.set (x.length - 1) s else x
theorem calledX_len (x : List ByteArray) (b s call : ByteArray) : (calledX x b s call).length = x.length := by unfold calledX; split; (· simp); split <;> simp
theorem calledX_at (b : Bnd) {k : Nat} (hk : b.step = (k : Int)) (hlt : k < b.m.x.length) : (calledX b.m.x b.bob b.sing b.call).getD k ByteArray.empty = heardChg b := by
 have hd : b.m.x.getD k ByteArray.empty = ownChg b := by unfold ownChg; rw [hk]; rfl
 have hset : ∀ v : ByteArray, (b.m.x.set (b.m.x.length - 1) v).getD k ByteArray.empty = if b.step = (b.m.x.length : Int) - 1 then v else ownChg b := fun v => by
  by_cases e : k = b.m.x.length - 1
  ·rw [if_pos (by omega), List.getD_eq_getElem?_getD, e, List.getElem?_set_self (by omega)]; rfl
  ·rw [if_neg (by omega), List.getD_eq_getElem?_getD, List.getElem?_set_ne (by omega), ← List.getD_eq_getElem?_getD, hd]
 unfold calledX heardChg
 split
 ·rw [hset]
 ·split
  ·rw [hset]
  ·rw [hd]; split <;> rfl
section
variable {w : World} {b c g : Nat} {l : List ByteArray}
theorem OwnL.someStr {A : Option Addr} (h : OwnL w b c A 1 encString l) (hl : 0 < l.length) : ∃ g, A = some ⟨g, 0, none⟩ ∧ b ≤ g ∧ g < c ∧ g < w.heap.size := by
 obtain ⟨g, f, hA, h1, h2, h3⟩ := h.cells hl
 exact ⟨g, hA, h1, h2, h3.lt⟩
theorem OwnL.cellStr (h : OwnL w b c (some ⟨g, 0, none⟩) 1 encString l) (k : Nat) (hk : k < l.length) : w.cell? ⟨g, k, none⟩ = some (.string l[k]) ∧ w.frozen? ⟨g, k, none⟩ = false := by
 rcases h with h | ⟨g', f, hA, h1, h2, h3, h4⟩
 ·subst h; simp at hk
 ·simp only [Option.some.injEq, Addr.mk.injEq, and_true] at hA
  subst hA
  have := h4 k hk 0 _ rfl
  have hc := h3.cell (i := k) (by omega)
  rw [Nat.mul_one, Nat.add_zero] at this
  rw [this] at hc
  exact ⟨hc, h3.free (by omega)⟩
theorem OwnL.setStr (h : OwnL w b c (some ⟨g, 0, none⟩) 1 encString l) (k : Nat) (hk : k < l.length) (v : ByteArray) : OwnL (w.setCell ⟨g, k, none⟩ (.string v)) b c (some ⟨g, 0, none⟩) 1 encString (l.set k v) := by
 rcases h with h | ⟨g', f, hA, h1, h2, h3, h4⟩
 ·subst h; simp at hk
 ·simp only [Option.some.injEq, Addr.mk.injEq, and_true] at hA
  subst hA
  refine .inr ⟨g, _, rfl, h1, h2, by rw [List.length_set]; exact h3.set (i := k) (by omega) _, fun i hi j u hu => ?_⟩
  have hj : j = 0 := by have := (List.getElem?_eq_some_iff.1 hu).1; simp [encString] at this; exact this
  subst hj
  by_cases e : i = k
  ·subst e
   rw [List.getElem_set_self] at hu
   rw [Nat.mul_one, Nat.add_zero, upd_same]
   simpa [encString] using hu
  ·rw [List.getElem_set_ne (by omega)] at hu
   rw [Nat.mul_one, Nat.add_zero, upd_other _ _ _ _ (by omega)]
   have := h4 i (by simpa using hi) 0 u hu
   rw [Nat.mul_one, Nat.add_zero] at this
   exact this
end
/-- A method whose changes lie in memory of the call's own is handed back. -/
def MdOut (nm : ByteArray) (st : Int) (x : List ByteArray) (w : World) (e : Ending) (w' : World) : Prop :=
 ∃ A1 c1, e = .returned (.agg #[.string nm, .int .i64 st, .slice A1 x.length c1]) ∧ OwnL w' w.heap.size w'.heap.size A1 1 encString x ∧ Below w.heap.size w w'
set_option maxHeartbeats 1600000 in
theorem l24Change_any (b : Bnd) (heard : Bool) (w : World) (h : RdL w w.heap.size b.m.A 1 encString b.m.x) (hl : b.m.x.length ≤ 1048576) (hst : inB b.step 0 ((b.m.x.length : Int) - 1)) :
  Calls Tryz.prog 135 #[.agg #[.string b.m.name, .int .i64 b.m.stage, .slice b.m.A b.m.x.length b.m.c, .string b.bob, .string b.sing, .int .i64 b.step, .string b.call, .string b.tru, .slice b.RA b.rx.length b.rc], .bool heard] w fun e w' => e = .returned (.string (if heard then heardChg b else ownChg b)) ∧ Below w.heap.size w w' := by
 obtain ⟨k, hk⟩ : ∃ k : Nat, b.step = (k : Int) := ⟨b.step.toNat, by have := hst.1; omega⟩
 have hlt : k < b.m.x.length := by have := hst.2; omega
 have hheard : Hid (heardChg b = if (k : Int) = (b.m.x.length : Int) - 1 then (if b.call.toList = [98] then b.bob else if b.call.toList = [115] then b.sing else ownChg b) else ownChg b) := Lib.hid (by unfold heardChg; rw [hk])
 have hown : Hid (ownChg b = b.m.x[k]) := Lib.hid (by unfold ownChg; rw [hk]; show b.m.x.getD k _ = _; rw [List.getD_eq_getElem?_getD, List.getElem?_eq_getElem hlt]; rfl)
 generalize heardChg b = HC at *
 generalize ownChg b = OC at *
 obtain ⟨⟨nm, st, x, A, c⟩, bob, sing, step, call, tru, rx, RA, rc⟩ := b
 simp only at h hl hk hlt hheard hown ⊢
 subst hk
 obtain ⟨g, off, hA, hg, hcell⟩ := h.at hlt
 subst hA
 have c0 := hcell 0 _ rfl
 rw [Nat.mul_one, Nat.add_zero] at c0
 have c1 := (((Below.refl w.heap.size w).alloc (Nat.le_refl _) (.cells #[.string nm, .int .i64 st, .slice (some ⟨g, off, none⟩) x.length c, .string bob, .string sing, .int .i64 k, .string call, .string tru, .slice RA rx.length rc] 36)).cell (p := ⟨g, off + k, none⟩) hg).trans c0
 rw [← hown.out] at c1
 have hB : Hid (Below w.heap.size w (w.alloc (.cells #[.string nm, .int .i64 st, .slice (some ⟨g, off, none⟩) x.length c, .string bob, .string sing, .int .i64 k, .string call, .string tru, .slice RA rx.length rc] 36))) := Lib.hid ((Below.refl _ _).alloc (Nat.le_refl _) _)
 clear hcell c0 h hst
 by_cases e1 : (k : Int) = (x.length : Int) - 1
 ·have d1 : ((k : Int) == (x.length : Int) - 1) = true := beq_iff_eq.2 e1
  have E1 := Lib.hid e1
  clear e1
  cases heard with
  | true =>
   by_cases e2 : call.toList = [98]
   ·have d2 : (call.toList == [98]) = true := beq_iff_eq.2 e2
    have E2 := Lib.hid e2
    clear e2
    go_enter Tryz.func135, Tryz.ntmps135
    go_wp2
    go_ret
    exact ⟨ret_str (by rw [hheard.out, if_pos E1.out, if_pos E2.out]), hB.out⟩
   ·have d2 : (call.toList == [98]) = false := beq_eq_false_iff_ne.2 e2
    have E2 := Lib.hid e2
    clear e2
    by_cases e3 : call.toList = [115]
    ·have d3 : (call.toList == [115]) = true := beq_iff_eq.2 e3
     have E3 := Lib.hid e3
     clear e3
     go_enter Tryz.func135, Tryz.ntmps135
     go_wp2
     go_ret
     exact ⟨ret_str (by rw [hheard.out, if_pos E1.out, if_neg E2.out, if_pos E3.out]), hB.out⟩
    ·have d3 : (call.toList == [115]) = false := beq_eq_false_iff_ne.2 e3
     have E3 := Lib.hid e3
     clear e3
     go_enter Tryz.func135, Tryz.ntmps135
     go_wp2
     go_ret
     exact ⟨ret_str (by rw [hheard.out, if_pos E1.out, if_neg E2.out, if_neg E3.out]), hB.out⟩
  | false =>
   go_enter Tryz.func135, Tryz.ntmps135
   go_wp2
   go_ret
   exact ⟨rfl, hB.out⟩
 ·have d1 : ((k : Int) == (x.length : Int) - 1) = false := beq_eq_false_iff_ne.2 e1
  have E1 := Lib.hid e1
  clear e1
  cases heard with
  | true =>
   go_enter Tryz.func135, Tryz.ntmps135
   go_wp2
   go_ret
   exact ⟨ret_str (by rw [hheard.out, if_neg E1.out]), hB.out⟩
  | false =>
   go_enter Tryz.func135, Tryz.ntmps135
   go_wp2
   go_ret
   exact ⟨rfl, hB.out⟩




set_option maxHeartbeats 1600000 in
theorem calledLead_any (m : Mth) (b s call : ByteArray) (w : World) (h : RdL w w.heap.size m.A 1 encString m.x) (hl : m.x.length ≤ 1048576) (h0 : 0 < m.x.length) :
  Calls Tryz.prog 131 #[.agg #[.string m.name, .int .i64 m.stage, .slice m.A m.x.length m.c], .agg #[.string b, .string s], .string call] w fun e w' => MdOut m.name m.stage (calledX m.x b s call) w e w' := by
 have hW : ∃ W : World, Hid ((((w.alloc (.cells #[.string m.name, .int .i64 m.stage, .slice m.A m.x.length m.c] 26)).alloc (.cells #[.string b, .string s] 28)).alloc (.cells #[Value.string ⟨#[]⟩, .int .i64 0, .slice none 0 0] 26)) = W) ∧ Hid (W.heap.size = w.heap.size + 3) ∧ Hid (Below w.heap.size w W) ∧ Hid (Cells W w.heap.size 3 (fun i => ((#[Value.string m.name, .int .i64 m.stage, .slice m.A m.x.length m.c] : Array Value)).getD i undef)) ∧ Hid (Cells W (w.heap.size + 1) 2 (fun i => (#[Value.string b, .string s] : Array Value).getD i undef)) ∧ Hid (Cells W (w.heap.size + 1 + 1) 3 (fun i => (#[Value.string ⟨#[]⟩, .int .i64 0, .slice none 0 0] : Array Value).getD i undef)) := by
  have z1 : w.heap.size + 1 = (w.alloc (.cells #[.string m.name, .int .i64 m.stage, .slice m.A m.x.length m.c] 26)).heap.size := by simp
  have z2 : w.heap.size + 1 + 1 = ((w.alloc (.cells #[.string m.name, .int .i64 m.stage, .slice m.A m.x.length m.c] 26)).alloc (.cells #[.string b, .string s] 28)).heap.size := by simp
  refine ⟨_, Lib.hid rfl, Lib.hid (by simp), Lib.hid ((((Below.refl _ _).alloc (Nat.le_refl _) _).alloc (by simp) _).alloc (by simp; omega) _), Lib.hid ?_, Lib.hid ?_, Lib.hid ?_⟩
  ·exact ((Cells.newD _ #[.string m.name, .int .i64 m.stage, .slice m.A m.x.length m.c] _).alloc _).alloc _
  ·rw [z1]; exact (Cells.newD _ #[.string b, .string s] _).alloc _
  ·rw [z2]; exact Cells.newD _ #[Value.string ⟨#[]⟩, .int .i64 0, .slice none 0 0] _
 obtain ⟨W, hWe, hWs, hWb, hM, hK, hZ⟩ := hW
 have hWs1 : w.heap.size + 3 ≤ W.heap.size := by have := hWs.out; omega
 have H := Lib.hid (show RdL W W.heap.size m.A 1 encString m.x from (h.below hWb.out (Nat.le_refl _)).more hWb.out.size)
 clear h
 have u0 : W.cell? ⟨w.heap.size, 0, none⟩ = some (.string m.name) := hM.out.cell (i := 0) (by omega)
 have u1 : W.cell? ⟨w.heap.size, 1, none⟩ = some (.int .i64 m.stage) := hM.out.cell (i := 1) (by omega)
 have u2 : W.cell? ⟨w.heap.size, 2, none⟩ = some (.slice m.A m.x.length m.c) := hM.out.cell (i := 2) (by omega)
 have f0 := Later.cell u0 (show w.heap.size < W.heap.size by omega)
 have f1 := Later.cell u1 (show w.heap.size < W.heap.size by omega)
 have f2 := Later.cell u2 (show w.heap.size < W.heap.size by omega)
 go_enter Tryz.func131, Tryz.ntmps131
 go_wp2_with fail
 rw [hWe.out]
 clear hWe
 refine wp_region_G (by kernel_rfl) [.q, .s (fun _ => gNil), .q, .q, .s (fun _ u lo hi w' => ∃ A c, u = .slice A m.x.length c ∧ OwnL w' lo hi A 1 encString m.x), .s (fun g u lo hi w' => u = .agg #[.string m.name, .int .i64 m.stage, g.getD 1 undef]), .s (fun _ => gBox 3), .t] [0, 1, 0, 0, 1, 1, 1, 2] rfl 3 (by kernel_rfl) (inC W) (W).heap.size (inC.size W) (inC.of (Below.refl _ _).drew) ?_
 (refine wpG_quiets 1 _ _ _ _ (by first | exact cls_none rfl | exact fun w h => h.1) (by intro j hj; rcases j with _ | _ | _ | _ | _ | _ | _ | _ | _ | _ | j <;> first | exact ⟨rfl, ⟨_, rfl, rfl⟩, rfl⟩ | (exfalso; omega)) ?_; simp only [List.take_succ_cons, List.take_zero, List.drop_succ_cons, List.drop_zero, Nat.zero_add, Nat.reduceAdd]; change wpQuiet _ _ (fun wq9 => ∃ x : Later W, wq9 = x.W) _ _ _; (repeat (go_big_quiet_step (fail))); refine wpQuiet_nil ?_; try dsimp only)
 refine wpG_nil 9 rfl rfl rfl rfl (by intro w; go_simp) ?_
 (intro un lon hin hsat; obtain ⟨w1, hw1⟩ := hsat; have hr : un = .slice (some ⟨lon, 0, none⟩) 0 0 := (hw1.rec rfl 1).2.2; obtain rfl := hr; clear hw1; simp only [Act.put, List.setIfInBounds_toArray, List.set_cons_zero, List.set_cons_succ, Nat.reduceAdd])
 (refine wpG_quiets 2 _ _ _ _ (by first | exact cls_none rfl | exact fun w h => h.1) (by intro j hj; rcases j with _ | _ | _ | _ | _ | _ | _ | _ | _ | _ | j <;> first | exact ⟨rfl, ⟨_, rfl, rfl⟩, rfl⟩ | (exfalso; omega)) ?_; simp only [List.take_succ_cons, List.take_zero, List.drop_succ_cons, List.drop_zero, Nat.zero_add, Nat.reduceAdd]; change wpQuiet _ _ (fun wq9 => ∃ x : Later W, wq9 = x.W) _ _ _; (repeat (go_big_quiet_step (fail))); refine wpQuiet_nil ?_; try dsimp only)
 refine wpG_appendNew (enc := encString) (.tmp 10) (.tmp 12) 24 rfl 9 _ 1 16 rfl String_info rfl (by omega) ⟨lon, 0, none⟩ rfl m.x m.A m.c rfl (fun w1 hw1 => ((H.out.below hw1.below (Nat.le_refl _)).more hw1.below.size)) h0 encString_len (by omega) (by omega) rfl rfl rfl rfl ?_
 (intro u lo hi hsat; obtain ⟨w1, hw1⟩ := hsat; have hr : ∃ A c, u = .slice A m.x.length c ∧ OwnL w1 lo hi A 1 encString m.x := (hw1.rec rfl 4).2.2; obtain ⟨A1, c1, rfl, _⟩ := hr; clear hw1; simp only [Act.put, List.setIfInBounds_toArray, List.set_cons_zero, List.set_cons_succ, Nat.reduceAdd])
 (refine wpG_call _ rfl rfl rfl rfl (fun u lo hi => loc_pure _) 111 #[.agg #[.string m.name, .int .i64 m.stage, .slice m.A m.x.length m.c], .slice A1 m.x.length c1] (by intro w; go_simp) (by intro w1 hw1 hd; (refine (withChanges_any m A1 m.x.length c1 _).mono ?_; rintro e w2 ⟨rfl, hb⟩; exact ⟨_, rfl, hw1.step hb, eff_of_below hb, rfl⟩)) ?_)
 (intro u4 lo4 hi4 hsat; obtain ⟨w1, hw1⟩ := hsat; have hr : u4 = .agg #[.string m.name, .int .i64 m.stage, .slice A1 m.x.length c1] := (hw1.rec rfl 5).2.2; obtain rfl := hr; clear hw1; simp only [Act.put, List.setIfInBounds_toArray, List.set_cons_zero, List.set_cons_succ, Nat.reduceAdd])
 (refine wpG_box 3 #[Value.string ⟨#[]⟩, .int .i64 0, .slice none 0 0] 26 rfl rfl rfl rfl rfl (by intro w; go_simp) ?_; intro u7 lo7 hi7 hsat; obtain ⟨w1, hw1⟩ := hsat; have hr : gBox 3 u7 lo7 hi7 w1 := (hw1.rec rfl 6).2.2; obtain ⟨rfl, rfl, _⟩ := hr; clear hw1; simp only [Act.put, List.setIfInBounds_toArray, List.set_cons_zero, List.set_cons_succ, Nat.reduceAdd])
 (refine wpG_t (fun w' => setN w' lo7 0 [.string m.name, .int .i64 m.stage, .slice A1 m.x.length c1]) rfl rfl rfl rfl (by intro w1 hw1; have hr : gBox 3 (.pointer (some ⟨lo7, 0, none⟩)) lo7 (lo7 + 1) w1 := (hw1.rec rfl 6).2.2; have hlo : W.heap.size ≤ lo7 := (hw1.rng rfl 6 rfl).1; obtain ⟨_, _, f, hcf⟩ := hr; have p0 := hcf.cell (i := 0) (by omega); have q0 := hcf.free (i := 0) (by omega); have p1 := hcf.cell (i := 1) (by omega); have q1 := hcf.free (i := 1) (by omega); have p2 := hcf.cell (i := 2) (by omega); have q2 := hcf.free (i := 2) (by omega); have hC1 := (hw1.cls rfl).below; clear hw1; refine ⟨?_, inC.of (Below.setN hlo _ hC1)⟩; simp only [setN]; go_simp; try rfl) ?_)
 intro w' hh
 obtain ⟨_, wz, hz, rfl⟩ := hh
 obtain ⟨Az, cz, hez, hO⟩ : ∃ A c, Value.slice A1 m.x.length c1 = .slice A m.x.length c ∧ OwnL wz lo hi A 1 encString m.x := (hz.rec rfl 4).2.2
 obtain ⟨rfl, rfl⟩ : A1 = Az ∧ c1 = cz := by simpa using hez
 obtain ⟨hlo, _, hhi⟩ : W.heap.size ≤ lo ∧ lo ≤ hi ∧ hi ≤ wz.heap.size := hz.rng rfl 4 rfl
 obtain ⟨hx1, _, hx3⟩ : W.heap.size ≤ lo7 ∧ lo7 ≤ lo7 + 1 ∧ lo7 + 1 ≤ wz.heap.size := hz.rng rfl 6 rfl
 have hap : hi ≤ lo7 ∨ lo7 + 1 ≤ lo := hz.apart rfl 4 6 (by omega)
 obtain ⟨_, _, f, hcf⟩ : gBox 3 (.pointer (some ⟨lo7, 0, none⟩)) lo7 (lo7 + 1) wz := (hz.rec rfl 6).2.2
 have hbz := (hz.cls rfl).below
 have hcv := Lib.hid (hcf.boxed [.string m.name, .int .i64 m.stage, .slice A1 m.x.length c1] rfl)
 have hck : Chg lo7 (lo7 + 1) wz (setN wz lo7 0 [.string m.name, .int .i64 m.stage, .slice A1 m.x.length c1]) := Chg.setN (Nat.le_refl _) (Nat.lt_succ_self _) _ (Chg.refl _ _ _)
 have hsz9 := setN_size lo7 [.string m.name, .int .i64 m.stage, .slice A1 m.x.length c1] wz 0
 have hbV : Hid (Below W.heap.size W (setN wz lo7 0 [.string m.name, .int .i64 m.stage, .slice A1 m.x.length c1])) := Lib.hid (Below.setN hx1 _ hbz)
 have hOV := Lib.hid (hO.chg hck (by omega))
 rw [← hsz9] at hhi hx3
 clear hsz9 hck hcf hO hz hbz hez f0 f1 f2 u0 u1 u2
 generalize setN wz lo7 0 [.string m.name, .int .i64 m.stage, .slice A1 m.x.length c1] = V at *
 obtain ⟨g, hA1, hg1, hg2, _⟩ := hOV.out.someStr h0
 subst hA1
 have k0 : V.cell? ⟨w.heap.size + 1, 0, none⟩ = some (.string b) := (hbV.out.cell (p := ⟨w.heap.size + 1, 0, none⟩) (show w.heap.size + 1 < W.heap.size by omega)).trans (hK.out.cell (i := 0) (by omega))
 have k1 : V.cell? ⟨w.heap.size + 1, 1, none⟩ = some (.string s) := (hbV.out.cell (p := ⟨w.heap.size + 1, 1, none⟩) (show w.heap.size + 1 < W.heap.size by omega)).trans (hK.out.cell (i := 1) (by omega))
 have v0 : V.cell? ⟨lo7, 0, none⟩ = some (.string m.name) := hcv.out.cell (i := 0) (by omega)
 have v1 : V.cell? ⟨lo7, 1, none⟩ = some (.int .i64 m.stage) := hcv.out.cell (i := 1) (by omega)
 have v2 : V.cell? ⟨lo7, 2, none⟩ = some (.slice (some ⟨g, 0, none⟩) m.x.length c1) := hcv.out.cell (i := 2) (by omega)
 have hZV := hZ.out.later (hbV.out.mono (by omega) |> fun h => h) |> fun h => h
 have z0 := hZV.cell (i := 0) (by omega)
 have z1 := hZV.cell (i := 1) (by omega)
 have z2 := hZV.cell (i := 2) (by omega)
 have y0 := hZV.free (i := 0) (by omega)
 have y1 := hZV.free (i := 1) (by omega)
 have y2 := hZV.free (i := 2) (by omega)
 obtain ⟨t0, t1⟩ := hOV.out.cellStr (m.x.length - 1) (by omega)
 have hlast : ((m.x.length : Int) - 1).toNat = m.x.length - 1 := by omega
 clear hZV
 by_cases e2 : call.toList = [98]
 ·have d2 : (call.toList == [98]) = true := beq_iff_eq.2 e2
  have hcx : Hid (calledX m.x b s call = m.x.set (m.x.length - 1) b) := Lib.hid (by unfold calledX; rw [if_pos e2])
  clear e2
  go_wp2
  refine bodyPost_ret (v := .agg #[.string m.name, .int .i64 m.stage, .slice (some ⟨g, 0, none⟩) m.x.length c1]) (by simp [results, Tryz.results131, go_sem, z0, z1, z2, y0, y1, y2]) rfl ?_
  have k1 : Chg w.heap.size hi V (V.setCell ⟨g, m.x.length - 1, none⟩ (.string b)) := (Chg.refl _ _ V).setCell (p := ⟨g, m.x.length - 1, none⟩) (show w.heap.size ≤ g by omega) hg2 _
  have ho := hOV.out.setStr (m.x.length - 1) (by omega) b
  have k2 : Chg (w.heap.size + 1 + 1) (w.heap.size + 1 + 1 + 1) (V.setCell ⟨g, m.x.length - 1, none⟩ (.string b)) (setN (V.setCell ⟨g, m.x.length - 1, none⟩ (.string b)) (w.heap.size + 1 + 1) 0 [.string m.name, .int .i64 m.stage, .slice (some ⟨g, 0, none⟩) m.x.length c1]) := Chg.setN (Nat.le_refl _) (Nat.lt_succ_self _) _ (Chg.refl _ _ _)
  have hO2 := (ho.chg k2 (.inr (by omega))).mono (show w.heap.size ≤ lo by omega) (Nat.le_trans hhi (Nat.le_trans k1.size k2.size))
  have hBB := Below.chg (Below.chg (hWb.out.trans (hbV.out.mono hWb.out.size)) k1 (Nat.le_refl _) (by have := hbV.out.size; omega)) k2 (by omega) (by have := hbV.out.size; have := k1.size; omega)
  exact ⟨some ⟨g, 0, none⟩, c1, by rw [calledX_len], by rw [hcx.out]; exact hO2, hBB⟩
 ·have d2 : (call.toList == [98]) = false := beq_eq_false_iff_ne.2 e2
  by_cases e3 : call.toList = [115]
  ·have d3 : (call.toList == [115]) = true := beq_iff_eq.2 e3
   have hcx : Hid (calledX m.x b s call = m.x.set (m.x.length - 1) s) := Lib.hid (by unfold calledX; rw [if_neg e2, if_pos e3])
   clear e2 e3
   go_wp2
   refine bodyPost_ret (v := .agg #[.string m.name, .int .i64 m.stage, .slice (some ⟨g, 0, none⟩) m.x.length c1]) (by simp [results, Tryz.results131, go_sem, z0, z1, z2, y0, y1, y2]) rfl ?_
   have k1 : Chg w.heap.size hi V (V.setCell ⟨g, m.x.length - 1, none⟩ (.string s)) := (Chg.refl _ _ V).setCell (p := ⟨g, m.x.length - 1, none⟩) (show w.heap.size ≤ g by omega) hg2 _
   have ho := hOV.out.setStr (m.x.length - 1) (by omega) s
   have k2 : Chg (w.heap.size + 1 + 1) (w.heap.size + 1 + 1 + 1) (V.setCell ⟨g, m.x.length - 1, none⟩ (.string s)) (setN (V.setCell ⟨g, m.x.length - 1, none⟩ (.string s)) (w.heap.size + 1 + 1) 0 [.string m.name, .int .i64 m.stage, .slice (some ⟨g, 0, none⟩) m.x.length c1]) := Chg.setN (Nat.le_refl _) (Nat.lt_succ_self _) _ (Chg.refl _ _ _)
   have hO2 := (ho.chg k2 (.inr (by omega))).mono (show w.heap.size ≤ lo by omega) (Nat.le_trans hhi (Nat.le_trans k1.size k2.size))
   have hBB := Below.chg (Below.chg (hWb.out.trans (hbV.out.mono hWb.out.size)) k1 (Nat.le_refl _) (by have := hbV.out.size; omega)) k2 (by omega) (by have := hbV.out.size; have := k1.size; omega)
   exact ⟨some ⟨g, 0, none⟩, c1, by rw [calledX_len], by rw [hcx.out]; exact hO2, hBB⟩
  ·have d3 : (call.toList == [115]) = false := beq_eq_false_iff_ne.2 e3
   have hcx : Hid (calledX m.x b s call = m.x) := Lib.hid (by unfold calledX; rw [if_neg e2, if_neg e3])
   clear e2 e3
   go_wp2
   refine bodyPost_ret (v := .agg #[.string m.name, .int .i64 m.stage, .slice (some ⟨g, 0, none⟩) m.x.length c1]) (by simp [results, Tryz.results131, go_sem, z0, z1, z2, y0, y1, y2]) rfl ?_
   have k1 : Chg w.heap.size hi V V := Chg.refl _ _ V
   have ho := hOV.out
   have k2 : Chg (w.heap.size + 1 + 1) (w.heap.size + 1 + 1 + 1) V (setN V (w.heap.size + 1 + 1) 0 [.string m.name, .int .i64 m.stage, .slice (some ⟨g, 0, none⟩) m.x.length c1]) := Chg.setN (Nat.le_refl _) (Nat.lt_succ_self _) _ (Chg.refl _ _ _)
   have hO2 := (ho.chg k2 (.inr (by omega))).mono (show w.heap.size ≤ lo by omega) (Nat.le_trans hhi (Nat.le_trans k1.size k2.size))
   have hBB := Below.chg (Below.chg (hWb.out.trans (hbV.out.mono hWb.out.size)) k1 (Nat.le_refl _) (by have := hbV.out.size; omega)) k2 (by omega) (by have := hbV.out.size; have := k1.size; omega)
   exact ⟨some ⟨g, 0, none⟩, c1, by rw [calledX_len], by rw [hcx.out]; exact hO2, hBB⟩
end Go.Proofs.YtkegbbndmfnolaaGreatDoor
