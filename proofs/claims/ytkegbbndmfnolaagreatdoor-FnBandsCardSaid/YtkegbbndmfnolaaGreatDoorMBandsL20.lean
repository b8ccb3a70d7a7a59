import Derived.Test.YtkegbbndmfnolaaGreatDoorMBandsL16
import Derived.Test.YtkegbbndmfnolaaGreatDoorMBandsL19
import Derived.StillTailTactics
import Derived.StillTactics
/-
 DoBand: the reference's side. Written by wip/tools/gen_do.py.
-/
namespace Go.Proofs.YtkegbbndmfnolaaGreatDoor
open Go.RowKit
set_option linter.unusedVariables false
set_option linter.unusedSimpArgs false
set_option maxRecDepth 100000
attribute [-go_sem] run_eql_struct run_neq_struct

/-- What l24Do gives back: where it says true the band is the one asked for. -/
def DoOut (r : Bd × Bool) (w : World) (e : Ending) (w' : World) : Prop := ∃ v d, e = .returned (.tuple #[v, .bool r.2]) ∧ BdAt d v w.heap.size w'.heap.size w' ∧ Below w.heap.size w w' ∧ (r.2 = true → d = r.1)
theorem doR_F {b : Bnd} {kd bl yy : Int} {cl : ByteArray} (h1 : ¬ actE kd bl yy cl 1 0 0 ⟨#[]⟩) (h2 : ¬ (actE kd bl yy cl 2 0 0 cl ∧ isCallP cl)) (h3 : inB bl 1 b.m.stage → ¬ actE kd bl yy cl 3 bl 0 ⟨#[]⟩) (h5 : inB bl 1 b.m.stage → ¬ actE kd bl yy cl 5 bl 0 ⟨#[]⟩)
  (h4 : inB bl 1 b.m.stage → ¬ (actE kd bl yy cl 4 bl yy ⟨#[]⟩ ∧ (yy = 1 ∨ yy = -1) ∧ inB ((b.at_ bl).place + yy) 1 b.m.stage)) : doR b kd bl yy cl = (Bd.zero, false) := by
 by_cases h : inB bl 1 b.m.stage
 ·exact doR_no h (h3 h) (h5 h) (h4 h)
 ·exact doR_n h1 h2 h
theorem Cells.drewH {w : World} {g n : Nat} {f : Nat → Value} (h : Cells w g n f) : Cells w.drew g n f := h
theorem OwnL.drewH {α : Type} {w : World} {b c : Nat} {A : Option Addr} {size : Nat} {enc : α → List Value} {l : List α} (h : OwnL w b c A size enc l) : OwnL w.drew b c A size enc l := h
theorem emp_toList : (⟨#[]⟩ : ByteArray).toList = [] := by rw [ByteArray.toList_eq]
theorem toList_nil {c : ByteArray} (h : ¬ c = ⟨#[]⟩) : ¬ c.toList = (⟨#[]⟩ : ByteArray).toList := fun e => h (toList_inj.1 e)
theorem toList_nil' {c : ByteArray} (h : ¬ c = ⟨#[]⟩) : ¬ c.toList = [] := fun e => toList_nil h (e.trans emp_toList.symm)
abbrev StepS := Option Addr × Nat × Option Addr × Nat
def stepCells (d : Bd) (S : StepS) : List Value := [Value.string d.name, .int .i64 d.stage, .slice S.1 d.x.length S.2.1, .string d.bob, .string d.sing, .int .i64 d.step, .string d.call, .string d.tru, .slice S.2.2.1 d.rx.length S.2.2.2]
def stepAgg (d : Bd) (S : StepS) : Value := .agg #[.string d.name, .int .i64 d.stage, .slice S.1 d.x.length S.2.1, .string d.bob, .string d.sing, .int .i64 d.step, .string d.call, .string d.tru, .slice S.2.2.1 d.rx.length S.2.2.2]
def stepVal (b : Bnd) (d : Bd) (ga : Nat) (bl : Int) (ok : Bool) (S : StepS) : Nat → Value
 | 0 => .agg #[.string b.m.name, .int .i64 b.m.stage, .slice b.m.A b.m.x.length b.m.c, .string b.bob, .string b.sing, .int .i64 b.step, .string b.call, .string b.tru, .slice b.RA b.rx.length b.rc]
 | 1 => stepAgg d S
 | 2 => .pointer (some ⟨ga, 1, none⟩)
 | 3 => .int .i64 bl
 | 4 => .bool ok
 | 5 => undef
 | 6 => .bool ok
 | _ => undef
theorem stepVal_g {b : Bnd} {d : Bd} {ga : Nat} {bl : Int} {ok : Bool} {S S' : StepS} : ∀ {k : Nat}, k ≠ 1 → stepVal b d ga bl ok S k = stepVal b d ga bl ok S' k
 | 0, _ => rfl
 | 1, h => absurd rfl h
 | 2, _ => rfl
 | 3, _ => rfl
 | 4, _ => rfl
 | 5, _ => rfl
 | 6, _ => rfl
 | _ + 7, _ => rfl
def stepMid (V : World) (d : Bd) (S : StepS) (u : World) : Prop := Below V.heap.size V u ∧ ∃ lo gs, V.heap.size ≤ lo ∧ lo ≤ gs ∧ gs ≤ u.heap.size ∧ OwnL u lo gs S.1 1 encString d.x ∧ OwnL u gs u.heap.size S.2.2.1 2 Rgr.enc d.rx
def stepInv (V : World) (g : Nat) (d : Bd) (S : StepS) (L : Nat → Bool) (w : World) : Prop :=
 (∀ p : Addr, p.block < g → w.cell? p = V.cell? p) ∧ (L 5 = false → Below V.heap.size V w ∧ (L 1 = true → stepMid V d S w)) ∧ (L 5 = true → L 1 = true ∧ ∃ u, stepMid V d S u ∧ w = setN u g 0 (stepCells d S))
section
variable {V w : World} {g : Nat} {d : Bd} {S : StepS} {L : Nat → Bool}
theorem stepInv.keep (h : stepInv V g d S L w) {i : Nat} (h1 : i ≠ 1) (h5 : i ≠ 5) : stepInv V g d S (onL L i) w := by
 unfold stepInv
 rw [onL_other L (show (5 : Nat) ≠ i from fun e => h5 e.symm), onL_other L (show (1 : Nat) ≠ i from fun e => h1 e.symm)]
 exact h
theorem stepInv.five (h : stepInv V g d S L w) (h1 : L 1 = false) : L 5 = false := by
 cases e : L 5 with
 | false => rfl
 | true => have := (h.2.2 e).1; rw [h1] at this; cases this
theorem stepInv.called {w' : World} {S' : StepS} (h : stepInv V g d S L w) (hg : g < V.heap.size) (h5 : L 5 = false) (hm : stepMid V d S' w') (hb : Below w.heap.size w w') : stepInv V g d S' (onL L 1) w' := by
 have h2 := (h.2.1 h5).1
 have e5 : onL L 1 5 = false := by rw [onL_other L (by omega)]; exact h5
 refine ⟨fun p hp => (hb.cell (show p.block < w.heap.size from Nat.lt_of_lt_of_le (Nat.lt_trans hp hg) h2.size)).trans (h.1 p hp), fun _ => ⟨hm.1, fun _ => hm⟩, fun e => ?_⟩
 rw [e5] at e; cases e
theorem stepInv.stored (h : stepInv V g d S L w) (hg : g < V.heap.size) (h5 : L 5 = false) (h1 : L 1 = true) : stepInv V g d S (onL L 5) (setN w g 0 (stepCells d S)) := by
 have h2 := (h.2.1 h5).1
 have kk : Chg g (g + 1) w (setN w g 0 (stepCells d S)) := Chg.setN (Nat.le_refl _) (Nat.lt_succ_self _) _ (Chg.refl _ _ w)
 refine ⟨fun p hp => ?_, (fun e => by rw [onL_same] at e; cases e), fun _ => ⟨by rw [onL_other L (by omega)]; exact h1, w, (h.2.1 h5).2 h1, rfl⟩⟩
 rw [World.cell?_of_block (a := p) (kk.block p.block (Nat.lt_of_lt_of_le (Nat.lt_trans hp hg) h2.size) (.inl hp))]
 exact h.1 p hp
end
set_option maxHeartbeats 12800000 in
theorem l24Do_any (b : Bnd) (kd bl yy : Int) (cl : ByteArray) (w : World) (h : RdL w w.heap.size b.m.A 1 encString b.m.x) (hr : RdL w w.heap.size b.RA 2 Rgr.enc b.rx) (hl : b.m.x.length ≤ 1048576) (hp : bandP b) :
  Calls Tryz.prog 79 #[.agg #[.string b.m.name, .int .i64 b.m.stage, .slice b.m.A b.m.x.length b.m.c, .string b.bob, .string b.sing, .int .i64 b.step, .string b.call, .string b.tru, .slice b.RA b.rx.length b.rc], .agg #[.int .i64 kd, .int .i64 bl, .int .i64 yy, .string cl]] w fun e w' => DoOut (doR b kd bl yy cl) w e w' := by
 have hx0 : 0 < b.m.x.length := by have := hp.2.1.1; have := hp.2.1.2; omega
 have hrlen : (b.rx.length : Int) = b.m.stage := hp.2.2.2.2.1
 have hst3 : 3 ≤ b.m.stage := hp.1.1.2.stage.1
 have hst8 : b.m.stage ≤ 8 := hp.1.1.2.stage.2
 have hrl0 : 0 < b.rx.length := by omega
 have hrl8 : b.rx.length ≤ 8 := by omega
 have hrow : Hid (isRow b.tru) := Lib.hid hp.2.2.2.1.2
 have hpl : Hid (∀ (i : Nat) (hi : i < b.rx.length), inB b.rx[i].place 1 b.m.stage) := Lib.hid hp.2.2.2.2.2
 have HP := Lib.hid hp
 clear hp
 have hW : ∃ W : World, Hid ((((w.alloc (.cells #[.string b.m.name, .int .i64 b.m.stage, .slice b.m.A b.m.x.length b.m.c, .string b.bob, .string b.sing, .int .i64 b.step, .string b.call, .string b.tru, .slice b.RA b.rx.length b.rc] 36)).alloc (.cells #[.int .i64 kd, .int .i64 bl, .int .i64 yy, .string cl] 45)).alloc (.cells #[Value.string ⟨#[]⟩, .int .i64 0, .slice none 0 0, .string ⟨#[]⟩, .string ⟨#[]⟩, .int .i64 0, .string ⟨#[]⟩, .string ⟨#[]⟩, .slice none 0 0] 36)) = W) ∧ Hid (W.heap.size = w.heap.size + 3) ∧ Hid (Below w.heap.size w W) ∧ Hid (Cells W w.heap.size 9 (fun i => (#[Value.string b.m.name, .int .i64 b.m.stage, .slice b.m.A b.m.x.length b.m.c, .string b.bob, .string b.sing, .int .i64 b.step, .string b.call, .string b.tru, .slice b.RA b.rx.length b.rc] : Array Value).getD i undef)) ∧ Hid (Cells W (w.heap.size + 1) 4 (fun i => (#[Value.int .i64 kd, .int .i64 bl, .int .i64 yy, .string cl] : Array Value).getD i undef)) ∧ Hid (Cells W (w.heap.size + 1 + 1) 9 (fun i => (#[Value.string ⟨#[]⟩, .int .i64 0, .slice none 0 0, .string ⟨#[]⟩, .string ⟨#[]⟩, .int .i64 0, .string ⟨#[]⟩, .string ⟨#[]⟩, .slice none 0 0] : Array Value).getD i undef)) := by
  have z1 : w.heap.size + 1 = (w.alloc (.cells #[.string b.m.name, .int .i64 b.m.stage, .slice b.m.A b.m.x.length b.m.c, .string b.bob, .string b.sing, .int .i64 b.step, .string b.call, .string b.tru, .slice b.RA b.rx.length b.rc] 36)).heap.size := by simp
  have z2 : w.heap.size + 1 + 1 = ((w.alloc (.cells #[.string b.m.name, .int .i64 b.m.stage, .slice b.m.A b.m.x.length b.m.c, .string b.bob, .string b.sing, .int .i64 b.step, .string b.call, .string b.tru, .slice b.RA b.rx.length b.rc] 36)).alloc (.cells #[.int .i64 kd, .int .i64 bl, .int .i64 yy, .string cl] 45)).heap.size := by simp
  refine ⟨_, Lib.hid rfl, Lib.hid (by simp), Lib.hid ((((Below.refl _ _).alloc (Nat.le_refl _) _).alloc (by simp) _).alloc (by simp; omega) _), Lib.hid ?_, Lib.hid ?_, Lib.hid ?_⟩
  ·exact ((Cells.newD _ #[.string b.m.name, .int .i64 b.m.stage, .slice b.m.A b.m.x.length b.m.c, .string b.bob, .string b.sing, .int .i64 b.step, .string b.call, .string b.tru, .slice b.RA b.rx.length b.rc] _).alloc _).alloc _
  ·rw [z1]; exact (Cells.newD _ #[.int .i64 kd, .int .i64 bl, .int .i64 yy, .string cl] _).alloc _
  ·rw [z2]; exact Cells.newD _ #[Value.string ⟨#[]⟩, .int .i64 0, .slice none 0 0, .string ⟨#[]⟩, .string ⟨#[]⟩, .int .i64 0, .string ⟨#[]⟩, .string ⟨#[]⟩, .slice none 0 0] _
 obtain ⟨W, hWe, hWs, hWb, hB, hA, hZ⟩ := hW
 have hWs1 : w.heap.size + 3 ≤ W.heap.size := by have := hWs.out; omega
 have H0 := Lib.hid h
 have Hr0 := Lib.hid hr
 clear h hr
 have u0 : W.cell? ⟨w.heap.size, 0, none⟩ = some (.string b.m.name) := hB.out.cell (i := 0) (by omega)
 have u1 : W.cell? ⟨w.heap.size, 1, none⟩ = some (.int .i64 b.m.stage) := hB.out.cell (i := 1) (by omega)
 have u2 : W.cell? ⟨w.heap.size, 2, none⟩ = some (.slice b.m.A b.m.x.length b.m.c) := hB.out.cell (i := 2) (by omega)
 have u3 : W.cell? ⟨w.heap.size, 3, none⟩ = some (.string b.bob) := hB.out.cell (i := 3) (by omega)
 have u4 : W.cell? ⟨w.heap.size, 4, none⟩ = some (.string b.sing) := hB.out.cell (i := 4) (by omega)
 have u5 : W.cell? ⟨w.heap.size, 5, none⟩ = some (.int .i64 b.step) := hB.out.cell (i := 5) (by omega)
 have u6 : W.cell? ⟨w.heap.size, 6, none⟩ = some (.string b.call) := hB.out.cell (i := 6) (by omega)
 have u7 : W.cell? ⟨w.heap.size, 7, none⟩ = some (.string b.tru) := hB.out.cell (i := 7) (by omega)
 have u8 : W.cell? ⟨w.heap.size, 8, none⟩ = some (.slice b.RA b.rx.length b.rc) := hB.out.cell (i := 8) (by omega)
 go_enter Tryz.func79, Tryz.ntmps79
 go_wp2_with fail
 rw [hWe.out]
 clear hWe
 go_upto_region 2 with (go_at_call 118; refine (l24Own_any b _ ((H0.out.below hWb.out (Nat.le_refl _)).more hWb.out.size) ((Hr0.out.below hWb.out (Nat.le_refl _)).more hWb.out.size) hl hx0 (by omega) hrl0).mono ?_; rintro e wA ⟨v, rfl, hbd, hb1⟩; have hbd2 : ∃ A1 c1 A3 c3 gs, v = .agg #[.string b.m.name, .int .i64 b.m.stage, .slice A1 b.m.x.length c1, .string b.bob, .string b.sing, .int .i64 b.step, .string b.call, .string b.tru, .slice A3 b.rx.length c3] ∧ W.heap.size ≤ gs ∧ gs ≤ wA.heap.size ∧ OwnL wA W.heap.size gs A1 1 encString b.m.x ∧ OwnL wA gs wA.heap.size A3 2 Rgr.enc b.rx := hbd; obtain ⟨A1, c1, A3, c3, gs, rfl, hg1, hg2, ho1, ho3⟩ := hbd2; obtain ⟨ga, rfl, hga1, hga2, _⟩ := ho3.someRgr hrl0; have hO1 := Lib.hid ho1; have hO3 := Lib.hid ho3; have hb1' := Lib.hid hb1; have hs1 := hb1.size; clear ho1 ho3 hbd hb1; clear u0 u1 u2 u3 u4 u5 u6 u7 u8)
 have hbV0 : Below wA.heap.size wA (wA.alloc (.cells #[.string b.m.name, .int .i64 b.m.stage, .slice A1 b.m.x.length c1, .string b.bob, .string b.sing, .int .i64 b.step, .string b.call, .string b.tru, .slice (some ⟨ga, 0, none⟩) b.rx.length c3] 36)) := (Below.refl _ _).alloc (Nat.le_refl _) _
 have hCo : Hid (Cells (wA.alloc (.cells #[.string b.m.name, .int .i64 b.m.stage, .slice A1 b.m.x.length c1, .string b.bob, .string b.sing, .int .i64 b.step, .string b.call, .string b.tru, .slice (some ⟨ga, 0, none⟩) b.rx.length c3] 36)) wA.heap.size 9 (fun i => ([Value.string b.m.name, .int .i64 b.m.stage, .slice A1 b.m.x.length c1, .string b.bob, .string b.sing, .int .i64 b.step, .string b.call, .string b.tru, .slice (some ⟨ga, 0, none⟩) b.rx.length c3] : List Value).getD i undef)) := Lib.hid ((Cells.newD wA #[.string b.m.name, .int .i64 b.m.stage, .slice A1 b.m.x.length c1, .string b.bob, .string b.sing, .int .i64 b.step, .string b.call, .string b.tru, .slice (some ⟨ga, 0, none⟩) b.rx.length c3] 36).congr fun i hi => by
  match i, hi with
  | 0, _ => rfl
  | 1, _ => rfl
  | 2, _ => rfl
  | 3, _ => rfl
  | 4, _ => rfl
  | 5, _ => rfl
  | 6, _ => rfl
  | 7, _ => rfl
  | 8, _ => rfl)
 have hbV := Lib.hid (hb1'.out.trans (hbV0.mono hb1'.out.size))
 have hBV := Lib.hid (hB.out.below hbV.out (by omega))
 have hAV := Lib.hid (hA.out.below hbV.out (by omega))
 have hZV := Lib.hid (hZ.out.below hbV.out (by omega))
 have hO1V := Lib.hid (hO1.out.later hbV0)
 have hO3V := Lib.hid (hO3.out.later hbV0)
 have hsV : wA.heap.size + 1 ≤ (wA.alloc (.cells #[.string b.m.name, .int .i64 b.m.stage, .slice A1 b.m.x.length c1, .string b.bob, .string b.sing, .int .i64 b.step, .string b.call, .string b.tru, .slice (some ⟨ga, 0, none⟩) b.rx.length c3] 36)).heap.size := by simp
 have hWV := Lib.hid (hWb.out.trans (hbV.out.mono hWb.out.size))
 clear hbV0 hO1 hO3 hB hZ hA hbV hb1'
 generalize (wA.alloc (.cells #[.string b.m.name, .int .i64 b.m.stage, .slice A1 b.m.x.length c1, .string b.bob, .string b.sing, .int .i64 b.step, .string b.call, .string b.tru, .slice (some ⟨ga, 0, none⟩) b.rx.length c3] 36)) = V at *
 have a0 : V.cell? ⟨w.heap.size + 1, 0, none⟩ = some (.int .i64 kd) := hAV.out.cell (i := 0) (by omega)
 have a1 : V.cell? ⟨w.heap.size + 1, 1, none⟩ = some (.int .i64 bl) := hAV.out.cell (i := 1) (by omega)
 have a2 : V.cell? ⟨w.heap.size + 1, 2, none⟩ = some (.int .i64 yy) := hAV.out.cell (i := 2) (by omega)
 have a3 : V.cell? ⟨w.heap.size + 1, 3, none⟩ = some (.string cl) := hAV.out.cell (i := 3) (by omega)
 have u1 : V.cell? ⟨w.heap.size, 1, none⟩ = some (.int .i64 b.m.stage) := hBV.out.cell (i := 1) (by omega)
 obtain ⟨BI, hBI⟩ : ∃ BI, Hid (B (inB bl 1 b.m.stage) = BI) := ⟨_, Lib.hid rfl⟩
 have eBI := hBI.out
 by_cases k1 : ¬ cl = ⟨#[]⟩ ∧ ¬ kd = 2
 ·have D := Lib.hid (doR_F (b := b) (kd := kd) (bl := bl) (yy := yy) (cl := cl) (fun x => toList_nil k1.1 x.2.2.2) (fun x => k1.2 x.1.1) (fun _ x => toList_nil k1.1 x.2.2.2) (fun _ x => toList_nil k1.1 x.2.2.2) (fun _ x => toList_nil k1.1 x.1.2.2.2))
  have t1 : (cl.toList == []) = false := beq_eq_false_iff_ne.2 (toList_nil' k1.1)
  have t1' : cl.toList.isEmpty = false := by rw [List.isEmpty_eq_false_iff]; exact toList_nil' k1.1
  have t2 : (kd == 2) = false := beq_eq_false_iff_ne.2 k1.2
  have t2n : (kd != 2) = true := by simpa using k1.2
  have t1n : (cl.toList != []) = true := by simpa using toList_nil' k1.1
  have t1m : ¬ cl.toList = [] := toList_nil' k1.1
  clear k1
  have c0_ : V.cell? ⟨wA.heap.size, 0, none⟩ = some (.string b.m.name) := hCo.out.cell (i := 0) (by omega)
  have c1_ : V.cell? ⟨wA.heap.size, 1, none⟩ = some (.int .i64 b.m.stage) := hCo.out.cell (i := 1) (by omega)
  have c2_ : V.cell? ⟨wA.heap.size, 2, none⟩ = some (.slice A1 b.m.x.length c1) := hCo.out.cell (i := 2) (by omega)
  have c3_ : V.cell? ⟨wA.heap.size, 3, none⟩ = some (.string b.bob) := hCo.out.cell (i := 3) (by omega)
  have c4_ : V.cell? ⟨wA.heap.size, 4, none⟩ = some (.string b.sing) := hCo.out.cell (i := 4) (by omega)
  have c5_ : V.cell? ⟨wA.heap.size, 5, none⟩ = some (.int .i64 b.step) := hCo.out.cell (i := 5) (by omega)
  have c6_ : V.cell? ⟨wA.heap.size, 6, none⟩ = some (.string b.call) := hCo.out.cell (i := 6) (by omega)
  have c7_ : V.cell? ⟨wA.heap.size, 7, none⟩ = some (.string b.tru) := hCo.out.cell (i := 7) (by omega)
  have c8_ : V.cell? ⟨wA.heap.size, 8, none⟩ = some (.slice (some ⟨ga, 0, none⟩) b.rx.length c3) := hCo.out.cell (i := 8) (by omega)
  have hCr := hZV.out
  have r0 := hCr.cell (i := 0) (by omega)
  have rf0 := hCr.free (i := 0) (by omega)
  have r1 := hCr.cell (i := 1) (by omega)
  have rf1 := hCr.free (i := 1) (by omega)
  have r2 := hCr.cell (i := 2) (by omega)
  have rf2 := hCr.free (i := 2) (by omega)
  have r3 := hCr.cell (i := 3) (by omega)
  have rf3 := hCr.free (i := 3) (by omega)
  have r4 := hCr.cell (i := 4) (by omega)
  have rf4 := hCr.free (i := 4) (by omega)
  have r5 := hCr.cell (i := 5) (by omega)
  have rf5 := hCr.free (i := 5) (by omega)
  have r6 := hCr.cell (i := 6) (by omega)
  have rf6 := hCr.free (i := 6) (by omega)
  have r7 := hCr.cell (i := 7) (by omega)
  have rf7 := hCr.free (i := 7) (by omega)
  have r8 := hCr.cell (i := 8) (by omega)
  have rf8 := hCr.free (i := 8) (by omega)
  clear hCr
  go_wp2_with ((go_at_call 99; refine (l1In_any _ _ _ _).mono ?_; rintro e w' ⟨rfl, rfl⟩))
  refine bodyPost_ret (v := .tuple #[.agg #[.string b.m.name, .int .i64 b.m.stage, .slice A1 b.m.x.length c1, .string b.bob, .string b.sing, .int .i64 b.step, .string b.call, .string b.tru, .slice (some ⟨ga, 0, none⟩) b.rx.length c3], .bool false]) (by simp [results, Tryz.results79, go_sem, r0, rf0, r1, rf1, r2, rf2, r3, rf3, r4, rf4, r5, rf5, r6, rf6, r7, rf7, r8, rf8]) rfl ?_
  have kk : Chg (w.heap.size + 1 + 1) (w.heap.size + 1 + 1 + 1) V (setN V (w.heap.size + 1 + 1) 0 [Value.string b.m.name, .int .i64 b.m.stage, .slice A1 b.m.x.length c1, .string b.bob, .string b.sing, .int .i64 b.step, .string b.call, .string b.tru, .slice (some ⟨ga, 0, none⟩) b.rx.length c3]) := Chg.setN (Nat.le_refl _) (Nat.lt_succ_self _) _ (Chg.refl _ _ V)
  have kO1 := (hO1V.out.chg kk (.inr (by omega))).mono (show w.heap.size ≤ W.heap.size by omega) (Nat.le_refl _)
  have kO3 := (hO3V.out.chg kk (.inr (by omega))).mono (Nat.le_refl _) (Nat.le_trans (show wA.heap.size ≤ V.heap.size by omega) kk.size)
  have kBB := Below.chg hWV.out kk (by omega) (by omega)
  have kks := kk.size
  exact ⟨_, ⟨b.m.name, b.m.stage, b.m.x, b.bob, b.sing, b.step, b.call, b.tru, b.rx⟩, by rw [D.out], ⟨A1, c1, some ⟨ga, 0, none⟩, c3, gs, by first | (simp only [List.length_set]; done) | rfl, by omega, Nat.le_trans hg2 (Nat.le_trans (show wA.heap.size ≤ V.heap.size by omega) kks), kO1, kO3⟩, kBB, fun x => by rw [D.out] at x; cases x⟩
 by_cases k2 : ¬ yy = 0 ∧ ¬ kd = 4
 ·have D := Lib.hid (doR_F (b := b) (kd := kd) (bl := bl) (yy := yy) (cl := cl) (fun x => k2.1 x.2.2.1) (fun x => k2.1 x.1.2.2.1) (fun _ x => k2.1 x.2.2.1) (fun _ x => k2.1 x.2.2.1) (fun _ x => k2.2 x.1.1))
  have t3 : (yy == 0) = false := beq_eq_false_iff_ne.2 k2.1
  have t4 : (kd == 4) = false := beq_eq_false_iff_ne.2 k2.2
  have t3n : (yy != 0) = true := by simpa using k2.1
  have t4n : (kd != 4) = true := by simpa using k2.2
  clear k2
  by_cases hcl : cl = ⟨#[]⟩
  ·subst hcl
   clear k1
   have c0_ : V.cell? ⟨wA.heap.size, 0, none⟩ = some (.string b.m.name) := hCo.out.cell (i := 0) (by omega)
   have c1_ : V.cell? ⟨wA.heap.size, 1, none⟩ = some (.int .i64 b.m.stage) := hCo.out.cell (i := 1) (by omega)
   have c2_ : V.cell? ⟨wA.heap.size, 2, none⟩ = some (.slice A1 b.m.x.length c1) := hCo.out.cell (i := 2) (by omega)
   have c3_ : V.cell? ⟨wA.heap.size, 3, none⟩ = some (.string b.bob) := hCo.out.cell (i := 3) (by omega)
   have c4_ : V.cell? ⟨wA.heap.size, 4, none⟩ = some (.string b.sing) := hCo.out.cell (i := 4) (by omega)
   have c5_ : V.cell? ⟨wA.heap.size, 5, none⟩ = some (.int .i64 b.step) := hCo.out.cell (i := 5) (by omega)
   have c6_ : V.cell? ⟨wA.heap.size, 6, none⟩ = some (.string b.call) := hCo.out.cell (i := 6) (by omega)
   have c7_ : V.cell? ⟨wA.heap.size, 7, none⟩ = some (.string b.tru) := hCo.out.cell (i := 7) (by omega)
   have c8_ : V.cell? ⟨wA.heap.size, 8, none⟩ = some (.slice (some ⟨ga, 0, none⟩) b.rx.length c3) := hCo.out.cell (i := 8) (by omega)
   have hCr := hZV.out
   have r0 := hCr.cell (i := 0) (by omega)
   have rf0 := hCr.free (i := 0) (by omega)
   have r1 := hCr.cell (i := 1) (by omega)
   have rf1 := hCr.free (i := 1) (by omega)
   have r2 := hCr.cell (i := 2) (by omega)
   have rf2 := hCr.free (i := 2) (by omega)
   have r3 := hCr.cell (i := 3) (by omega)
   have rf3 := hCr.free (i := 3) (by omega)
   have r4 := hCr.cell (i := 4) (by omega)
   have rf4 := hCr.free (i := 4) (by omega)
   have r5 := hCr.cell (i := 5) (by omega)
   have rf5 := hCr.free (i := 5) (by omega)
   have r6 := hCr.cell (i := 6) (by omega)
   have rf6 := hCr.free (i := 6) (by omega)
   have r7 := hCr.cell (i := 7) (by omega)
   have rf7 := hCr.free (i := 7) (by omega)
   have r8 := hCr.cell (i := 8) (by omega)
   have rf8 := hCr.free (i := 8) (by omega)
   clear hCr
   go_wp2_with ((go_at_call 99; refine (l1In_any _ _ _ _).mono ?_; rintro e w' ⟨rfl, rfl⟩))
   refine bodyPost_ret (v := .tuple #[.agg #[.string b.m.name, .int .i64 b.m.stage, .slice A1 b.m.x.length c1, .string b.bob, .string b.sing, .int .i64 b.step, .string b.call, .string b.tru, .slice (some ⟨ga, 0, none⟩) b.rx.length c3], .bool false]) (by simp [results, Tryz.results79, go_sem, r0, rf0, r1, rf1, r2, rf2, r3, rf3, r4, rf4, r5, rf5, r6, rf6, r7, rf7, r8, rf8]) rfl ?_
   have kk : Chg (w.heap.size + 1 + 1) (w.heap.size + 1 + 1 + 1) V (setN V (w.heap.size + 1 + 1) 0 [Value.string b.m.name, .int .i64 b.m.stage, .slice A1 b.m.x.length c1, .string b.bob, .string b.sing, .int .i64 b.step, .string b.call, .string b.tru, .slice (some ⟨ga, 0, none⟩) b.rx.length c3]) := Chg.setN (Nat.le_refl _) (Nat.lt_succ_self _) _ (Chg.refl _ _ V)
   have kO1 := (hO1V.out.chg kk (.inr (by omega))).mono (show w.heap.size ≤ W.heap.size by omega) (Nat.le_refl _)
   have kO3 := (hO3V.out.chg kk (.inr (by omega))).mono (Nat.le_refl _) (Nat.le_trans (show wA.heap.size ≤ V.heap.size by omega) kk.size)
   have kBB := Below.chg hWV.out kk (by omega) (by omega)
   have kks := kk.size
   exact ⟨_, ⟨b.m.name, b.m.stage, b.m.x, b.bob, b.sing, b.step, b.call, b.tru, b.rx⟩, by rw [D.out], ⟨A1, c1, some ⟨ga, 0, none⟩, c3, gs, by first | (simp only [List.length_set]; done) | rfl, by omega, Nat.le_trans hg2 (Nat.le_trans (show wA.heap.size ≤ V.heap.size by omega) kks), kO1, kO3⟩, kBB, fun x => by rw [D.out] at x; cases x⟩
  ·have hkd : kd = 2 := by
    rcases Decidable.em (kd = 2) with e | e
    ·exact e
    ·exact absurd ⟨hcl, e⟩ k1
   subst hkd
   have t1 : (cl.toList == []) = false := beq_eq_false_iff_ne.2 (toList_nil' hcl)
   have t1' : cl.toList.isEmpty = false := by rw [List.isEmpty_eq_false_iff]; exact toList_nil' hcl
   clear k1 hcl
   have c0_ : V.cell? ⟨wA.heap.size, 0, none⟩ = some (.string b.m.name) := hCo.out.cell (i := 0) (by omega)
   have c1_ : V.cell? ⟨wA.heap.size, 1, none⟩ = some (.int .i64 b.m.stage) := hCo.out.cell (i := 1) (by omega)
   have c2_ : V.cell? ⟨wA.heap.size, 2, none⟩ = some (.slice A1 b.m.x.length c1) := hCo.out.cell (i := 2) (by omega)
   have c3_ : V.cell? ⟨wA.heap.size, 3, none⟩ = some (.string b.bob) := hCo.out.cell (i := 3) (by omega)
   have c4_ : V.cell? ⟨wA.heap.size, 4, none⟩ = some (.string b.sing) := hCo.out.cell (i := 4) (by omega)
   have c5_ : V.cell? ⟨wA.heap.size, 5, none⟩ = some (.int .i64 b.step) := hCo.out.cell (i := 5) (by omega)
   have c6_ : V.cell? ⟨wA.heap.size, 6, none⟩ = some (.string b.call) := hCo.out.cell (i := 6) (by omega)
   have c7_ : V.cell? ⟨wA.heap.size, 7, none⟩ = some (.string b.tru) := hCo.out.cell (i := 7) (by omega)
   have c8_ : V.cell? ⟨wA.heap.size, 8, none⟩ = some (.slice (some ⟨ga, 0, none⟩) b.rx.length c3) := hCo.out.cell (i := 8) (by omega)
   have hCr := hZV.out
   have r0 := hCr.cell (i := 0) (by omega)
   have rf0 := hCr.free (i := 0) (by omega)
   have r1 := hCr.cell (i := 1) (by omega)
   have rf1 := hCr.free (i := 1) (by omega)
   have r2 := hCr.cell (i := 2) (by omega)
   have rf2 := hCr.free (i := 2) (by omega)
   have r3 := hCr.cell (i := 3) (by omega)
   have rf3 := hCr.free (i := 3) (by omega)
   have r4 := hCr.cell (i := 4) (by omega)
   have rf4 := hCr.free (i := 4) (by omega)
   have r5 := hCr.cell (i := 5) (by omega)
   have rf5 := hCr.free (i := 5) (by omega)
   have r6 := hCr.cell (i := 6) (by omega)
   have rf6 := hCr.free (i := 6) (by omega)
   have r7 := hCr.cell (i := 7) (by omega)
   have rf7 := hCr.free (i := 7) (by omega)
   have r8 := hCr.cell (i := 8) (by omega)
   have rf8 := hCr.free (i := 8) (by omega)
   clear hCr
   go_wp2_with ((go_at_call 99; refine (l1In_any _ _ _ _).mono ?_; rintro e w' ⟨rfl, rfl⟩))
   refine bodyPost_ret (v := .tuple #[.agg #[.string b.m.name, .int .i64 b.m.stage, .slice A1 b.m.x.length c1, .string b.bob, .string b.sing, .int .i64 b.step, .string b.call, .string b.tru, .slice (some ⟨ga, 0, none⟩) b.rx.length c3], .bool false]) (by simp [results, Tryz.results79, go_sem, r0, rf0, r1, rf1, r2, rf2, r3, rf3, r4, rf4, r5, rf5, r6, rf6, r7, rf7, r8, rf8]) rfl ?_
   have kk : Chg (w.heap.size + 1 + 1) (w.heap.size + 1 + 1 + 1) V (setN V (w.heap.size + 1 + 1) 0 [Value.string b.m.name, .int .i64 b.m.stage, .slice A1 b.m.x.length c1, .string b.bob, .string b.sing, .int .i64 b.step, .string b.call, .string b.tru, .slice (some ⟨ga, 0, none⟩) b.rx.length c3]) := Chg.setN (Nat.le_refl _) (Nat.lt_succ_self _) _ (Chg.refl _ _ V)
   have kO1 := (hO1V.out.chg kk (.inr (by omega))).mono (show w.heap.size ≤ W.heap.size by omega) (Nat.le_refl _)
   have kO3 := (hO3V.out.chg kk (.inr (by omega))).mono (Nat.le_refl _) (Nat.le_trans (show wA.heap.size ≤ V.heap.size by omega) kk.size)
   have kBB := Below.chg hWV.out kk (by omega) (by omega)
   have kks := kk.size
   exact ⟨_, ⟨b.m.name, b.m.stage, b.m.x, b.bob, b.sing, b.step, b.call, b.tru, b.rx⟩, by rw [D.out], ⟨A1, c1, some ⟨ga, 0, none⟩, c3, gs, by first | (simp only [List.length_set]; done) | rfl, by omega, Nat.le_trans hg2 (Nat.le_trans (show wA.heap.size ≤ V.heap.size by omega) kks), kO1, kO3⟩, kBB, fun x => by rw [D.out] at x; cases x⟩
 by_cases k4 : kd = 2
 ·subst k4
  obtain rfl : yy = 0 := Decidable.byContradiction (fun e => k2 ⟨e, by omega⟩)
  clear k1 k2
  have p6 := hCo.out.cell (i := 6) (by omega)
  have p6f := hCo.out.free (i := 6) (by omega)
  by_cases hcl : cl.toList = []
  all_goals
   first | have t1 : (cl.toList == []) = true := beq_iff_eq.2 hcl | have t1 : (cl.toList == []) = false := beq_eq_false_iff_ne.2 hcl
   first | have t1' : cl.toList.isEmpty = true := by rw [hcl]; rfl | have t1' : cl.toList.isEmpty = false := by rw [List.isEmpty_eq_false_iff]; exact hcl
   have Hcl := Lib.hid hcl
   clear hcl
   go_upto_region 11 with ((go_at_call 99; refine (l1In_any _ _ _ _).mono ?_; rintro e w' ⟨rfl, rfl⟩))
   have kE : Chg wA.heap.size (wA.heap.size + 1) V (V.setCell ⟨wA.heap.size, 6, none⟩ (.string cl)) := (Chg.refl _ _ V).setCell (p := ⟨wA.heap.size, 6, none⟩) (Nat.le_refl _) (Nat.lt_succ_self _) _
   have hCoF : Hid (Cells (V.setCell ⟨wA.heap.size, 6, none⟩ (.string cl)) wA.heap.size 9 (fun i => ([Value.string b.m.name, .int .i64 b.m.stage, .slice A1 b.m.x.length c1, .string b.bob, .string b.sing, .int .i64 b.step, .string cl, .string b.tru, .slice (some ⟨ga, 0, none⟩) b.rx.length c3] : List Value).getD i undef)) := Lib.hid ((hCo.out.set (i := 6) (by omega) (.string cl)).congr fun i hi => by
    match i, hi with
    | 0, _ => rfl
    | 1, _ => rfl
    | 2, _ => rfl
    | 3, _ => rfl
    | 4, _ => rfl
    | 5, _ => rfl
    | 6, _ => rfl
    | 7, _ => rfl
    | 8, _ => rfl)
   have hZF := Lib.hid (hZV.out.chg kE (.inl (show w.heap.size + 1 + 1 < wA.heap.size by omega)))
   have hAF := Lib.hid (hAV.out.chg kE (.inl (show w.heap.size + 1 < wA.heap.size by omega)))
   have hO1F := Lib.hid (hO1V.out.chg kE (.inl hg2))
   have hO3F := Lib.hid (hO3V.out.chg kE (.inl (Nat.le_refl _)))
   have hWF := Lib.hid (Below.chg hWV.out kE (by omega) hWV.out.size)
   have hsF := Nat.le_trans hsV kE.size
   clear kE hCo hZV hO1V hO3V hWV hAV hBV p6 p6f a0 a1 a2 a3 u1 t1 t1'
   generalize (V.setCell ⟨wA.heap.size, 6, none⟩ (.string cl)) = VF at *
   have a1 : VF.cell? ⟨w.heap.size + 1, 1, none⟩ = some (.int .i64 bl) := hAF.out.cell (i := 1) (by omega)
   have a3 : VF.cell? ⟨w.heap.size + 1, 3, none⟩ = some (.string cl) := hAF.out.cell (i := 3) (by omega)
   have c0_ : VF.cell? ⟨wA.heap.size, 0, none⟩ = some (.string b.m.name) := hCoF.out.cell (i := 0) (by omega)
   have c1_ : VF.cell? ⟨wA.heap.size, 1, none⟩ = some (.int .i64 b.m.stage) := hCoF.out.cell (i := 1) (by omega)
   have c2_ : VF.cell? ⟨wA.heap.size, 2, none⟩ = some (.slice A1 b.m.x.length c1) := hCoF.out.cell (i := 2) (by omega)
   have c3_ : VF.cell? ⟨wA.heap.size, 3, none⟩ = some (.string b.bob) := hCoF.out.cell (i := 3) (by omega)
   have c4_ : VF.cell? ⟨wA.heap.size, 4, none⟩ = some (.string b.sing) := hCoF.out.cell (i := 4) (by omega)
   have c5_ : VF.cell? ⟨wA.heap.size, 5, none⟩ = some (.int .i64 b.step) := hCoF.out.cell (i := 5) (by omega)
   have c6_ : VF.cell? ⟨wA.heap.size, 6, none⟩ = some (.string cl) := hCoF.out.cell (i := 6) (by omega)
   have c7_ : VF.cell? ⟨wA.heap.size, 7, none⟩ = some (.string b.tru) := hCoF.out.cell (i := 7) (by omega)
   have c8_ : VF.cell? ⟨wA.heap.size, 8, none⟩ = some (.slice (some ⟨ga, 0, none⟩) b.rx.length c3) := hCoF.out.cell (i := 8) (by omega)
   by_cases hb0 : bl = 0
   ·subst hb0
    by_cases hic : isCallP cl
    ·have D := Lib.hid (doR_2 (b := b) (kd := 2) (bl := 0) (yy := 0) (cl := cl) (fun x => by have := x.1; omega) ⟨⟨rfl, rfl, rfl, rfl⟩, hic⟩)
     have e5 := B_t hic
     clear hic
     have lc0 := LaterX.cell (r := w.heap.size + 1 + 1) (n := 9) c0_ (show wA.heap.size ≠ w.heap.size + 1 + 1 by omega)
     have lc1 := LaterX.cell (r := w.heap.size + 1 + 1) (n := 9) c1_ (show wA.heap.size ≠ w.heap.size + 1 + 1 by omega)
     have lc2 := LaterX.cell (r := w.heap.size + 1 + 1) (n := 9) c2_ (show wA.heap.size ≠ w.heap.size + 1 + 1 by omega)
     have lc3 := LaterX.cell (r := w.heap.size + 1 + 1) (n := 9) c3_ (show wA.heap.size ≠ w.heap.size + 1 + 1 by omega)
     have lc4 := LaterX.cell (r := w.heap.size + 1 + 1) (n := 9) c4_ (show wA.heap.size ≠ w.heap.size + 1 + 1 by omega)
     have lc5 := LaterX.cell (r := w.heap.size + 1 + 1) (n := 9) c5_ (show wA.heap.size ≠ w.heap.size + 1 + 1 by omega)
     have lc6 := LaterX.cell (r := w.heap.size + 1 + 1) (n := 9) c6_ (show wA.heap.size ≠ w.heap.size + 1 + 1 by omega)
     have lc7 := LaterX.cell (r := w.heap.size + 1 + 1) (n := 9) c7_ (show wA.heap.size ≠ w.heap.size + 1 + 1 by omega)
     have lc8 := LaterX.cell (r := w.heap.size + 1 + 1) (n := 9) c8_ (show wA.heap.size ≠ w.heap.size + 1 + 1 by omega)
     have la1 := LaterX.cell (r := w.heap.size + 1 + 1) (n := 9) a1 (show w.heap.size + 1 ≠ w.heap.size + 1 + 1 by omega)
     have la3 := LaterX.cell (r := w.heap.size + 1 + 1) (n := 9) a3 (show w.heap.size + 1 ≠ w.heap.size + 1 + 1 by omega)
     clear c0_ c1_ c2_ c3_ c4_ c5_ c6_ c7_ c8_ a1 a3
     haveI : Inhabited (LaterX VF (w.heap.size + 1 + 1) 9) := ⟨⟨VF, rfl, rfl, rfl, rfl, fun _ _ => rfl, _, hZF.out⟩⟩
     refine wp_region_G (by kernel_rfl) [.q, .q, .q, .q, .q, .q, .q, .q, .q, .t, .q] [0, 0, 0, 0, 0, 0, 0, 0, 0, 2, 0] rfl 3 (by kernel_rfl) (inX VF (w.heap.size + 1 + 1) 9) VF.heap.size (inX.size _ _ _) (inX.drew hZF.out) ?_
     (refine wpG_quiets 7 _ _ _ _ (by first | exact cls_none rfl | exact fun w h => h.1) (by intro j hj; rcases j with _ | _ | _ | _ | _ | _ | _ | _ | _ | _ | _ | j <;> first | exact ⟨rfl, ⟨_, rfl, rfl⟩, rfl⟩ | (exfalso; omega)) ?_; simp only [List.take_succ_cons, List.take_zero, List.drop_succ_cons, List.drop_zero, Nat.zero_add, Nat.reduceAdd]; change wpQuiet _ _ (fun wq9 => ∃ x : LaterX VF (w.heap.size + 1 + 1) 9, wq9 = x.W) _ _ _; (repeat (go_big_quiet_step (fail))); refine wpQuiet_nil ?_; try dsimp only)
     refine wpG_pure rfl rfl (cls_none rfl) (codes_not1 rfl) rfl 124 #[.string cl] (.bool true) (by intro w1; go_simp) (by intro w1 hw1; refine (l24Call_any _ _).mono ?_; rintro e w2 ⟨rfl, rfl⟩; exact ⟨by rw [e5], rfl⟩) ?_
     simp only [Act.put, List.setIfInBounds_toArray, List.set_cons_zero, List.set_cons_succ, Nat.reduceAdd]
     (refine wpG_quiets 1 _ _ _ _ (by first | exact cls_none rfl | exact fun w h => h.1) (by intro j hj; rcases j with _ | _ | _ | _ | _ | _ | _ | _ | _ | _ | _ | j <;> first | exact ⟨rfl, ⟨_, rfl, rfl⟩, rfl⟩ | (exfalso; omega)) ?_; simp only [List.take_succ_cons, List.take_zero, List.drop_succ_cons, List.drop_zero, Nat.zero_add, Nat.reduceAdd]; change wpQuiet _ _ (fun wq9 => ∃ x : LaterX VF (w.heap.size + 1 + 1) 9, wq9 = x.W) _ _ _; (repeat (go_big_quiet_step (fail))); refine wpQuiet_nil ?_; try dsimp only)
     refine wpG_t (fun w' => setN w' (w.heap.size + 1 + 1) 0 [Value.string b.m.name, .int .i64 b.m.stage, .slice A1 b.m.x.length c1, .string b.bob, .string b.sing, .int .i64 b.step, .string cl, .string b.tru, .slice (some ⟨ga, 0, none⟩) b.rx.length c3]) rfl rfl rfl rfl (by intro w1 hw1; have hX := hw1.cls rfl; obtain ⟨f, hf⟩ := hX.cells; have p0 := hf.cell (i := 0) (by omega); have q0 := hf.free (i := 0) (by omega); have p1 := hf.cell (i := 1) (by omega); have q1 := hf.free (i := 1) (by omega); have p2 := hf.cell (i := 2) (by omega); have q2 := hf.free (i := 2) (by omega); have p3 := hf.cell (i := 3) (by omega); have q3 := hf.free (i := 3) (by omega); have p4 := hf.cell (i := 4) (by omega); have q4 := hf.free (i := 4) (by omega); have p5 := hf.cell (i := 5) (by omega); have q5 := hf.free (i := 5) (by omega); have p6 := hf.cell (i := 6) (by omega); have q6 := hf.free (i := 6) (by omega); have p7 := hf.cell (i := 7) (by omega); have q7 := hf.free (i := 7) (by omega); have p8 := hf.cell (i := 8) (by omega); have q8 := hf.free (i := 8) (by omega); clear hw1; refine ⟨?_, hX.set _ rfl⟩; simp only [setN]; go_simp; try rfl) ?_
     simp only [Act.put, List.setIfInBounds_toArray, List.set_cons_zero, List.set_cons_succ, Nat.reduceAdd]
     (refine wpG_quiets 1 _ _ _ _ (by first | exact cls_none rfl | exact fun w h => h.1) (by intro j hj; rcases j with _ | _ | _ | _ | _ | _ | _ | _ | _ | _ | _ | j <;> first | exact ⟨rfl, ⟨_, rfl, rfl⟩, rfl⟩ | (exfalso; omega)) ?_; simp only [List.take_succ_cons, List.take_zero, List.drop_succ_cons, List.drop_zero, Nat.zero_add, Nat.reduceAdd]; change wpQuiet _ _ (fun wq9 => ∃ x : LaterX VF (w.heap.size + 1 + 1) 9, wq9 = x.W) _ _ _; (repeat (go_big_quiet_step (fail))); refine wpQuiet_nil ?_; try dsimp only)
     intro w' hh
     obtain ⟨_, wz, hz, rfl⟩ := hh
     have hX := hz.cls rfl
     obtain ⟨fz, hfz⟩ := hX.cells
     have hZ2 : Hid (Cells (setN wz (w.heap.size + 1 + 1) 0 [Value.string b.m.name, .int .i64 b.m.stage, .slice A1 b.m.x.length c1, .string b.bob, .string b.sing, .int .i64 b.step, .string cl, .string b.tru, .slice (some ⟨ga, 0, none⟩) b.rx.length c3]) (w.heap.size + 1 + 1) 9 (fun i => ([Value.string b.m.name, .int .i64 b.m.stage, .slice A1 b.m.x.length c1, .string b.bob, .string b.sing, .int .i64 b.step, .string cl, .string b.tru, .slice (some ⟨ga, 0, none⟩) b.rx.length c3] : List Value).getD i undef)) := Lib.hid (hfz.boxed _ rfl)
     have kk : Hid (Chg (w.heap.size + 1 + 1) (w.heap.size + 1 + 1 + 1) VF (setN wz (w.heap.size + 1 + 1) 0 [Value.string b.m.name, .int .i64 b.m.stage, .slice A1 b.m.x.length c1, .string b.bob, .string b.sing, .int .i64 b.step, .string cl, .string b.tru, .slice (some ⟨ga, 0, none⟩) b.rx.length c3])) := Lib.hid (Chg.setN (Nat.le_refl _) (Nat.lt_succ_self _) _ hX.chg)
     clear hz hX hfz lc0 lc1 lc2 lc3 lc4 lc5 lc6 lc7 lc8 la1 la3
     generalize setN wz (w.heap.size + 1 + 1) 0 [Value.string b.m.name, .int .i64 b.m.stage, .slice A1 b.m.x.length c1, .string b.bob, .string b.sing, .int .i64 b.step, .string cl, .string b.tru, .slice (some ⟨ga, 0, none⟩) b.rx.length c3] = T at *
     have q0 := hZ2.out.cell (i := 0) (by omega)
     have q1 := hZ2.out.cell (i := 1) (by omega)
     have q2 := hZ2.out.cell (i := 2) (by omega)
     have q3 := hZ2.out.cell (i := 3) (by omega)
     have q4 := hZ2.out.cell (i := 4) (by omega)
     have q5 := hZ2.out.cell (i := 5) (by omega)
     have q6 := hZ2.out.cell (i := 6) (by omega)
     have q7 := hZ2.out.cell (i := 7) (by omega)
     have q8 := hZ2.out.cell (i := 8) (by omega)
     simp only [List.getD_cons_zero, List.getD_cons_succ] at q0 q1 q2 q3 q4 q5 q6 q7 q8
     go_wp2
     refine bodyPost_ret (v := .tuple #[.agg #[.string b.m.name, .int .i64 b.m.stage, .slice A1 b.m.x.length c1, .string b.bob, .string b.sing, .int .i64 b.step, .string cl, .string b.tru, .slice (some ⟨ga, 0, none⟩) b.rx.length c3], .bool true]) (by simp [results, Tryz.results79, go_sem, q0, q1, q2, q3, q4, q5, q6, q7, q8]) rfl ?_
     have hlr : (b.rx).length = b.rx.length := by simp
     have kks := kk.out.size
     have kO1 := (hO1F.out.chg kk.out (.inr (by omega))).mono (show w.heap.size ≤ W.heap.size by omega) (Nat.le_refl _)
     have kO3 := (hO3F.out.chg kk.out (.inr (by omega))).mono (Nat.le_refl _) (Nat.le_trans (show wA.heap.size ≤ VF.heap.size by omega) kks)
     have kBB := Below.chg hWF.out kk.out (by omega) (by omega)
     exact ⟨_, ⟨b.m.name, b.m.stage, b.m.x, b.bob, b.sing, b.step, cl, b.tru, b.rx⟩, by rw [D.out], ⟨A1, c1, some ⟨ga, 0, none⟩, c3, gs, by first | (simp only [List.length_set]; done) | rfl, by omega, Nat.le_trans hg2 (Nat.le_trans (show wA.heap.size ≤ VF.heap.size by omega) kks), kO1, kO3⟩, kBB, fun _ => by rw [D.out]; rfl⟩
    ·have D := Lib.hid (doR_F (b := b) (kd := 2) (bl := 0) (yy := 0) (cl := cl) (fun x => by have := x.1; omega) (fun x => hic x.2) (fun _ x => by have := x.1; omega) (fun _ x => by have := x.1; omega) (fun _ x => by have := x.1.1; omega))
     have e5 := B_f hic
     clear hic
     have lc0 := LaterX.cell (r := w.heap.size + 1 + 1) (n := 9) c0_ (show wA.heap.size ≠ w.heap.size + 1 + 1 by omega)
     have lc1 := LaterX.cell (r := w.heap.size + 1 + 1) (n := 9) c1_ (show wA.heap.size ≠ w.heap.size + 1 + 1 by omega)
     have lc2 := LaterX.cell (r := w.heap.size + 1 + 1) (n := 9) c2_ (show wA.heap.size ≠ w.heap.size + 1 + 1 by omega)
     have lc3 := LaterX.cell (r := w.heap.size + 1 + 1) (n := 9) c3_ (show wA.heap.size ≠ w.heap.size + 1 + 1 by omega)
     have lc4 := LaterX.cell (r := w.heap.size + 1 + 1) (n := 9) c4_ (show wA.heap.size ≠ w.heap.size + 1 + 1 by omega)
     have lc5 := LaterX.cell (r := w.heap.size + 1 + 1) (n := 9) c5_ (show wA.heap.size ≠ w.heap.size + 1 + 1 by omega)
     have lc6 := LaterX.cell (r := w.heap.size + 1 + 1) (n := 9) c6_ (show wA.heap.size ≠ w.heap.size + 1 + 1 by omega)
     have lc7 := LaterX.cell (r := w.heap.size + 1 + 1) (n := 9) c7_ (show wA.heap.size ≠ w.heap.size + 1 + 1 by omega)
     have lc8 := LaterX.cell (r := w.heap.size + 1 + 1) (n := 9) c8_ (show wA.heap.size ≠ w.heap.size + 1 + 1 by omega)
     have la1 := LaterX.cell (r := w.heap.size + 1 + 1) (n := 9) a1 (show w.heap.size + 1 ≠ w.heap.size + 1 + 1 by omega)
     have la3 := LaterX.cell (r := w.heap.size + 1 + 1) (n := 9) a3 (show w.heap.size + 1 ≠ w.heap.size + 1 + 1 by omega)
     clear c0_ c1_ c2_ c3_ c4_ c5_ c6_ c7_ c8_ a1 a3
     haveI : Inhabited (LaterX VF (w.heap.size + 1 + 1) 9) := ⟨⟨VF, rfl, rfl, rfl, rfl, fun _ _ => rfl, _, hZF.out⟩⟩
     refine wp_region_G (by kernel_rfl) [.q, .q, .q, .q, .q, .q, .q, .q, .q, .t, .q] [0, 0, 0, 0, 0, 0, 0, 0, 0, 2, 0] rfl 3 (by kernel_rfl) (inX VF (w.heap.size + 1 + 1) 9) VF.heap.size (inX.size _ _ _) (inX.drew hZF.out) ?_
     (refine wpG_quiets 7 _ _ _ _ (by first | exact cls_none rfl | exact fun w h => h.1) (by intro j hj; rcases j with _ | _ | _ | _ | _ | _ | _ | _ | _ | _ | _ | j <;> first | exact ⟨rfl, ⟨_, rfl, rfl⟩, rfl⟩ | (exfalso; omega)) ?_; simp only [List.take_succ_cons, List.take_zero, List.drop_succ_cons, List.drop_zero, Nat.zero_add, Nat.reduceAdd]; change wpQuiet _ _ (fun wq9 => ∃ x : LaterX VF (w.heap.size + 1 + 1) 9, wq9 = x.W) _ _ _; (repeat (go_big_quiet_step (fail))); refine wpQuiet_nil ?_; try dsimp only)
     refine wpG_pure rfl rfl (cls_none rfl) (codes_not1 rfl) rfl 124 #[.string cl] (.bool false) (by intro w1; go_simp) (by intro w1 hw1; refine (l24Call_any _ _).mono ?_; rintro e w2 ⟨rfl, rfl⟩; exact ⟨by rw [e5], rfl⟩) ?_
     simp only [Act.put, List.setIfInBounds_toArray, List.set_cons_zero, List.set_cons_succ, Nat.reduceAdd]
     (refine wpG_quiets 1 _ _ _ _ (by first | exact cls_none rfl | exact fun w h => h.1) (by intro j hj; rcases j with _ | _ | _ | _ | _ | _ | _ | _ | _ | _ | _ | j <;> first | exact ⟨rfl, ⟨_, rfl, rfl⟩, rfl⟩ | (exfalso; omega)) ?_; simp only [List.take_succ_cons, List.take_zero, List.drop_succ_cons, List.drop_zero, Nat.zero_add, Nat.reduceAdd]; change wpQuiet _ _ (fun wq9 => ∃ x : LaterX VF (w.heap.size + 1 + 1) 9, wq9 = x.W) _ _ _; (repeat (go_big_quiet_step (fail))); refine wpQuiet_nil ?_; try dsimp only)
     refine wpG_t (fun w' => setN w' (w.heap.size + 1 + 1) 0 [Value.string b.m.name, .int .i64 b.m.stage, .slice A1 b.m.x.length c1, .string b.bob, .string b.sing, .int .i64 b.step, .string cl, .string b.tru, .slice (some ⟨ga, 0, none⟩) b.rx.length c3]) rfl rfl rfl rfl (by intro w1 hw1; have hX := hw1.cls rfl; obtain ⟨f, hf⟩ := hX.cells; have p0 := hf.cell (i := 0) (by omega); have q0 := hf.free (i := 0) (by omega); have p1 := hf.cell (i := 1) (by omega); have q1 := hf.free (i := 1) (by omega); have p2 := hf.cell (i := 2) (by omega); have q2 := hf.free (i := 2) (by omega); have p3 := hf.cell (i := 3) (by omega); have q3 := hf.free (i := 3) (by omega); have p4 := hf.cell (i := 4) (by omega); have q4 := hf.free (i := 4) (by omega); have p5 := hf.cell (i := 5) (by omega); have q5 := hf.free (i := 5) (by omega); have p6 := hf.cell (i := 6) (by omega); have q6 := hf.free (i := 6) (by omega); have p7 := hf.cell (i := 7) (by omega); have q7 := hf.free (i := 7) (by omega); have p8 := hf.cell (i := 8) (by omega); have q8 := hf.free (i := 8) (by omega); clear hw1; refine ⟨?_, hX.set _ rfl⟩; simp only [setN]; go_simp; try rfl) ?_
     simp only [Act.put, List.setIfInBounds_toArray, List.set_cons_zero, List.set_cons_succ, Nat.reduceAdd]
     (refine wpG_quiets 1 _ _ _ _ (by first | exact cls_none rfl | exact fun w h => h.1) (by intro j hj; rcases j with _ | _ | _ | _ | _ | _ | _ | _ | _ | _ | _ | j <;> first | exact ⟨rfl, ⟨_, rfl, rfl⟩, rfl⟩ | (exfalso; omega)) ?_; simp only [List.take_succ_cons, List.take_zero, List.drop_succ_cons, List.drop_zero, Nat.zero_add, Nat.reduceAdd]; change wpQuiet _ _ (fun wq9 => ∃ x : LaterX VF (w.heap.size + 1 + 1) 9, wq9 = x.W) _ _ _; (repeat (go_big_quiet_step (fail))); refine wpQuiet_nil ?_; try dsimp only)
     intro w' hh
     obtain ⟨_, wz, hz, rfl⟩ := hh
     have hX := hz.cls rfl
     obtain ⟨fz, hfz⟩ := hX.cells
     have hZ2 : Hid (Cells (setN wz (w.heap.size + 1 + 1) 0 [Value.string b.m.name, .int .i64 b.m.stage, .slice A1 b.m.x.length c1, .string b.bob, .string b.sing, .int .i64 b.step, .string cl, .string b.tru, .slice (some ⟨ga, 0, none⟩) b.rx.length c3]) (w.heap.size + 1 + 1) 9 (fun i => ([Value.string b.m.name, .int .i64 b.m.stage, .slice A1 b.m.x.length c1, .string b.bob, .string b.sing, .int .i64 b.step, .string cl, .string b.tru, .slice (some ⟨ga, 0, none⟩) b.rx.length c3] : List Value).getD i undef)) := Lib.hid (hfz.boxed _ rfl)
     have kk : Hid (Chg (w.heap.size + 1 + 1) (w.heap.size + 1 + 1 + 1) VF (setN wz (w.heap.size + 1 + 1) 0 [Value.string b.m.name, .int .i64 b.m.stage, .slice A1 b.m.x.length c1, .string b.bob, .string b.sing, .int .i64 b.step, .string cl, .string b.tru, .slice (some ⟨ga, 0, none⟩) b.rx.length c3])) := Lib.hid (Chg.setN (Nat.le_refl _) (Nat.lt_succ_self _) _ hX.chg)
     clear hz hX hfz lc0 lc1 lc2 lc3 lc4 lc5 lc6 lc7 lc8 la1 la3
     generalize setN wz (w.heap.size + 1 + 1) 0 [Value.string b.m.name, .int .i64 b.m.stage, .slice A1 b.m.x.length c1, .string b.bob, .string b.sing, .int .i64 b.step, .string cl, .string b.tru, .slice (some ⟨ga, 0, none⟩) b.rx.length c3] = T at *
     have q0 := hZ2.out.cell (i := 0) (by omega)
     have q1 := hZ2.out.cell (i := 1) (by omega)
     have q2 := hZ2.out.cell (i := 2) (by omega)
     have q3 := hZ2.out.cell (i := 3) (by omega)
     have q4 := hZ2.out.cell (i := 4) (by omega)
     have q5 := hZ2.out.cell (i := 5) (by omega)
     have q6 := hZ2.out.cell (i := 6) (by omega)
     have q7 := hZ2.out.cell (i := 7) (by omega)
     have q8 := hZ2.out.cell (i := 8) (by omega)
     simp only [List.getD_cons_zero, List.getD_cons_succ] at q0 q1 q2 q3 q4 q5 q6 q7 q8
     go_wp2
     refine bodyPost_ret (v := .tuple #[.agg #[.string b.m.name, .int .i64 b.m.stage, .slice A1 b.m.x.length c1, .string b.bob, .string b.sing, .int .i64 b.step, .string cl, .string b.tru, .slice (some ⟨ga, 0, none⟩) b.rx.length c3], .bool false]) (by simp [results, Tryz.results79, go_sem, q0, q1, q2, q3, q4, q5, q6, q7, q8]) rfl ?_
     have hlr : (b.rx).length = b.rx.length := by simp
     have kks := kk.out.size
     have kO1 := (hO1F.out.chg kk.out (.inr (by omega))).mono (show w.heap.size ≤ W.heap.size by omega) (Nat.le_refl _)
     have kO3 := (hO3F.out.chg kk.out (.inr (by omega))).mono (Nat.le_refl _) (Nat.le_trans (show wA.heap.size ≤ VF.heap.size by omega) kks)
     have kBB := Below.chg hWF.out kk.out (by omega) (by omega)
     exact ⟨_, ⟨b.m.name, b.m.stage, b.m.x, b.bob, b.sing, b.step, cl, b.tru, b.rx⟩, by rw [D.out], ⟨A1, c1, some ⟨ga, 0, none⟩, c3, gs, by first | (simp only [List.length_set]; done) | rfl, by omega, Nat.le_trans hg2 (Nat.le_trans (show wA.heap.size ≤ VF.heap.size by omega) kks), kO1, kO3⟩, kBB, fun x => by rw [D.out] at x; cases x⟩
   ·have D := Lib.hid (doR_F (b := b) (kd := 2) (bl := bl) (yy := 0) (cl := cl) (fun x => by have := x.1; omega) (fun x => hb0 x.1.2.1) (fun _ x => by have := x.1; omega) (fun _ x => by have := x.1; omega) (fun _ x => by have := x.1.1; omega))
    have e6 : (bl == 0) = false := beq_eq_false_iff_ne.2 hb0
    clear hb0
    have lc0 := LaterX.cell (r := w.heap.size + 1 + 1) (n := 9) c0_ (show wA.heap.size ≠ w.heap.size + 1 + 1 by omega)
    have lc1 := LaterX.cell (r := w.heap.size + 1 + 1) (n := 9) c1_ (show wA.heap.size ≠ w.heap.size + 1 + 1 by omega)
    have lc2 := LaterX.cell (r := w.heap.size + 1 + 1) (n := 9) c2_ (show wA.heap.size ≠ w.heap.size + 1 + 1 by omega)
    have lc3 := LaterX.cell (r := w.heap.size + 1 + 1) (n := 9) c3_ (show wA.heap.size ≠ w.heap.size + 1 + 1 by omega)
    have lc4 := LaterX.cell (r := w.heap.size + 1 + 1) (n := 9) c4_ (show wA.heap.size ≠ w.heap.size + 1 + 1 by omega)
    have lc5 := LaterX.cell (r := w.heap.size + 1 + 1) (n := 9) c5_ (show wA.heap.size ≠ w.heap.size + 1 + 1 by omega)
    have lc6 := LaterX.cell (r := w.heap.size + 1 + 1) (n := 9) c6_ (show wA.heap.size ≠ w.heap.size + 1 + 1 by omega)
    have lc7 := LaterX.cell (r := w.heap.size + 1 + 1) (n := 9) c7_ (show wA.heap.size ≠ w.heap.size + 1 + 1 by omega)
    have lc8 := LaterX.cell (r := w.heap.size + 1 + 1) (n := 9) c8_ (show wA.heap.size ≠ w.heap.size + 1 + 1 by omega)
    have la1 := LaterX.cell (r := w.heap.size + 1 + 1) (n := 9) a1 (show w.heap.size + 1 ≠ w.heap.size + 1 + 1 by omega)
    have la3 := LaterX.cell (r := w.heap.size + 1 + 1) (n := 9) a3 (show w.heap.size + 1 ≠ w.heap.size + 1 + 1 by omega)
    clear c0_ c1_ c2_ c3_ c4_ c5_ c6_ c7_ c8_ a1 a3
    haveI : Inhabited (LaterX VF (w.heap.size + 1 + 1) 9) := ⟨⟨VF, rfl, rfl, rfl, rfl, fun _ _ => rfl, _, hZF.out⟩⟩
    refine wp_region_G (by kernel_rfl) [.q, .q, .q, .q, .q, .q, .q, .q, .q, .t, .q] [0, 0, 0, 0, 0, 0, 0, 0, 0, 2, 0] rfl 3 (by kernel_rfl) (inX VF (w.heap.size + 1 + 1) 9) VF.heap.size (inX.size _ _ _) (inX.drew hZF.out) ?_
    (refine wpG_quiets 7 _ _ _ _ (by first | exact cls_none rfl | exact fun w h => h.1) (by intro j hj; rcases j with _ | _ | _ | _ | _ | _ | _ | _ | _ | _ | _ | j <;> first | exact ⟨rfl, ⟨_, rfl, rfl⟩, rfl⟩ | (exfalso; omega)) ?_; simp only [List.take_succ_cons, List.take_zero, List.drop_succ_cons, List.drop_zero, Nat.zero_add, Nat.reduceAdd]; change wpQuiet _ _ (fun wq9 => ∃ x : LaterX VF (w.heap.size + 1 + 1) 9, wq9 = x.W) _ _ _; (repeat (go_big_quiet_step (fail))); refine wpQuiet_nil ?_; try dsimp only)
    refine wpG_skip rfl rfl (cls_none rfl) rfl ?_
    simp only [Act.put, List.setIfInBounds_toArray, List.set_cons_zero, List.set_cons_succ, Nat.reduceAdd]
    (refine wpG_quiets 1 _ _ _ _ (by first | exact cls_none rfl | exact fun w h => h.1) (by intro j hj; rcases j with _ | _ | _ | _ | _ | _ | _ | _ | _ | _ | _ | j <;> first | exact ⟨rfl, ⟨_, rfl, rfl⟩, rfl⟩ | (exfalso; omega)) ?_; simp only [List.take_succ_cons, List.take_zero, List.drop_succ_cons, List.drop_zero, Nat.zero_add, Nat.reduceAdd]; change wpQuiet _ _ (fun wq9 => ∃ x : LaterX VF (w.heap.size + 1 + 1) 9, wq9 = x.W) _ _ _; (repeat (go_big_quiet_step (fail))); refine wpQuiet_nil ?_; try dsimp only)
    refine wpG_t (fun w' => setN w' (w.heap.size + 1 + 1) 0 [Value.string b.m.name, .int .i64 b.m.stage, .slice A1 b.m.x.length c1, .string b.bob, .string b.sing, .int .i64 b.step, .string cl, .string b.tru, .slice (some ⟨ga, 0, none⟩) b.rx.length c3]) rfl rfl rfl rfl (by intro w1 hw1; have hX := hw1.cls rfl; obtain ⟨f, hf⟩ := hX.cells; have p0 := hf.cell (i := 0) (by omega); have q0 := hf.free (i := 0) (by omega); have p1 := hf.cell (i := 1) (by omega); have q1 := hf.free (i := 1) (by omega); have p2 := hf.cell (i := 2) (by omega); have q2 := hf.free (i := 2) (by omega); have p3 := hf.cell (i := 3) (by omega); have q3 := hf.free (i := 3) (by omega); have p4 := hf.cell (i := 4) (by omega); have q4 := hf.free (i := 4) (by omega); have p5 := hf.cell (i := 5) (by omega); have q5 := hf.free (i := 5) (by omega); have p6 := hf.cell (i := 6) (by omega); have q6 := hf.free (i := 6) (by omega); have p7 := hf.cell (i := 7) (by omega); have q7 := hf.free (i := 7) (by omega); have p8 := hf.cell (i := 8) (by omega); have q8 := hf.free (i := 8) (by omega); clear hw1; refine ⟨?_, hX.set _ rfl⟩; simp only [setN]; go_simp; try rfl) ?_
    simp only [Act.put, List.setIfInBounds_toArray, List.set_cons_zero, List.set_cons_succ, Nat.reduceAdd]
    (refine wpG_quiets 1 _ _ _ _ (by first | exact cls_none rfl | exact fun w h => h.1) (by intro j hj; rcases j with _ | _ | _ | _ | _ | _ | _ | _ | _ | _ | _ | j <;> first | exact ⟨rfl, ⟨_, rfl, rfl⟩, rfl⟩ | (exfalso; omega)) ?_; simp only [List.take_succ_cons, List.take_zero, List.drop_succ_cons, List.drop_zero, Nat.zero_add, Nat.reduceAdd]; change wpQuiet _ _ (fun wq9 => ∃ x : LaterX VF (w.heap.size + 1 + 1) 9, wq9 = x.W) _ _ _; (repeat (go_big_quiet_step (fail))); refine wpQuiet_nil ?_; try dsimp only)
    intro w' hh
    obtain ⟨_, wz, hz, rfl⟩ := hh
    have hX := hz.cls rfl
    obtain ⟨fz, hfz⟩ := hX.cells
    have hZ2 : Hid (Cells (setN wz (w.heap.size + 1 + 1) 0 [Value.string b.m.name, .int .i64 b.m.stage, .slice A1 b.m.x.length c1, .string b.bob, .string b.sing, .int .i64 b.step, .string cl, .string b.tru, .slice (some ⟨ga, 0, none⟩) b.rx.length c3]) (w.heap.size + 1 + 1) 9 (fun i => ([Value.string b.m.name, .int .i64 b.m.stage, .slice A1 b.m.x.length c1, .string b.bob, .string b.sing, .int .i64 b.step, .string cl, .string b.tru, .slice (some ⟨ga, 0, none⟩) b.rx.length c3] : List Value).getD i undef)) := Lib.hid (hfz.boxed _ rfl)
    have kk : Hid (Chg (w.heap.size + 1 + 1) (w.heap.size + 1 + 1 + 1) VF (setN wz (w.heap.size + 1 + 1) 0 [Value.string b.m.name, .int .i64 b.m.stage, .slice A1 b.m.x.length c1, .string b.bob, .string b.sing, .int .i64 b.step, .string cl, .string b.tru, .slice (some ⟨ga, 0, none⟩) b.rx.length c3])) := Lib.hid (Chg.setN (Nat.le_refl _) (Nat.lt_succ_self _) _ hX.chg)
    clear hz hX hfz lc0 lc1 lc2 lc3 lc4 lc5 lc6 lc7 lc8 la1 la3
    generalize setN wz (w.heap.size + 1 + 1) 0 [Value.string b.m.name, .int .i64 b.m.stage, .slice A1 b.m.x.length c1, .string b.bob, .string b.sing, .int .i64 b.step, .string cl, .string b.tru, .slice (some ⟨ga, 0, none⟩) b.rx.length c3] = T at *
    have q0 := hZ2.out.cell (i := 0) (by omega)
    have q1 := hZ2.out.cell (i := 1) (by omega)
    have q2 := hZ2.out.cell (i := 2) (by omega)
    have q3 := hZ2.out.cell (i := 3) (by omega)
    have q4 := hZ2.out.cell (i := 4) (by omega)
    have q5 := hZ2.out.cell (i := 5) (by omega)
    have q6 := hZ2.out.cell (i := 6) (by omega)
    have q7 := hZ2.out.cell (i := 7) (by omega)
    have q8 := hZ2.out.cell (i := 8) (by omega)
    simp only [List.getD_cons_zero, List.getD_cons_succ] at q0 q1 q2 q3 q4 q5 q6 q7 q8
    go_wp2
    refine bodyPost_ret (v := .tuple #[.agg #[.string b.m.name, .int .i64 b.m.stage, .slice A1 b.m.x.length c1, .string b.bob, .string b.sing, .int .i64 b.step, .string cl, .string b.tru, .slice (some ⟨ga, 0, none⟩) b.rx.length c3], .bool false]) (by simp [results, Tryz.results79, go_sem, q0, q1, q2, q3, q4, q5, q6, q7, q8]) rfl ?_
    have hlr : (b.rx).length = b.rx.length := by simp
    have kks := kk.out.size
    have kO1 := (hO1F.out.chg kk.out (.inr (by omega))).mono (show w.heap.size ≤ W.heap.size by omega) (Nat.le_refl _)
    have kO3 := (hO3F.out.chg kk.out (.inr (by omega))).mono (Nat.le_refl _) (Nat.le_trans (show wA.heap.size ≤ VF.heap.size by omega) kks)
    have kBB := Below.chg hWF.out kk.out (by omega) (by omega)
    exact ⟨_, ⟨b.m.name, b.m.stage, b.m.x, b.bob, b.sing, b.step, cl, b.tru, b.rx⟩, by rw [D.out], ⟨A1, c1, some ⟨ga, 0, none⟩, c3, gs, by first | (simp only [List.length_set]; done) | rfl, by omega, Nat.le_trans hg2 (Nat.le_trans (show wA.heap.size ≤ VF.heap.size by omega) kks), kO1, kO3⟩, kBB, fun x => by rw [D.out] at x; cases x⟩
 obtain rfl : cl = ⟨#[]⟩ := Decidable.byContradiction (fun e => k1 ⟨e, k4⟩)
 clear k1
 have t2 : (kd == 2) = false := beq_eq_false_iff_ne.2 k4
 by_cases k5 : kd = 1
 ·subst k5
  obtain rfl : yy = 0 := Decidable.byContradiction (fun e => k2 ⟨e, by omega⟩)
  clear k2 k4
  have u0 : V.cell? ⟨w.heap.size, 0, none⟩ = some (Value.string b.m.name) := hBV.out.cell (i := 0) (by omega)
  have u1 : V.cell? ⟨w.heap.size, 1, none⟩ = some (.int .i64 b.m.stage) := hBV.out.cell (i := 1) (by omega)
  have u2 : V.cell? ⟨w.heap.size, 2, none⟩ = some (.slice b.m.A b.m.x.length b.m.c) := hBV.out.cell (i := 2) (by omega)
  have u3 : V.cell? ⟨w.heap.size, 3, none⟩ = some (.string b.bob) := hBV.out.cell (i := 3) (by omega)
  have u4 : V.cell? ⟨w.heap.size, 4, none⟩ = some (.string b.sing) := hBV.out.cell (i := 4) (by omega)
  have u5 : V.cell? ⟨w.heap.size, 5, none⟩ = some (.int .i64 b.step) := hBV.out.cell (i := 5) (by omega)
  have u6 : V.cell? ⟨w.heap.size, 6, none⟩ = some (.string b.call) := hBV.out.cell (i := 6) (by omega)
  have u7 : V.cell? ⟨w.heap.size, 7, none⟩ = some (.string b.tru) := hBV.out.cell (i := 7) (by omega)
  have u8 : V.cell? ⟨w.heap.size, 8, none⟩ = some (.slice b.RA b.rx.length b.rc) := hBV.out.cell (i := 8) (by omega)
  have hCr := hZV.out
  have r0 := hCr.cell (i := 0) (by omega)
  have rf0 := hCr.free (i := 0) (by omega)
  have r1 := hCr.cell (i := 1) (by omega)
  have rf1 := hCr.free (i := 1) (by omega)
  have r2 := hCr.cell (i := 2) (by omega)
  have rf2 := hCr.free (i := 2) (by omega)
  have r3 := hCr.cell (i := 3) (by omega)
  have rf3 := hCr.free (i := 3) (by omega)
  have r4 := hCr.cell (i := 4) (by omega)
  have rf4 := hCr.free (i := 4) (by omega)
  have r5 := hCr.cell (i := 5) (by omega)
  have rf5 := hCr.free (i := 5) (by omega)
  have r6 := hCr.cell (i := 6) (by omega)
  have rf6 := hCr.free (i := 6) (by omega)
  have r7 := hCr.cell (i := 7) (by omega)
  have rf7 := hCr.free (i := 7) (by omega)
  have r8 := hCr.cell (i := 8) (by omega)
  have rf8 := hCr.free (i := 8) (by omega)
  obtain ⟨d, hd⟩ : ∃ d, Hid (stepD b = d) := ⟨_, Lib.hid rfl⟩
  have hcall : ∀ w1, Below V.heap.size V w1 → Calls Tryz.prog 82 #[.agg #[Value.string b.m.name, .int .i64 b.m.stage, .slice b.m.A b.m.x.length b.m.c, .string b.bob, .string b.sing, .int .i64 b.step, .string b.call, .string b.tru, .slice b.RA b.rx.length b.rc]] w1 fun e w' => BdOne d w1 e w' := fun w1 hb1 => by
   rw [← hd.out]
   exact l24Step_any b w1 ((H0.out.below (hWV.out.trans (hb1.mono hWV.out.size)) (Nat.le_refl _)).more (Nat.le_trans hWV.out.size hb1.size)) ((Hr0.out.below (hWV.out.trans (hb1.mono hWV.out.size)) (Nat.le_refl _)).more (Nat.le_trans hWV.out.size hb1.size)) hl HP.out
  have Hcall := Lib.hid hcall
  clear hcall
  go_upto_region 8 with ((go_at_call 99; refine (l1In_any _ _ _ _).mono ?_; rintro e w' ⟨rfl, rfl⟩))
  obtain ⟨okb, hokb⟩ : ∃ okb, Hid ((bl == 0) = okb) := ⟨_, Lib.hid rfl⟩
  have hcells := Lib.hid (show ∀ p : Addr, p.block < V.heap.size → ∀ w1, Below V.heap.size V w1 → w1.cell? p = V.cell? p from fun p hp w1 hb1 => hb1.cell hp)
  refine wp_region_inv0 (by kernel_rfl) (stepVal b d (w.heap.size + 1) bl okb) (stepInv V (w.heap.size + 1 + 1) d) (by kernel_rfl) (by kernel_rfl) (none, 0, none, 0) ⟨fun p hp => rfl, fun _ => ⟨(Below.refl _ _).drew, fun h => by cases h⟩, fun h => by cases h⟩ ?_ (fun S => [(some 42, .agg #[Value.string b.m.name, .int .i64 b.m.stage, .slice b.m.A b.m.x.length b.m.c, .string b.bob, .string b.sing, .int .i64 b.step, .string b.call, .string b.tru, .slice b.RA b.rx.length b.rc]), (some 43, stepAgg d S), (some 44, .pointer (some ⟨w.heap.size + 1, 1, none⟩)), (some 45, .int .i64 bl), (some 46, .bool okb), (none, undef), (some 5, .bool okb)]) (fun S => rfl) ?_ (ready_end (by kernel_rfl))
  ·intro i o ho S L w1 ρ hI hLi hw hd' hout
   have hbw := hI.1
   have r2' : ρ (.tmp 2) = .pointer (some ⟨w.heap.size, 0, none⟩) := hout _ (not_dst (by kernel_rfl))
   have r3' : ρ (.tmp 3) = .pointer (some ⟨w.heap.size + 1, 0, none⟩) := hout _ (not_dst (by kernel_rfl))
   have r4' : ρ (.tmp 4) = .pointer (some ⟨w.heap.size + 1 + 1, 0, none⟩) := hout _ (not_dst (by kernel_rfl))
   have rc : ∀ v, ρ (.const v) = v := fun v => hout _ not_dst_const
   have rfn : ∀ f, ρ (.func f) = .func (.func f) #[] #[] := fun f => hout _ (fun _ _ _ h => by cases h)
   have a1' : w1.cell? ⟨w.heap.size + 1, 1, none⟩ = some (.int .i64 bl) := (hbw ⟨w.heap.size + 1, 1, none⟩ (Nat.lt_succ_self _)).trans a1
   have u0' : w1.cell? ⟨w.heap.size, 0, none⟩ = some (Value.string b.m.name) := (hbw ⟨w.heap.size, 0, none⟩ (show w.heap.size < w.heap.size + 1 + 1 by omega)).trans u0
   have u1' : w1.cell? ⟨w.heap.size, 1, none⟩ = some (.int .i64 b.m.stage) := (hbw ⟨w.heap.size, 1, none⟩ (show w.heap.size < w.heap.size + 1 + 1 by omega)).trans u1
   have u2' : w1.cell? ⟨w.heap.size, 2, none⟩ = some (.slice b.m.A b.m.x.length b.m.c) := (hbw ⟨w.heap.size, 2, none⟩ (show w.heap.size < w.heap.size + 1 + 1 by omega)).trans u2
   have u3' : w1.cell? ⟨w.heap.size, 3, none⟩ = some (.string b.bob) := (hbw ⟨w.heap.size, 3, none⟩ (show w.heap.size < w.heap.size + 1 + 1 by omega)).trans u3
   have u4' : w1.cell? ⟨w.heap.size, 4, none⟩ = some (.string b.sing) := (hbw ⟨w.heap.size, 4, none⟩ (show w.heap.size < w.heap.size + 1 + 1 by omega)).trans u4
   have u5' : w1.cell? ⟨w.heap.size, 5, none⟩ = some (.int .i64 b.step) := (hbw ⟨w.heap.size, 5, none⟩ (show w.heap.size < w.heap.size + 1 + 1 by omega)).trans u5
   have u6' : w1.cell? ⟨w.heap.size, 6, none⟩ = some (.string b.call) := (hbw ⟨w.heap.size, 6, none⟩ (show w.heap.size < w.heap.size + 1 + 1 by omega)).trans u6
   have u7' : w1.cell? ⟨w.heap.size, 7, none⟩ = some (.string b.tru) := (hbw ⟨w.heap.size, 7, none⟩ (show w.heap.size < w.heap.size + 1 + 1 by omega)).trans u7
   have u8' : w1.cell? ⟨w.heap.size, 8, none⟩ = some (.slice b.RA b.rx.length b.rc) := (hbw ⟨w.heap.size, 8, none⟩ (show w.heap.size < w.heap.size + 1 + 1 by omega)).trans u8
   match i, ho with
   | 0, ho =>
    obtain rfl := Option.some.inj ho.symm
    exact iRun_val (v := .agg #[Value.string b.m.name, .int .i64 b.m.stage, .slice b.m.A b.m.x.length b.m.c, .string b.bob, .string b.sing, .int .i64 b.step, .string b.call, .string b.tru, .slice b.RA b.rx.length b.rc]) (w' := w1) (by simp [execOp, r2', go_sem, u0', u1', u2', u3', u4', u5', u6', u7', u8']) ⟨S, fun _ _ => rfl, rfl, hI.keep (by omega) (by omega)⟩
   | 1, ho =>
    obtain rfl := Option.some.inj ho.symm
    have d1 : ρ (.tmp 42) = .agg #[Value.string b.m.name, .int .i64 b.m.stage, .slice b.m.A b.m.x.length b.m.c, .string b.bob, .string b.sing, .int .i64 b.step, .string b.call, .string b.tru, .slice b.RA b.rx.length b.rc] := hd' 0 42 (hw 0 (wait_mem (by kernel_rfl))) rfl
    have h5 : L 5 = false := hI.five hLi
    have hm := hI.2.1 h5
    refine iRun_call (w' := w1) (f := 82) (args := #[.agg #[Value.string b.m.name, .int .i64 b.m.stage, .slice b.m.A b.m.x.length b.m.c, .string b.bob, .string b.sing, .int .i64 b.step, .string b.call, .string b.tru, .slice b.RA b.rx.length b.rc]]) (by simp [execOp, d1, rc, rfn, go_sem]) ((Hcall.out w1 hm.1).mono ?_)
    rintro e w2 ⟨v, rfl, ⟨A1, c1, A3, c3, gs, rfl, g1, g2, o1, o3⟩, hb2⟩
    refine ⟨_, rfl, (A1, c1, A3, c3), fun k hk => ?_, rfl, hI.called (by omega) h5 ⟨hm.1.trans (hb2.mono hm.1.size), w1.heap.size, gs, hm.1.size, g1, g2, o1, o3⟩ hb2⟩
    have n1 : k ≠ 1 := fun e => by subst e; rw [hLi] at hk; cases hk
    exact stepVal_g n1
   | 2, ho =>
    obtain rfl := Option.some.inj ho.symm
    exact iRun_val (v := .pointer (some ⟨w.heap.size + 1, 1, none⟩)) (w' := w1) (by simp [execOp, r3', go_sem]) ⟨S, fun _ _ => rfl, rfl, hI.keep (by omega) (by omega)⟩
   | 3, ho =>
    obtain rfl := Option.some.inj ho.symm
    have d1 : ρ (.tmp 44) = .pointer (some ⟨w.heap.size + 1, 1, none⟩) := hd' 2 44 (hw 2 (wait_mem (by kernel_rfl))) rfl
    exact iRun_val (v := .int .i64 bl) (w' := w1) (by simp [execOp, d1, go_sem, a1']) ⟨S, fun _ _ => rfl, rfl, hI.keep (by omega) (by omega)⟩
   | 4, ho =>
    obtain rfl := Option.some.inj ho.symm
    have d1 : ρ (.tmp 45) = .int .i64 bl := hd' 3 45 (hw 3 (wait_mem (by kernel_rfl))) rfl
    exact iRun_val (v := .bool okb) (w' := w1) (by simp [execOp, d1, rc, go_sem, hokb.out]) ⟨S, fun _ _ => rfl, rfl, hI.keep (by omega) (by omega)⟩
   | 5, ho =>
    obtain rfl := Option.some.inj ho.symm
    have l1 := hw 1 (wait_mem (by kernel_rfl))
    have d1 : ρ (.tmp 43) = stepAgg d S := hd' 1 43 l1 rfl
    have hm := (hI.2.1 hLi).2 l1
    have hb1 := hm.1
    have hZ1 := hZV.out.later hb1
    have q0 := hZ1.cell (i := 0) (by omega)
    have qf0 := hZ1.free (i := 0) (by omega)
    have q1 := hZ1.cell (i := 1) (by omega)
    have qf1 := hZ1.free (i := 1) (by omega)
    have q2 := hZ1.cell (i := 2) (by omega)
    have qf2 := hZ1.free (i := 2) (by omega)
    have q3 := hZ1.cell (i := 3) (by omega)
    have qf3 := hZ1.free (i := 3) (by omega)
    have q4 := hZ1.cell (i := 4) (by omega)
    have qf4 := hZ1.free (i := 4) (by omega)
    have q5 := hZ1.cell (i := 5) (by omega)
    have qf5 := hZ1.free (i := 5) (by omega)
    have q6 := hZ1.cell (i := 6) (by omega)
    have qf6 := hZ1.free (i := 6) (by omega)
    have q7 := hZ1.cell (i := 7) (by omega)
    have qf7 := hZ1.free (i := 7) (by omega)
    have q8 := hZ1.cell (i := 8) (by omega)
    have qf8 := hZ1.free (i := 8) (by omega)
    exact iRun_skip (w' := setN w1 (w.heap.size + 1 + 1) 0 (stepCells d S)) (by simp [execOp, r4', d1, stepAgg, stepCells, setN, go_sem, q0, qf0, q1, qf1, q2, qf2, q3, qf3, q4, qf4, q5, qf5, q6, qf6, q7, qf7, q8, qf8]) ⟨S, fun _ _ => rfl, rfl, hI.stored (by omega) hLi l1⟩
   | 6, ho =>
    obtain rfl := Option.some.inj ho.symm
    have d1 : ρ (.tmp 46) = .bool okb := hd' 4 46 (hw 4 (wait_mem (by kernel_rfl))) rfl
    exact iRun_val (v := .bool okb) (w' := w1) (by simp [execOp, d1, go_sem]) ⟨S, fun _ _ => rfl, rfl, hI.keep (by omega) (by omega)⟩
   | _ + 7, ho => exact absurd ho (by simp)
  ·intro S L w1 hL hI
   obtain ⟨_, u, ⟨hb1, lo, gs2, h1, h2, h3, o1, o3⟩, rfl⟩ := hI.2.2 (hL 5 (by decide))
   obtain ⟨B1, e1, B3, e3⟩ := S
   simp only [putAll, List.foldl_cons, List.foldl_nil, Act.put, List.setIfInBounds_toArray, List.set_cons_zero, List.set_cons_succ, Nat.reduceAdd]
   have hZ1 := hZV.out.later hb1
   clear r0 rf0 r1 rf1 r2 rf2 r3 rf3 r4 rf4 r5 rf5 r6 rf6 r7 rf7 r8 rf8 hCr u0 u1 u2 u3 u4 u5 u6 u7 u8 a0 a1 a2 a3
   have q0 := hZ1.cell (i := 0) (by omega)
   have qf0 := hZ1.free (i := 0) (by omega)
   have q1 := hZ1.cell (i := 1) (by omega)
   have qf1 := hZ1.free (i := 1) (by omega)
   have q2 := hZ1.cell (i := 2) (by omega)
   have qf2 := hZ1.free (i := 2) (by omega)
   have q3 := hZ1.cell (i := 3) (by omega)
   have qf3 := hZ1.free (i := 3) (by omega)
   have q4 := hZ1.cell (i := 4) (by omega)
   have qf4 := hZ1.free (i := 4) (by omega)
   have q5 := hZ1.cell (i := 5) (by omega)
   have qf5 := hZ1.free (i := 5) (by omega)
   have q6 := hZ1.cell (i := 6) (by omega)
   have qf6 := hZ1.free (i := 6) (by omega)
   have q7 := hZ1.cell (i := 7) (by omega)
   have qf7 := hZ1.free (i := 7) (by omega)
   have q8 := hZ1.cell (i := 8) (by omega)
   have qf8 := hZ1.free (i := 8) (by omega)
   simp only [stepCells]
   have hZ2 : Hid (Cells (setN u (w.heap.size + 1 + 1) 0 [Value.string d.name, .int .i64 d.stage, .slice B1 d.x.length e1, .string d.bob, .string d.sing, .int .i64 d.step, .string d.call, .string d.tru, .slice B3 d.rx.length e3]) (w.heap.size + 1 + 1) 9 (fun i => ([Value.string d.name, .int .i64 d.stage, .slice B1 d.x.length e1, .string d.bob, .string d.sing, .int .i64 d.step, .string d.call, .string d.tru, .slice B3 d.rx.length e3] : List Value).getD i undef)) := Lib.hid (hZ1.boxed _ rfl)
   have kk : Hid (Chg (w.heap.size + 1 + 1) (w.heap.size + 1 + 1 + 1) u (setN u (w.heap.size + 1 + 1) 0 [Value.string d.name, .int .i64 d.stage, .slice B1 d.x.length e1, .string d.bob, .string d.sing, .int .i64 d.step, .string d.call, .string d.tru, .slice B3 d.rx.length e3])) := Lib.hid (Chg.setN (Nat.le_refl _) (Nat.lt_succ_self _) _ (Chg.refl _ _ u))
   clear q0 qf0 q1 qf1 q2 qf2 q3 qf3 q4 qf4 q5 qf5 q6 qf6 q7 qf7 q8 qf8
   generalize setN u (w.heap.size + 1 + 1) 0 [Value.string d.name, .int .i64 d.stage, .slice B1 d.x.length e1, .string d.bob, .string d.sing, .int .i64 d.step, .string d.call, .string d.tru, .slice B3 d.rx.length e3] = T at *
   have q0 := hZ2.out.cell (i := 0) (by omega)
   have q1 := hZ2.out.cell (i := 1) (by omega)
   have q2 := hZ2.out.cell (i := 2) (by omega)
   have q3 := hZ2.out.cell (i := 3) (by omega)
   have q4 := hZ2.out.cell (i := 4) (by omega)
   have q5 := hZ2.out.cell (i := 5) (by omega)
   have q6 := hZ2.out.cell (i := 6) (by omega)
   have q7 := hZ2.out.cell (i := 7) (by omega)
   have q8 := hZ2.out.cell (i := 8) (by omega)
   simp only [List.getD_cons_zero, List.getD_cons_succ] at q0 q1 q2 q3 q4 q5 q6 q7 q8
   go_wp2
   refine bodyPost_ret (v := .tuple #[.agg #[.string d.name, .int .i64 d.stage, .slice B1 d.x.length e1, .string d.bob, .string d.sing, .int .i64 d.step, .string d.call, .string d.tru, .slice B3 d.rx.length e3], .bool okb]) (by simp [results, Tryz.results79, go_sem, q0, q1, q2, q3, q4, q5, q6, q7, q8]) rfl ?_
   have kks := kk.out.size
   have kO1 := (o1.chg kk.out (.inr (by omega))).mono (show w.heap.size ≤ lo by omega) (Nat.le_refl _)
   have kO3 := (o3.chg kk.out (.inr (by omega))).mono (Nat.le_refl _) kks
   have kBB := Below.chg (hWV.out.trans (hb1.mono hWV.out.size)) kk.out (by omega) (by omega)
   have hD2 : (doR b 1 bl 0 ⟨#[]⟩).2 = okb := by
    by_cases h0 : bl = 0
    ·rw [doR_1 ⟨rfl, h0, rfl, rfl⟩, ← hokb.out]; simp [h0]
    ·rw [doR_F (fun x => h0 x.2.1) (fun x => by have := x.1.1; omega) (fun _ x => by have := x.1; omega) (fun _ x => by have := x.1; omega) (fun _ x => by have := x.1.1; omega), ← hokb.out]; simp [h0]
   refine ⟨_, d, by rw [hD2], ⟨B1, e1, B3, e3, gs2, rfl, by omega, Nat.le_trans h3 kks, kO1, kO3⟩, kBB, fun x => ?_⟩
   rw [hD2, ← hokb.out] at x
   have h0 : bl = 0 := by simpa using x
   rw [doR_1 ⟨rfl, h0, rfl, rfl⟩]
   exact hd.out.symm
 have t5 : (kd == 1) = false := beq_eq_false_iff_ne.2 k5
 by_cases hin : inB bl 1 b.m.stage
 case neg =>
  have D := Lib.hid (doR_F (b := b) (kd := kd) (bl := bl) (yy := yy) (cl := ⟨#[]⟩) (fun x => k5 x.1) (fun x => k4 x.1.1) (fun h => absurd h hin) (fun h => absurd h hin) (fun h => absurd h hin))
  obtain rfl : BI = false := by rw [← hBI.out]; exact B_f hin
  by_cases hy0 : yy = 0
  ·subst hy0
   clear k2 hin
   have c0_ : V.cell? ⟨wA.heap.size, 0, none⟩ = some (.string b.m.name) := hCo.out.cell (i := 0) (by omega)
   have c1_ : V.cell? ⟨wA.heap.size, 1, none⟩ = some (.int .i64 b.m.stage) := hCo.out.cell (i := 1) (by omega)
   have c2_ : V.cell? ⟨wA.heap.size, 2, none⟩ = some (.slice A1 b.m.x.length c1) := hCo.out.cell (i := 2) (by omega)
   have c3_ : V.cell? ⟨wA.heap.size, 3, none⟩ = some (.string b.bob) := hCo.out.cell (i := 3) (by omega)
   have c4_ : V.cell? ⟨wA.heap.size, 4, none⟩ = some (.string b.sing) := hCo.out.cell (i := 4) (by omega)
   have c5_ : V.cell? ⟨wA.heap.size, 5, none⟩ = some (.int .i64 b.step) := hCo.out.cell (i := 5) (by omega)
   have c6_ : V.cell? ⟨wA.heap.size, 6, none⟩ = some (.string b.call) := hCo.out.cell (i := 6) (by omega)
   have c7_ : V.cell? ⟨wA.heap.size, 7, none⟩ = some (.string b.tru) := hCo.out.cell (i := 7) (by omega)
   have c8_ : V.cell? ⟨wA.heap.size, 8, none⟩ = some (.slice (some ⟨ga, 0, none⟩) b.rx.length c3) := hCo.out.cell (i := 8) (by omega)
   have hCr := hZV.out
   have r0 := hCr.cell (i := 0) (by omega)
   have rf0 := hCr.free (i := 0) (by omega)
   have r1 := hCr.cell (i := 1) (by omega)
   have rf1 := hCr.free (i := 1) (by omega)
   have r2 := hCr.cell (i := 2) (by omega)
   have rf2 := hCr.free (i := 2) (by omega)
   have r3 := hCr.cell (i := 3) (by omega)
   have rf3 := hCr.free (i := 3) (by omega)
   have r4 := hCr.cell (i := 4) (by omega)
   have rf4 := hCr.free (i := 4) (by omega)
   have r5 := hCr.cell (i := 5) (by omega)
   have rf5 := hCr.free (i := 5) (by omega)
   have r6 := hCr.cell (i := 6) (by omega)
   have rf6 := hCr.free (i := 6) (by omega)
   have r7 := hCr.cell (i := 7) (by omega)
   have rf7 := hCr.free (i := 7) (by omega)
   have r8 := hCr.cell (i := 8) (by omega)
   have rf8 := hCr.free (i := 8) (by omega)
   clear hCr
   go_wp2_with ((go_at_call 99; refine (l1In_any _ _ _ _).mono ?_; rintro e w' ⟨rfl, rfl⟩))
   refine bodyPost_ret (v := .tuple #[.agg #[.string b.m.name, .int .i64 b.m.stage, .slice A1 b.m.x.length c1, .string b.bob, .string b.sing, .int .i64 b.step, .string b.call, .string b.tru, .slice (some ⟨ga, 0, none⟩) b.rx.length c3], .bool false]) (by simp [results, Tryz.results79, go_sem, r0, rf0, r1, rf1, r2, rf2, r3, rf3, r4, rf4, r5, rf5, r6, rf6, r7, rf7, r8, rf8]) rfl ?_
   have kk : Chg (w.heap.size + 1 + 1) (w.heap.size + 1 + 1 + 1) V (setN V (w.heap.size + 1 + 1) 0 [Value.string b.m.name, .int .i64 b.m.stage, .slice A1 b.m.x.length c1, .string b.bob, .string b.sing, .int .i64 b.step, .string b.call, .string b.tru, .slice (some ⟨ga, 0, none⟩) b.rx.length c3]) := Chg.setN (Nat.le_refl _) (Nat.lt_succ_self _) _ (Chg.refl _ _ V)
   have kO1 := (hO1V.out.chg kk (.inr (by omega))).mono (show w.heap.size ≤ W.heap.size by omega) (Nat.le_refl _)
   have kO3 := (hO3V.out.chg kk (.inr (by omega))).mono (Nat.le_refl _) (Nat.le_trans (show wA.heap.size ≤ V.heap.size by omega) kk.size)
   have kBB := Below.chg hWV.out kk (by omega) (by omega)
   have kks := kk.size
   exact ⟨_, ⟨b.m.name, b.m.stage, b.m.x, b.bob, b.sing, b.step, b.call, b.tru, b.rx⟩, by rw [D.out], ⟨A1, c1, some ⟨ga, 0, none⟩, c3, gs, by first | (simp only [List.length_set]; done) | rfl, by omega, Nat.le_trans hg2 (Nat.le_trans (show wA.heap.size ≤ V.heap.size by omega) kks), kO1, kO3⟩, kBB, fun x => by rw [D.out] at x; cases x⟩
  ·obtain rfl : kd = 4 := Decidable.byContradiction (fun e => k2 ⟨hy0, e⟩)
   have ty : (yy == 0) = false := beq_eq_false_iff_ne.2 hy0
   have ty' : (yy != 0) = true := by simpa using hy0
   clear k2 hin hy0
   have c0_ : V.cell? ⟨wA.heap.size, 0, none⟩ = some (.string b.m.name) := hCo.out.cell (i := 0) (by omega)
   have c1_ : V.cell? ⟨wA.heap.size, 1, none⟩ = some (.int .i64 b.m.stage) := hCo.out.cell (i := 1) (by omega)
   have c2_ : V.cell? ⟨wA.heap.size, 2, none⟩ = some (.slice A1 b.m.x.length c1) := hCo.out.cell (i := 2) (by omega)
   have c3_ : V.cell? ⟨wA.heap.size, 3, none⟩ = some (.string b.bob) := hCo.out.cell (i := 3) (by omega)
   have c4_ : V.cell? ⟨wA.heap.size, 4, none⟩ = some (.string b.sing) := hCo.out.cell (i := 4) (by omega)
   have c5_ : V.cell? ⟨wA.heap.size, 5, none⟩ = some (.int .i64 b.step) := hCo.out.cell (i := 5) (by omega)
   have c6_ : V.cell? ⟨wA.heap.size, 6, none⟩ = some (.string b.call) := hCo.out.cell (i := 6) (by omega)
   have c7_ : V.cell? ⟨wA.heap.size, 7, none⟩ = some (.string b.tru) := hCo.out.cell (i := 7) (by omega)
   have c8_ : V.cell? ⟨wA.heap.size, 8, none⟩ = some (.slice (some ⟨ga, 0, none⟩) b.rx.length c3) := hCo.out.cell (i := 8) (by omega)
   have hCr := hZV.out
   have r0 := hCr.cell (i := 0) (by omega)
   have rf0 := hCr.free (i := 0) (by omega)
   have r1 := hCr.cell (i := 1) (by omega)
   have rf1 := hCr.free (i := 1) (by omega)
   have r2 := hCr.cell (i := 2) (by omega)
   have rf2 := hCr.free (i := 2) (by omega)
   have r3 := hCr.cell (i := 3) (by omega)
   have rf3 := hCr.free (i := 3) (by omega)
   have r4 := hCr.cell (i := 4) (by omega)
   have rf4 := hCr.free (i := 4) (by omega)
   have r5 := hCr.cell (i := 5) (by omega)
   have rf5 := hCr.free (i := 5) (by omega)
   have r6 := hCr.cell (i := 6) (by omega)
   have rf6 := hCr.free (i := 6) (by omega)
   have r7 := hCr.cell (i := 7) (by omega)
   have rf7 := hCr.free (i := 7) (by omega)
   have r8 := hCr.cell (i := 8) (by omega)
   have rf8 := hCr.free (i := 8) (by omega)
   clear hCr
   go_wp2_with ((go_at_call 99; refine (l1In_any _ _ _ _).mono ?_; rintro e w' ⟨rfl, rfl⟩))
   refine bodyPost_ret (v := .tuple #[.agg #[.string b.m.name, .int .i64 b.m.stage, .slice A1 b.m.x.length c1, .string b.bob, .string b.sing, .int .i64 b.step, .string b.call, .string b.tru, .slice (some ⟨ga, 0, none⟩) b.rx.length c3], .bool false]) (by simp [results, Tryz.results79, go_sem, r0, rf0, r1, rf1, r2, rf2, r3, rf3, r4, rf4, r5, rf5, r6, rf6, r7, rf7, r8, rf8]) rfl ?_
   have kk : Chg (w.heap.size + 1 + 1) (w.heap.size + 1 + 1 + 1) V (setN V (w.heap.size + 1 + 1) 0 [Value.string b.m.name, .int .i64 b.m.stage, .slice A1 b.m.x.length c1, .string b.bob, .string b.sing, .int .i64 b.step, .string b.call, .string b.tru, .slice (some ⟨ga, 0, none⟩) b.rx.length c3]) := Chg.setN (Nat.le_refl _) (Nat.lt_succ_self _) _ (Chg.refl _ _ V)
   have kO1 := (hO1V.out.chg kk (.inr (by omega))).mono (show w.heap.size ≤ W.heap.size by omega) (Nat.le_refl _)
   have kO3 := (hO3V.out.chg kk (.inr (by omega))).mono (Nat.le_refl _) (Nat.le_trans (show wA.heap.size ≤ V.heap.size by omega) kk.size)
   have kBB := Below.chg hWV.out kk (by omega) (by omega)
   have kks := kk.size
   exact ⟨_, ⟨b.m.name, b.m.stage, b.m.x, b.bob, b.sing, b.step, b.call, b.tru, b.rx⟩, by rw [D.out], ⟨A1, c1, some ⟨ga, 0, none⟩, c3, gs, by first | (simp only [List.length_set]; done) | rfl, by omega, Nat.le_trans hg2 (Nat.le_trans (show wA.heap.size ≤ V.heap.size by omega) kks), kO1, kO3⟩, kBB, fun x => by rw [D.out] at x; cases x⟩
 obtain rfl : BI = true := by rw [← hBI.out]; exact B_t hin
 obtain ⟨i, hi⟩ : ∃ i : Nat, bl = (i : Int) + 1 := ⟨(bl - 1).toNat, by have := hin.1; omega⟩
 subst hi
 have C3 := Lib.hid hin
 have hil : i < b.rx.length := by have := hin.2; omega
 have hi8 : i < 8 := by omega
 have hwi0 : (i : Int) + 1 - 1 = (i : Int) := by omega
 have hbi : Hid (b.at_ ((i : Int) + 1) = b.rx[i]) := Lib.hid (by unfold Bnd.at_; rw [show ((i : Int) + 1).toNat - 1 = i by omega, List.getD_eq_getElem?_getD, List.getElem?_eq_getElem hil]; rfl)
 have hbp : Hid (∀ r, b.put ((i : Int) + 1) r = ⟨b.m.name, b.m.stage, b.m.x, b.bob, b.sing, b.step, b.call, b.tru, b.rx.set i r⟩) := Lib.hid (fun r => by unfold Bnd.put; rw [show ((i : Int) + 1).toNat - 1 = i by omega]; rfl)
 clear hin
 obtain ⟨r0, r0f, r1, r1f⟩ := hO3V.out.cellRgr i hil
 obtain ⟨pl, hpl1⟩ : ∃ pl, Hid (b.rx[i].place = pl) := ⟨_, Lib.hid rfl⟩
 obtain ⟨df, hdf1⟩ : ∃ df, Hid (b.rx[i].deaf = df) := ⟨_, Lib.hid rfl⟩
 rw [hpl1.out] at r0
 rw [hdf1.out] at r1
 have hplb : 1 ≤ pl ∧ pl ≤ 8 := by have := hpl.out i hil; rw [hpl1.out] at this; have h1 := this.1; have h2 := this.2; omega
 have q8 : V.cell? ⟨wA.heap.size, 8, none⟩ = some (.slice (some ⟨ga, 0, none⟩) b.rx.length c3) := hCo.out.cell (i := 8) (by omega)
 have hwi : IntKind.i64.wrap (i : Int) = (i : Int) := IntWalk.i64_in _ (by omega)
 have hlti : (i : Int) < (b.rx.length : Int) := by omega
 by_cases k3 : kd = 3
 ·subst k3
  obtain rfl : yy = 0 := Decidable.byContradiction (fun e => k2 ⟨e, by omega⟩)
  have D := Lib.hid (doR_3 (b := b) (kd := 3) (yy := 0) (cl := ⟨#[]⟩) C3.out ⟨rfl, rfl, rfl, rfl⟩)
  rw [hbi.out, hbp.out, hpl1.out] at D
  clear k2 k4 k5
  go_upto_region 18 with ((go_at_call 99; refine (l1In_any _ _ _ _).mono ?_; rintro e w' ⟨rfl, rfl⟩))
  have kE : Chg ga (ga + 1) V (V.setCell ⟨ga, i * 2 + 1, none⟩ (.bool true)) := (Chg.refl _ _ V).setCell (p := ⟨ga, i * 2 + 1, none⟩) (Nat.le_refl _) (Nat.lt_succ_self _) _
  have hO3F : Hid (OwnL (V.setCell ⟨ga, i * 2 + 1, none⟩ (.bool true)) gs wA.heap.size (some ⟨ga, 0, none⟩) 2 Rgr.enc (b.rx.set i ⟨pl, true⟩)) := Lib.hid (by have := hO3V.out.setDeaf i hil (true); rw [hpl1.out] at this; exact this)
  have hCoF := Lib.hid (hCo.out.chg kE (.inr (show ga + 1 ≤ wA.heap.size by omega)))
  have hZF := Lib.hid (hZV.out.chg kE (.inl (show w.heap.size + 1 + 1 < ga by omega)))
  have hAF := Lib.hid (hAV.out.chg kE (.inl (show w.heap.size + 1 < ga by omega)))
  have hO1F := Lib.hid (hO1V.out.chg kE (.inl (by omega)))
  have hWF := Lib.hid (Below.chg hWV.out kE (by omega) hWV.out.size)
  have hsF := Nat.le_trans hsV kE.size
  clear kE hCo hZV hO1V hO3V hWV hAV hBV r0 r0f r1 r1f q8 a0 a1 a2 a3 u1
  generalize (V.setCell ⟨ga, i * 2 + 1, none⟩ (.bool true)) = VF at *
  have hlr : (b.rx.set i ⟨pl, true⟩).length = b.rx.length := by simp
  have c0_ : VF.cell? ⟨wA.heap.size, 0, none⟩ = some (.string b.m.name) := hCoF.out.cell (i := 0) (by omega)
  have c1_ : VF.cell? ⟨wA.heap.size, 1, none⟩ = some (.int .i64 b.m.stage) := hCoF.out.cell (i := 1) (by omega)
  have c2_ : VF.cell? ⟨wA.heap.size, 2, none⟩ = some (.slice A1 b.m.x.length c1) := hCoF.out.cell (i := 2) (by omega)
  have c3_ : VF.cell? ⟨wA.heap.size, 3, none⟩ = some (.string b.bob) := hCoF.out.cell (i := 3) (by omega)
  have c4_ : VF.cell? ⟨wA.heap.size, 4, none⟩ = some (.string b.sing) := hCoF.out.cell (i := 4) (by omega)
  have c5_ : VF.cell? ⟨wA.heap.size, 5, none⟩ = some (.int .i64 b.step) := hCoF.out.cell (i := 5) (by omega)
  have c6_ : VF.cell? ⟨wA.heap.size, 6, none⟩ = some (.string b.call) := hCoF.out.cell (i := 6) (by omega)
  have c7_ : VF.cell? ⟨wA.heap.size, 7, none⟩ = some (.string b.tru) := hCoF.out.cell (i := 7) (by omega)
  have c8_ : VF.cell? ⟨wA.heap.size, 8, none⟩ = some (.slice (some ⟨ga, 0, none⟩) b.rx.length c3) := hCoF.out.cell (i := 8) (by omega)
  have hCr := hZF.out
  have r0 := hCr.cell (i := 0) (by omega)
  have rf0 := hCr.free (i := 0) (by omega)
  have r1 := hCr.cell (i := 1) (by omega)
  have rf1 := hCr.free (i := 1) (by omega)
  have r2 := hCr.cell (i := 2) (by omega)
  have rf2 := hCr.free (i := 2) (by omega)
  have r3 := hCr.cell (i := 3) (by omega)
  have rf3 := hCr.free (i := 3) (by omega)
  have r4 := hCr.cell (i := 4) (by omega)
  have rf4 := hCr.free (i := 4) (by omega)
  have r5 := hCr.cell (i := 5) (by omega)
  have rf5 := hCr.free (i := 5) (by omega)
  have r6 := hCr.cell (i := 6) (by omega)
  have rf6 := hCr.free (i := 6) (by omega)
  have r7 := hCr.cell (i := 7) (by omega)
  have rf7 := hCr.free (i := 7) (by omega)
  have r8 := hCr.cell (i := 8) (by omega)
  have rf8 := hCr.free (i := 8) (by omega)
  clear hCr
  go_wp2
  refine bodyPost_ret (v := .tuple #[.agg #[.string b.m.name, .int .i64 b.m.stage, .slice A1 b.m.x.length c1, .string b.bob, .string b.sing, .int .i64 b.step, .string b.call, .string b.tru, .slice (some ⟨ga, 0, none⟩) b.rx.length c3], .bool true]) (by simp [results, Tryz.results79, go_sem, r0, rf0, r1, rf1, r2, rf2, r3, rf3, r4, rf4, r5, rf5, r6, rf6, r7, rf7, r8, rf8]) rfl ?_
  have kk : Chg (w.heap.size + 1 + 1) (w.heap.size + 1 + 1 + 1) VF (setN VF (w.heap.size + 1 + 1) 0 [Value.string b.m.name, .int .i64 b.m.stage, .slice A1 b.m.x.length c1, .string b.bob, .string b.sing, .int .i64 b.step, .string b.call, .string b.tru, .slice (some ⟨ga, 0, none⟩) b.rx.length c3]) := Chg.setN (Nat.le_refl _) (Nat.lt_succ_self _) _ (Chg.refl _ _ VF)
  have kO1 := (hO1F.out.chg kk (.inr (by omega))).mono (show w.heap.size ≤ W.heap.size by omega) (Nat.le_refl _)
  have kO3 := (hO3F.out.chg kk (.inr (by omega))).mono (Nat.le_refl _) (Nat.le_trans (show wA.heap.size ≤ VF.heap.size by omega) kk.size)
  have kBB := Below.chg hWF.out kk (by omega) (by omega)
  have kks := kk.size
  exact ⟨_, ⟨b.m.name, b.m.stage, b.m.x, b.bob, b.sing, b.step, b.call, b.tru, b.rx.set i ⟨pl, true⟩⟩, by rw [D.out], ⟨A1, c1, some ⟨ga, 0, none⟩, c3, gs, by first | (simp only [List.length_set]; done) | rfl, by omega, Nat.le_trans hg2 (Nat.le_trans (show wA.heap.size ≤ VF.heap.size by omega) kks), kO1, kO3⟩, kBB, fun _ => by rw [D.out]⟩
 have t3 : (kd == 3) = false := beq_eq_false_iff_ne.2 k3
 by_cases k6 : kd = 5
 ·subst k6
  obtain rfl : yy = 0 := Decidable.byContradiction (fun e => k2 ⟨e, by omega⟩)
  have D := Lib.hid (doR_5 (b := b) (kd := 5) (yy := 0) (cl := ⟨#[]⟩) C3.out ⟨rfl, rfl, rfl, rfl⟩)
  rw [hbi.out, hbp.out, hdf1.out] at D
  obtain ⟨ps, hps⟩ : ∃ ps, Hid (placeS b.tru ((i : Int) + 1) = ps) := ⟨_, Lib.hid rfl⟩
  rw [hps.out] at D
  have u4' : V.cell? ⟨w.heap.size, 7, none⟩ = some (.string b.tru) := hBV.out.cell (i := 7) (by omega)
  clear k2 k4 k5
  go_upto_region 24 with (first | (go_at_call 99; refine (l1In_any _ _ _ _).mono ?_; rintro e w' ⟨rfl, rfl⟩) | (go_at_call 130; refine (l5Place_any b.tru ((i : Int) + 1) _ hrow.out (by omega) (by omega)).mono ?_; rw [hps.out]; rintro e w' ⟨rfl, rfl⟩))
  clear u4'
  have kE : Chg ga (ga + 1) V (V.setCell ⟨ga, i * 2, none⟩ (.int .i64 ps)) := (Chg.refl _ _ V).setCell (p := ⟨ga, i * 2, none⟩) (Nat.le_refl _) (Nat.lt_succ_self _) _
  have hO3F : Hid (OwnL (V.setCell ⟨ga, i * 2, none⟩ (.int .i64 ps)) gs wA.heap.size (some ⟨ga, 0, none⟩) 2 Rgr.enc (b.rx.set i ⟨ps, df⟩)) := Lib.hid (by have := hO3V.out.setPlace i hil ps; rw [hdf1.out] at this; exact this)
  have hCoF := Lib.hid (hCo.out.chg kE (.inr (show ga + 1 ≤ wA.heap.size by omega)))
  have hZF := Lib.hid (hZV.out.chg kE (.inl (show w.heap.size + 1 + 1 < ga by omega)))
  have hAF := Lib.hid (hAV.out.chg kE (.inl (show w.heap.size + 1 < ga by omega)))
  have hO1F := Lib.hid (hO1V.out.chg kE (.inl (by omega)))
  have hWF := Lib.hid (Below.chg hWV.out kE (by omega) hWV.out.size)
  have hsF := Nat.le_trans hsV kE.size
  clear kE hCo hZV hO1V hO3V hWV hAV hBV r0 r0f r1 r1f q8 a0 a1 a2 a3 u1
  generalize (V.setCell ⟨ga, i * 2, none⟩ (.int .i64 ps)) = VF at *
  have hlr : (b.rx.set i ⟨ps, df⟩).length = b.rx.length := by simp
  have c0_ : VF.cell? ⟨wA.heap.size, 0, none⟩ = some (.string b.m.name) := hCoF.out.cell (i := 0) (by omega)
  have c1_ : VF.cell? ⟨wA.heap.size, 1, none⟩ = some (.int .i64 b.m.stage) := hCoF.out.cell (i := 1) (by omega)
  have c2_ : VF.cell? ⟨wA.heap.size, 2, none⟩ = some (.slice A1 b.m.x.length c1) := hCoF.out.cell (i := 2) (by omega)
  have c3_ : VF.cell? ⟨wA.heap.size, 3, none⟩ = some (.string b.bob) := hCoF.out.cell (i := 3) (by omega)
  have c4_ : VF.cell? ⟨wA.heap.size, 4, none⟩ = some (.string b.sing) := hCoF.out.cell (i := 4) (by omega)
  have c5_ : VF.cell? ⟨wA.heap.size, 5, none⟩ = some (.int .i64 b.step) := hCoF.out.cell (i := 5) (by omega)
  have c6_ : VF.cell? ⟨wA.heap.size, 6, none⟩ = some (.string b.call) := hCoF.out.cell (i := 6) (by omega)
  have c7_ : VF.cell? ⟨wA.heap.size, 7, none⟩ = some (.string b.tru) := hCoF.out.cell (i := 7) (by omega)
  have c8_ : VF.cell? ⟨wA.heap.size, 8, none⟩ = some (.slice (some ⟨ga, 0, none⟩) b.rx.length c3) := hCoF.out.cell (i := 8) (by omega)
  have hCr := hZF.out
  have r0 := hCr.cell (i := 0) (by omega)
  have rf0 := hCr.free (i := 0) (by omega)
  have r1 := hCr.cell (i := 1) (by omega)
  have rf1 := hCr.free (i := 1) (by omega)
  have r2 := hCr.cell (i := 2) (by omega)
  have rf2 := hCr.free (i := 2) (by omega)
  have r3 := hCr.cell (i := 3) (by omega)
  have rf3 := hCr.free (i := 3) (by omega)
  have r4 := hCr.cell (i := 4) (by omega)
  have rf4 := hCr.free (i := 4) (by omega)
  have r5 := hCr.cell (i := 5) (by omega)
  have rf5 := hCr.free (i := 5) (by omega)
  have r6 := hCr.cell (i := 6) (by omega)
  have rf6 := hCr.free (i := 6) (by omega)
  have r7 := hCr.cell (i := 7) (by omega)
  have rf7 := hCr.free (i := 7) (by omega)
  have r8 := hCr.cell (i := 8) (by omega)
  have rf8 := hCr.free (i := 8) (by omega)
  clear hCr
  go_wp2
  refine bodyPost_ret (v := .tuple #[.agg #[.string b.m.name, .int .i64 b.m.stage, .slice A1 b.m.x.length c1, .string b.bob, .string b.sing, .int .i64 b.step, .string b.call, .string b.tru, .slice (some ⟨ga, 0, none⟩) b.rx.length c3], .bool true]) (by simp [results, Tryz.results79, go_sem, r0, rf0, r1, rf1, r2, rf2, r3, rf3, r4, rf4, r5, rf5, r6, rf6, r7, rf7, r8, rf8]) rfl ?_
  have kk : Chg (w.heap.size + 1 + 1) (w.heap.size + 1 + 1 + 1) VF (setN VF (w.heap.size + 1 + 1) 0 [Value.string b.m.name, .int .i64 b.m.stage, .slice A1 b.m.x.length c1, .string b.bob, .string b.sing, .int .i64 b.step, .string b.call, .string b.tru, .slice (some ⟨ga, 0, none⟩) b.rx.length c3]) := Chg.setN (Nat.le_refl _) (Nat.lt_succ_self _) _ (Chg.refl _ _ VF)
  have kO1 := (hO1F.out.chg kk (.inr (by omega))).mono (show w.heap.size ≤ W.heap.size by omega) (Nat.le_refl _)
  have kO3 := (hO3F.out.chg kk (.inr (by omega))).mono (Nat.le_refl _) (Nat.le_trans (show wA.heap.size ≤ VF.heap.size by omega) kk.size)
  have kBB := Below.chg hWF.out kk (by omega) (by omega)
  have kks := kk.size
  exact ⟨_, ⟨b.m.name, b.m.stage, b.m.x, b.bob, b.sing, b.step, b.call, b.tru, b.rx.set i ⟨ps, df⟩⟩, by rw [D.out], ⟨A1, c1, some ⟨ga, 0, none⟩, c3, gs, by first | (simp only [List.length_set]; done) | rfl, by omega, Nat.le_trans hg2 (Nat.le_trans (show wA.heap.size ≤ VF.heap.size by omega) kks), kO1, kO3⟩, kBB, fun _ => by rw [D.out]⟩
 have t6 : (kd == 5) = false := beq_eq_false_iff_ne.2 k6
 by_cases k7 : kd = 4
 case neg =>
  obtain rfl : yy = 0 := Decidable.byContradiction (fun e => k2 ⟨e, k7⟩)
  have t7 : (kd == 4) = false := beq_eq_false_iff_ne.2 k7
  have D := Lib.hid (doR_F (b := b) (kd := kd) (bl := (i : Int) + 1) (yy := 0) (cl := ⟨#[]⟩) (fun x => k5 x.1) (fun x => k4 x.1.1) (fun _ x => k3 x.1) (fun _ x => k6 x.1) (fun _ x => k7 x.1.1))
  clear k2 k3 k4 k5 k6 k7
  have c0_ : V.cell? ⟨wA.heap.size, 0, none⟩ = some (.string b.m.name) := hCo.out.cell (i := 0) (by omega)
  have c1_ : V.cell? ⟨wA.heap.size, 1, none⟩ = some (.int .i64 b.m.stage) := hCo.out.cell (i := 1) (by omega)
  have c2_ : V.cell? ⟨wA.heap.size, 2, none⟩ = some (.slice A1 b.m.x.length c1) := hCo.out.cell (i := 2) (by omega)
  have c3_ : V.cell? ⟨wA.heap.size, 3, none⟩ = some (.string b.bob) := hCo.out.cell (i := 3) (by omega)
  have c4_ : V.cell? ⟨wA.heap.size, 4, none⟩ = some (.string b.sing) := hCo.out.cell (i := 4) (by omega)
  have c5_ : V.cell? ⟨wA.heap.size, 5, none⟩ = some (.int .i64 b.step) := hCo.out.cell (i := 5) (by omega)
  have c6_ : V.cell? ⟨wA.heap.size, 6, none⟩ = some (.string b.call) := hCo.out.cell (i := 6) (by omega)
  have c7_ : V.cell? ⟨wA.heap.size, 7, none⟩ = some (.string b.tru) := hCo.out.cell (i := 7) (by omega)
  have c8_ : V.cell? ⟨wA.heap.size, 8, none⟩ = some (.slice (some ⟨ga, 0, none⟩) b.rx.length c3) := hCo.out.cell (i := 8) (by omega)
  have hCr := hZV.out
  have z0 := hCr.cell (i := 0) (by omega)
  have zf0 := hCr.free (i := 0) (by omega)
  have z1 := hCr.cell (i := 1) (by omega)
  have zf1 := hCr.free (i := 1) (by omega)
  have z2 := hCr.cell (i := 2) (by omega)
  have zf2 := hCr.free (i := 2) (by omega)
  have z3 := hCr.cell (i := 3) (by omega)
  have zf3 := hCr.free (i := 3) (by omega)
  have z4 := hCr.cell (i := 4) (by omega)
  have zf4 := hCr.free (i := 4) (by omega)
  have z5 := hCr.cell (i := 5) (by omega)
  have zf5 := hCr.free (i := 5) (by omega)
  have z6 := hCr.cell (i := 6) (by omega)
  have zf6 := hCr.free (i := 6) (by omega)
  have z7 := hCr.cell (i := 7) (by omega)
  have zf7 := hCr.free (i := 7) (by omega)
  have z8 := hCr.cell (i := 8) (by omega)
  have zf8 := hCr.free (i := 8) (by omega)
  clear hCr
  go_wp2_with ((go_at_call 99; refine (l1In_any _ _ _ _).mono ?_; rintro e w' ⟨rfl, rfl⟩))
  refine bodyPost_ret (v := .tuple #[.agg #[.string b.m.name, .int .i64 b.m.stage, .slice A1 b.m.x.length c1, .string b.bob, .string b.sing, .int .i64 b.step, .string b.call, .string b.tru, .slice (some ⟨ga, 0, none⟩) b.rx.length c3], .bool false]) (by simp [results, Tryz.results79, go_sem, z0, zf0, z1, zf1, z2, zf2, z3, zf3, z4, zf4, z5, zf5, z6, zf6, z7, zf7, z8, zf8]) rfl ?_
  have kk : Chg (w.heap.size + 1 + 1) (w.heap.size + 1 + 1 + 1) V (setN V (w.heap.size + 1 + 1) 0 [Value.string b.m.name, .int .i64 b.m.stage, .slice A1 b.m.x.length c1, .string b.bob, .string b.sing, .int .i64 b.step, .string b.call, .string b.tru, .slice (some ⟨ga, 0, none⟩) b.rx.length c3]) := Chg.setN (Nat.le_refl _) (Nat.lt_succ_self _) _ (Chg.refl _ _ V)
  have kO1 := (hO1V.out.chg kk (.inr (by omega))).mono (show w.heap.size ≤ W.heap.size by omega) (Nat.le_refl _)
  have kO3 := (hO3V.out.chg kk (.inr (by omega))).mono (Nat.le_refl _) (Nat.le_trans (show wA.heap.size ≤ V.heap.size by omega) kk.size)
  have kBB := Below.chg hWV.out kk (by omega) (by omega)
  have kks := kk.size
  exact ⟨_, ⟨b.m.name, b.m.stage, b.m.x, b.bob, b.sing, b.step, b.call, b.tru, b.rx⟩, by rw [D.out], ⟨A1, c1, some ⟨ga, 0, none⟩, c3, gs, by first | (simp only [List.length_set]; done) | rfl, by omega, Nat.le_trans hg2 (Nat.le_trans (show wA.heap.size ≤ V.heap.size by omega) kks), kO1, kO3⟩, kBB, fun x => by rw [D.out] at x; cases x⟩
 subst k7
 obtain ⟨z, hz⟩ : ∃ z, Hid (IntKind.i64.wrap (pl + yy) = z) := ⟨_, Lib.hid rfl⟩
 have hzw := hz.out
 clear k2 k3 k4 k5 k6 t2 t5 t3 t6
 by_cases hy0 : yy = 0
 all_goals
  first | have ty : (yy == 0) = true := beq_iff_eq.2 hy0 | have ty : (yy == 0) = false := beq_eq_false_iff_ne.2 hy0
  first | have ty' : (yy != 0) = false := by simpa using hy0 | have ty' : (yy != 0) = true := by simpa using hy0
  clear hy0
  go_upto_region 20 with ((go_at_call 99; refine (l1In_any _ _ _ _).mono ?_; rintro e w' ⟨rfl, rfl⟩))
  go_region
  go_upto_region 21 with fail
  have kE : Chg ga (ga + 1) V (V.setCell ⟨ga, i * 2, none⟩ (.int .i64 z)) := (Chg.refl _ _ V).setCell (p := ⟨ga, i * 2, none⟩) (Nat.le_refl _) (Nat.lt_succ_self _) _
  have hO3F : Hid (OwnL (V.setCell ⟨ga, i * 2, none⟩ (.int .i64 z)) gs wA.heap.size (some ⟨ga, 0, none⟩) 2 Rgr.enc (b.rx.set i ⟨z, df⟩)) := Lib.hid (by have := hO3V.out.setPlace i hil z; rw [hdf1.out] at this; exact this)
  have hCoF := Lib.hid (hCo.out.chg kE (.inr (show ga + 1 ≤ wA.heap.size by omega)))
  have hZF := Lib.hid (hZV.out.chg kE (.inl (show w.heap.size + 1 + 1 < ga by omega)))
  have hAF := Lib.hid (hAV.out.chg kE (.inl (show w.heap.size + 1 < ga by omega)))
  have hO1F := Lib.hid (hO1V.out.chg kE (.inl (by omega)))
  have hWF := Lib.hid (Below.chg hWV.out kE (by omega) hWV.out.size)
  have hsF := Nat.le_trans hsV kE.size
  replace hO3F := Lib.hid hO3F.out.drewH
  replace hCoF := Lib.hid hCoF.out.drewH
  replace hZF := Lib.hid hZF.out.drewH
  replace hAF := Lib.hid hAF.out.drewH
  replace hO1F := Lib.hid hO1F.out.drewH
  replace hWF := Lib.hid hWF.out.drew
  replace hsF : wA.heap.size + 1 ≤ (V.setCell ⟨ga, i * 2, none⟩ (.int .i64 z)).drew.heap.size := hsF
  clear kE hCo hZV hO1V hO3V hWV hAV hBV r0 r0f r1 r1f q8 a0 a1 a2 a3 u1
  generalize (V.setCell ⟨ga, i * 2, none⟩ (.int .i64 z)).drew = VF at *
  have a1_ : VF.cell? ⟨w.heap.size + 1, 1, none⟩ = some (.int .i64 ((i : Int) + 1)) := hAF.out.cell (i := 1) (by omega)
  have a2_ : VF.cell? ⟨w.heap.size + 1, 2, none⟩ = some (.int .i64 yy) := hAF.out.cell (i := 2) (by omega)
  obtain ⟨r0_, rx1_, rx2_, rx3_⟩ := hO3F.out.cellRgr i (by rw [List.length_set]; exact hil)
  clear rx1_ rx2_ rx3_
  simp only [List.getElem_set_self] at r0_
  have c0_ : VF.cell? ⟨wA.heap.size, 0, none⟩ = some (.string b.m.name) := hCoF.out.cell (i := 0) (by omega)
  have c1_ : VF.cell? ⟨wA.heap.size, 1, none⟩ = some (.int .i64 b.m.stage) := hCoF.out.cell (i := 1) (by omega)
  have c2_ : VF.cell? ⟨wA.heap.size, 2, none⟩ = some (.slice A1 b.m.x.length c1) := hCoF.out.cell (i := 2) (by omega)
  have c3_ : VF.cell? ⟨wA.heap.size, 3, none⟩ = some (.string b.bob) := hCoF.out.cell (i := 3) (by omega)
  have c4_ : VF.cell? ⟨wA.heap.size, 4, none⟩ = some (.string b.sing) := hCoF.out.cell (i := 4) (by omega)
  have c5_ : VF.cell? ⟨wA.heap.size, 5, none⟩ = some (.int .i64 b.step) := hCoF.out.cell (i := 5) (by omega)
  have c6_ : VF.cell? ⟨wA.heap.size, 6, none⟩ = some (.string b.call) := hCoF.out.cell (i := 6) (by omega)
  have c7_ : VF.cell? ⟨wA.heap.size, 7, none⟩ = some (.string b.tru) := hCoF.out.cell (i := 7) (by omega)
  have c8_ : VF.cell? ⟨wA.heap.size, 8, none⟩ = some (.slice (some ⟨ga, 0, none⟩) b.rx.length c3) := hCoF.out.cell (i := 8) (by omega)
  by_cases y1 : yy = 1 ∨ yy = -1
  case neg =>
   have D := Lib.hid (doR_F (b := b) (kd := 4) (bl := (i : Int) + 1) (yy := yy) (cl := ⟨#[]⟩) (fun x => by have := x.1; omega) (fun x => by have := x.1.1; omega) (fun _ x => by have := x.1; omega) (fun _ x => by have := x.1; omega) (fun _ x => y1 x.2.1))
   have f1 : (yy == 1) = false := by rw [Bool.eq_false_iff]; intro x; exact y1 (.inl (by simpa using x))
   have f2 : (yy == -1) = false := by rw [Bool.eq_false_iff]; intro x; exact y1 (.inr (by simpa using x))
   clear y1
   have lc0 := LaterX.cell (r := w.heap.size + 1 + 1) (n := 9) c0_ (show wA.heap.size ≠ w.heap.size + 1 + 1 by omega)
   have lc1 := LaterX.cell (r := w.heap.size + 1 + 1) (n := 9) c1_ (show wA.heap.size ≠ w.heap.size + 1 + 1 by omega)
   have lc2 := LaterX.cell (r := w.heap.size + 1 + 1) (n := 9) c2_ (show wA.heap.size ≠ w.heap.size + 1 + 1 by omega)
   have lc3 := LaterX.cell (r := w.heap.size + 1 + 1) (n := 9) c3_ (show wA.heap.size ≠ w.heap.size + 1 + 1 by omega)
   have lc4 := LaterX.cell (r := w.heap.size + 1 + 1) (n := 9) c4_ (show wA.heap.size ≠ w.heap.size + 1 + 1 by omega)
   have lc5 := LaterX.cell (r := w.heap.size + 1 + 1) (n := 9) c5_ (show wA.heap.size ≠ w.heap.size + 1 + 1 by omega)
   have lc6 := LaterX.cell (r := w.heap.size + 1 + 1) (n := 9) c6_ (show wA.heap.size ≠ w.heap.size + 1 + 1 by omega)
   have lc7 := LaterX.cell (r := w.heap.size + 1 + 1) (n := 9) c7_ (show wA.heap.size ≠ w.heap.size + 1 + 1 by omega)
   have lc8 := LaterX.cell (r := w.heap.size + 1 + 1) (n := 9) c8_ (show wA.heap.size ≠ w.heap.size + 1 + 1 by omega)
   have la2 := LaterX.cell (r := w.heap.size + 1 + 1) (n := 9) a2_ (show w.heap.size + 1 ≠ w.heap.size + 1 + 1 by omega)
   have lr0 := LaterX.cell (r := w.heap.size + 1 + 1) (n := 9) r0_ (show ga ≠ w.heap.size + 1 + 1 by omega)
   clear c0_ c1_ c2_ c3_ c4_ c5_ c6_ c7_ c8_ a1_ a2_ r0_
   haveI : Inhabited (LaterX VF (w.heap.size + 1 + 1) 9) := ⟨⟨VF, rfl, rfl, rfl, rfl, fun _ _ => rfl, _, hZF.out⟩⟩
   refine wp_region_G (by kernel_rfl) [.q, .q, .q, .q, .q, .q, .q, .q, .q, .q, .q, .q, .q, .q, .q, .q, .q, .t, .q] [0, 0, 0, 0, 0, 0, 0, 0, 0, 0, 0, 0, 0, 0, 0, 0, 0, 2, 0] rfl 3 (by kernel_rfl) (inX VF (w.heap.size + 1 + 1) 9) VF.heap.size (inX.size _ _ _) (inX.drew hZF.out) ?_
   (refine wpG_quiets 11 _ _ _ _ (by first | exact cls_none rfl | exact fun w h => h.1) (by intro j hj; rcases j with _ | _ | _ | _ | _ | _ | _ | _ | _ | _ | _ | j <;> first | exact ⟨rfl, ⟨_, rfl, rfl⟩, rfl⟩ | (exfalso; omega)) ?_; simp only [List.take_succ_cons, List.take_zero, List.drop_succ_cons, List.drop_zero, Nat.zero_add, Nat.reduceAdd]; change wpQuiet _ _ (fun wq9 => ∃ x : LaterX VF (w.heap.size + 1 + 1) 9, wq9 = x.W) _ _ _; (repeat (go_big_quiet_step (fail))); refine wpQuiet_nil ?_; try dsimp only)
   refine wpG_skip rfl rfl (cls_none rfl) rfl ?_
   simp only [Act.put, List.setIfInBounds_toArray, List.set_cons_zero, List.set_cons_succ, Nat.reduceAdd]
   (refine wpG_quiets 3 _ _ _ _ (by first | exact cls_none rfl | exact fun w h => h.1) (by intro j hj; rcases j with _ | _ | _ | _ | _ | _ | _ | _ | _ | _ | _ | j <;> first | exact ⟨rfl, ⟨_, rfl, rfl⟩, rfl⟩ | (exfalso; omega)) ?_; simp only [List.take_succ_cons, List.take_zero, List.drop_succ_cons, List.drop_zero, Nat.zero_add, Nat.reduceAdd]; change wpQuiet _ _ (fun wq9 => ∃ x : LaterX VF (w.heap.size + 1 + 1) 9, wq9 = x.W) _ _ _; (repeat (go_big_quiet_step (fail))); refine wpQuiet_nil ?_; try dsimp only)
   refine wpG_skip rfl rfl (cls_none rfl) rfl ?_
   simp only [Act.put, List.setIfInBounds_toArray, List.set_cons_zero, List.set_cons_succ, Nat.reduceAdd]
   (refine wpG_quiets 1 _ _ _ _ (by first | exact cls_none rfl | exact fun w h => h.1) (by intro j hj; rcases j with _ | _ | _ | _ | _ | _ | _ | _ | _ | _ | _ | j <;> first | exact ⟨rfl, ⟨_, rfl, rfl⟩, rfl⟩ | (exfalso; omega)) ?_; simp only [List.take_succ_cons, List.take_zero, List.drop_succ_cons, List.drop_zero, Nat.zero_add, Nat.reduceAdd]; change wpQuiet _ _ (fun wq9 => ∃ x : LaterX VF (w.heap.size + 1 + 1) 9, wq9 = x.W) _ _ _; (repeat (go_big_quiet_step (fail))); refine wpQuiet_nil ?_; try dsimp only)
   refine wpG_t (fun w' => setN w' (w.heap.size + 1 + 1) 0 [Value.string b.m.name, .int .i64 b.m.stage, .slice A1 b.m.x.length c1, .string b.bob, .string b.sing, .int .i64 b.step, .string b.call, .string b.tru, .slice (some ⟨ga, 0, none⟩) b.rx.length c3]) rfl rfl rfl rfl (by intro w1 hw1; have hX := hw1.cls rfl; obtain ⟨f, hf⟩ := hX.cells; have p0 := hf.cell (i := 0) (by omega); have q0 := hf.free (i := 0) (by omega); have p1 := hf.cell (i := 1) (by omega); have q1 := hf.free (i := 1) (by omega); have p2 := hf.cell (i := 2) (by omega); have q2 := hf.free (i := 2) (by omega); have p3 := hf.cell (i := 3) (by omega); have q3 := hf.free (i := 3) (by omega); have p4 := hf.cell (i := 4) (by omega); have q4 := hf.free (i := 4) (by omega); have p5 := hf.cell (i := 5) (by omega); have q5 := hf.free (i := 5) (by omega); have p6 := hf.cell (i := 6) (by omega); have q6 := hf.free (i := 6) (by omega); have p7 := hf.cell (i := 7) (by omega); have q7 := hf.free (i := 7) (by omega); have p8 := hf.cell (i := 8) (by omega); have q8 := hf.free (i := 8) (by omega); clear hw1; refine ⟨?_, hX.set _ rfl⟩; simp only [setN]; go_simp; try rfl) ?_
   simp only [Act.put, List.setIfInBounds_toArray, List.set_cons_zero, List.set_cons_succ, Nat.reduceAdd]
   (refine wpG_quiets 1 _ _ _ _ (by first | exact cls_none rfl | exact fun w h => h.1) (by intro j hj; rcases j with _ | _ | _ | _ | _ | _ | _ | _ | _ | _ | _ | j <;> first | exact ⟨rfl, ⟨_, rfl, rfl⟩, rfl⟩ | (exfalso; omega)) ?_; simp only [List.take_succ_cons, List.take_zero, List.drop_succ_cons, List.drop_zero, Nat.zero_add, Nat.reduceAdd]; change wpQuiet _ _ (fun wq9 => ∃ x : LaterX VF (w.heap.size + 1 + 1) 9, wq9 = x.W) _ _ _; (repeat (go_big_quiet_step (fail))); refine wpQuiet_nil ?_; try dsimp only)
   intro w' hh
   obtain ⟨_, wz, hz, rfl⟩ := hh
   have hX := hz.cls rfl
   obtain ⟨fz, hfz⟩ := hX.cells
   have hZ2 : Hid (Cells (setN wz (w.heap.size + 1 + 1) 0 [Value.string b.m.name, .int .i64 b.m.stage, .slice A1 b.m.x.length c1, .string b.bob, .string b.sing, .int .i64 b.step, .string b.call, .string b.tru, .slice (some ⟨ga, 0, none⟩) b.rx.length c3]) (w.heap.size + 1 + 1) 9 (fun i => ([Value.string b.m.name, .int .i64 b.m.stage, .slice A1 b.m.x.length c1, .string b.bob, .string b.sing, .int .i64 b.step, .string b.call, .string b.tru, .slice (some ⟨ga, 0, none⟩) b.rx.length c3] : List Value).getD i undef)) := Lib.hid (hfz.boxed _ rfl)
   have kk : Hid (Chg (w.heap.size + 1 + 1) (w.heap.size + 1 + 1 + 1) VF (setN wz (w.heap.size + 1 + 1) 0 [Value.string b.m.name, .int .i64 b.m.stage, .slice A1 b.m.x.length c1, .string b.bob, .string b.sing, .int .i64 b.step, .string b.call, .string b.tru, .slice (some ⟨ga, 0, none⟩) b.rx.length c3])) := Lib.hid (Chg.setN (Nat.le_refl _) (Nat.lt_succ_self _) _ hX.chg)
   clear hz hX hfz lc0 lc1 lc2 lc3 lc4 lc5 lc6 lc7 lc8 la2 lr0
   generalize setN wz (w.heap.size + 1 + 1) 0 [Value.string b.m.name, .int .i64 b.m.stage, .slice A1 b.m.x.length c1, .string b.bob, .string b.sing, .int .i64 b.step, .string b.call, .string b.tru, .slice (some ⟨ga, 0, none⟩) b.rx.length c3] = T at *
   have q0 := hZ2.out.cell (i := 0) (by omega)
   have q1 := hZ2.out.cell (i := 1) (by omega)
   have q2 := hZ2.out.cell (i := 2) (by omega)
   have q3 := hZ2.out.cell (i := 3) (by omega)
   have q4 := hZ2.out.cell (i := 4) (by omega)
   have q5 := hZ2.out.cell (i := 5) (by omega)
   have q6 := hZ2.out.cell (i := 6) (by omega)
   have q7 := hZ2.out.cell (i := 7) (by omega)
   have q8 := hZ2.out.cell (i := 8) (by omega)
   simp only [List.getD_cons_zero, List.getD_cons_succ] at q0 q1 q2 q3 q4 q5 q6 q7 q8
   go_wp2
   refine bodyPost_ret (v := .tuple #[.agg #[.string b.m.name, .int .i64 b.m.stage, .slice A1 b.m.x.length c1, .string b.bob, .string b.sing, .int .i64 b.step, .string b.call, .string b.tru, .slice (some ⟨ga, 0, none⟩) b.rx.length c3], .bool false]) (by simp [results, Tryz.results79, go_sem, q0, q1, q2, q3, q4, q5, q6, q7, q8]) rfl ?_
   have hlr : (b.rx.set i ⟨z, df⟩).length = b.rx.length := by simp
   have kks := kk.out.size
   have kO1 := (hO1F.out.chg kk.out (.inr (by omega))).mono (show w.heap.size ≤ W.heap.size by omega) (Nat.le_refl _)
   have kO3 := (hO3F.out.chg kk.out (.inr (by omega))).mono (Nat.le_refl _) (Nat.le_trans (show wA.heap.size ≤ VF.heap.size by omega) kks)
   have kBB := Below.chg hWF.out kk.out (by omega) (by omega)
   exact ⟨_, ⟨b.m.name, b.m.stage, b.m.x, b.bob, b.sing, b.step, b.call, b.tru, b.rx.set i ⟨z, df⟩⟩, by rw [D.out], ⟨A1, c1, some ⟨ga, 0, none⟩, c3, gs, by first | (simp only [List.length_set]; done) | rfl, by omega, Nat.le_trans hg2 (Nat.le_trans (show wA.heap.size ≤ VF.heap.size by omega) kks), kO1, kO3⟩, kBB, fun x => by rw [D.out] at x; cases x⟩
  have hze : Hid (pl + yy = z) := Lib.hid (by rw [← hz.out]; exact (IntWalk.i64_in _ (by omega)).symm)
  by_cases c6 : inB z 1 b.m.stage
  case neg =>
   have D := Lib.hid (doR_F (b := b) (kd := 4) (bl := (i : Int) + 1) (yy := yy) (cl := ⟨#[]⟩) (fun x => by have := x.1; omega) (fun x => by have := x.1.1; omega) (fun _ x => by have := x.1; omega) (fun _ x => by have := x.1; omega) (fun _ x => c6 (by have := x.2.2; rw [hbi.out, hpl1.out, hze.out] at this; exact this)))
   have e6 := B_f c6
   clear c6 hz hzw hze
   rcases y1 with rfl | rfl
   all_goals
    have lc0 := LaterX.cell (r := w.heap.size + 1 + 1) (n := 9) c0_ (show wA.heap.size ≠ w.heap.size + 1 + 1 by omega)
    have lc1 := LaterX.cell (r := w.heap.size + 1 + 1) (n := 9) c1_ (show wA.heap.size ≠ w.heap.size + 1 + 1 by omega)
    have lc2 := LaterX.cell (r := w.heap.size + 1 + 1) (n := 9) c2_ (show wA.heap.size ≠ w.heap.size + 1 + 1 by omega)
    have lc3 := LaterX.cell (r := w.heap.size + 1 + 1) (n := 9) c3_ (show wA.heap.size ≠ w.heap.size + 1 + 1 by omega)
    have lc4 := LaterX.cell (r := w.heap.size + 1 + 1) (n := 9) c4_ (show wA.heap.size ≠ w.heap.size + 1 + 1 by omega)
    have lc5 := LaterX.cell (r := w.heap.size + 1 + 1) (n := 9) c5_ (show wA.heap.size ≠ w.heap.size + 1 + 1 by omega)
    have lc6 := LaterX.cell (r := w.heap.size + 1 + 1) (n := 9) c6_ (show wA.heap.size ≠ w.heap.size + 1 + 1 by omega)
    have lc7 := LaterX.cell (r := w.heap.size + 1 + 1) (n := 9) c7_ (show wA.heap.size ≠ w.heap.size + 1 + 1 by omega)
    have lc8 := LaterX.cell (r := w.heap.size + 1 + 1) (n := 9) c8_ (show wA.heap.size ≠ w.heap.size + 1 + 1 by omega)
    have la2 := LaterX.cell (r := w.heap.size + 1 + 1) (n := 9) a2_ (show w.heap.size + 1 ≠ w.heap.size + 1 + 1 by omega)
    have lr0 := LaterX.cell (r := w.heap.size + 1 + 1) (n := 9) r0_ (show ga ≠ w.heap.size + 1 + 1 by omega)
    clear c0_ c1_ c2_ c3_ c4_ c5_ c6_ c7_ c8_ a1_ a2_ r0_
    haveI : Inhabited (LaterX VF (w.heap.size + 1 + 1) 9) := ⟨⟨VF, rfl, rfl, rfl, rfl, fun _ _ => rfl, _, hZF.out⟩⟩
    refine wp_region_G (by kernel_rfl) [.q, .q, .q, .q, .q, .q, .q, .q, .q, .q, .q, .q, .q, .q, .q, .q, .q, .t, .q] [0, 0, 0, 0, 0, 0, 0, 0, 0, 0, 0, 0, 0, 0, 0, 0, 0, 2, 0] rfl 3 (by kernel_rfl) (inX VF (w.heap.size + 1 + 1) 9) VF.heap.size (inX.size _ _ _) (inX.drew hZF.out) ?_
    (refine wpG_quiets 11 _ _ _ _ (by first | exact cls_none rfl | exact fun w h => h.1) (by intro j hj; rcases j with _ | _ | _ | _ | _ | _ | _ | _ | _ | _ | _ | j <;> first | exact ⟨rfl, ⟨_, rfl, rfl⟩, rfl⟩ | (exfalso; omega)) ?_; simp only [List.take_succ_cons, List.take_zero, List.drop_succ_cons, List.drop_zero, Nat.zero_add, Nat.reduceAdd]; change wpQuiet _ _ (fun wq9 => ∃ x : LaterX VF (w.heap.size + 1 + 1) 9, wq9 = x.W) _ _ _; (repeat (go_big_quiet_step (fail))); refine wpQuiet_nil ?_; try dsimp only)
    refine wpG_stay rfl rfl (cls_none rfl) rfl (.pointer (some ⟨ga, i * 2, none⟩)) (by intro w1 hw1; go_simp) ?_
    simp only [Act.put, List.setIfInBounds_toArray, List.set_cons_zero, List.set_cons_succ, Nat.reduceAdd]
    (refine wpG_quiets 3 _ _ _ _ (by first | exact cls_none rfl | exact fun w h => h.1) (by intro j hj; rcases j with _ | _ | _ | _ | _ | _ | _ | _ | _ | _ | _ | j <;> first | exact ⟨rfl, ⟨_, rfl, rfl⟩, rfl⟩ | (exfalso; omega)) ?_; simp only [List.take_succ_cons, List.take_zero, List.drop_succ_cons, List.drop_zero, Nat.zero_add, Nat.reduceAdd]; change wpQuiet _ _ (fun wq9 => ∃ x : LaterX VF (w.heap.size + 1 + 1) 9, wq9 = x.W) _ _ _; (repeat (go_big_quiet_step (fail))); refine wpQuiet_nil ?_; try dsimp only)
    refine wpG_pure rfl rfl (cls_none rfl) (codes_not1 rfl) rfl 99 #[.int .i64 z, .int .i64 1, .int .i64 b.m.stage] (.bool false) (by intro w1; go_simp) (by intro w1 hw1; refine (l1In_any _ _ _ _).mono ?_; rintro e w2 ⟨rfl, rfl⟩; exact ⟨by rw [e6], rfl⟩) ?_
    simp only [Act.put, List.setIfInBounds_toArray, List.set_cons_zero, List.set_cons_succ, Nat.reduceAdd]
    (refine wpG_quiets 1 _ _ _ _ (by first | exact cls_none rfl | exact fun w h => h.1) (by intro j hj; rcases j with _ | _ | _ | _ | _ | _ | _ | _ | _ | _ | _ | j <;> first | exact ⟨rfl, ⟨_, rfl, rfl⟩, rfl⟩ | (exfalso; omega)) ?_; simp only [List.take_succ_cons, List.take_zero, List.drop_succ_cons, List.drop_zero, Nat.zero_add, Nat.reduceAdd]; change wpQuiet _ _ (fun wq9 => ∃ x : LaterX VF (w.heap.size + 1 + 1) 9, wq9 = x.W) _ _ _; (repeat (go_big_quiet_step (fail))); refine wpQuiet_nil ?_; try dsimp only)
    refine wpG_t (fun w' => setN w' (w.heap.size + 1 + 1) 0 [Value.string b.m.name, .int .i64 b.m.stage, .slice A1 b.m.x.length c1, .string b.bob, .string b.sing, .int .i64 b.step, .string b.call, .string b.tru, .slice (some ⟨ga, 0, none⟩) b.rx.length c3]) rfl rfl rfl rfl (by intro w1 hw1; have hX := hw1.cls rfl; obtain ⟨f, hf⟩ := hX.cells; have p0 := hf.cell (i := 0) (by omega); have q0 := hf.free (i := 0) (by omega); have p1 := hf.cell (i := 1) (by omega); have q1 := hf.free (i := 1) (by omega); have p2 := hf.cell (i := 2) (by omega); have q2 := hf.free (i := 2) (by omega); have p3 := hf.cell (i := 3) (by omega); have q3 := hf.free (i := 3) (by omega); have p4 := hf.cell (i := 4) (by omega); have q4 := hf.free (i := 4) (by omega); have p5 := hf.cell (i := 5) (by omega); have q5 := hf.free (i := 5) (by omega); have p6 := hf.cell (i := 6) (by omega); have q6 := hf.free (i := 6) (by omega); have p7 := hf.cell (i := 7) (by omega); have q7 := hf.free (i := 7) (by omega); have p8 := hf.cell (i := 8) (by omega); have q8 := hf.free (i := 8) (by omega); clear hw1; refine ⟨?_, hX.set _ rfl⟩; simp only [setN]; go_simp; try rfl) ?_
    simp only [Act.put, List.setIfInBounds_toArray, List.set_cons_zero, List.set_cons_succ, Nat.reduceAdd]
    (refine wpG_quiets 1 _ _ _ _ (by first | exact cls_none rfl | exact fun w h => h.1) (by intro j hj; rcases j with _ | _ | _ | _ | _ | _ | _ | _ | _ | _ | _ | j <;> first | exact ⟨rfl, ⟨_, rfl, rfl⟩, rfl⟩ | (exfalso; omega)) ?_; simp only [List.take_succ_cons, List.take_zero, List.drop_succ_cons, List.drop_zero, Nat.zero_add, Nat.reduceAdd]; change wpQuiet _ _ (fun wq9 => ∃ x : LaterX VF (w.heap.size + 1 + 1) 9, wq9 = x.W) _ _ _; (repeat (go_big_quiet_step (fail))); refine wpQuiet_nil ?_; try dsimp only)
    intro w' hh
    obtain ⟨_, wz, hz, rfl⟩ := hh
    have hX := hz.cls rfl
    obtain ⟨fz, hfz⟩ := hX.cells
    have hZ2 : Hid (Cells (setN wz (w.heap.size + 1 + 1) 0 [Value.string b.m.name, .int .i64 b.m.stage, .slice A1 b.m.x.length c1, .string b.bob, .string b.sing, .int .i64 b.step, .string b.call, .string b.tru, .slice (some ⟨ga, 0, none⟩) b.rx.length c3]) (w.heap.size + 1 + 1) 9 (fun i => ([Value.string b.m.name, .int .i64 b.m.stage, .slice A1 b.m.x.length c1, .string b.bob, .string b.sing, .int .i64 b.step, .string b.call, .string b.tru, .slice (some ⟨ga, 0, none⟩) b.rx.length c3] : List Value).getD i undef)) := Lib.hid (hfz.boxed _ rfl)
    have kk : Hid (Chg (w.heap.size + 1 + 1) (w.heap.size + 1 + 1 + 1) VF (setN wz (w.heap.size + 1 + 1) 0 [Value.string b.m.name, .int .i64 b.m.stage, .slice A1 b.m.x.length c1, .string b.bob, .string b.sing, .int .i64 b.step, .string b.call, .string b.tru, .slice (some ⟨ga, 0, none⟩) b.rx.length c3])) := Lib.hid (Chg.setN (Nat.le_refl _) (Nat.lt_succ_self _) _ hX.chg)
    clear hz hX hfz lc0 lc1 lc2 lc3 lc4 lc5 lc6 lc7 lc8 la2 lr0
    generalize setN wz (w.heap.size + 1 + 1) 0 [Value.string b.m.name, .int .i64 b.m.stage, .slice A1 b.m.x.length c1, .string b.bob, .string b.sing, .int .i64 b.step, .string b.call, .string b.tru, .slice (some ⟨ga, 0, none⟩) b.rx.length c3] = T at *
    have q0 := hZ2.out.cell (i := 0) (by omega)
    have q1 := hZ2.out.cell (i := 1) (by omega)
    have q2 := hZ2.out.cell (i := 2) (by omega)
    have q3 := hZ2.out.cell (i := 3) (by omega)
    have q4 := hZ2.out.cell (i := 4) (by omega)
    have q5 := hZ2.out.cell (i := 5) (by omega)
    have q6 := hZ2.out.cell (i := 6) (by omega)
    have q7 := hZ2.out.cell (i := 7) (by omega)
    have q8 := hZ2.out.cell (i := 8) (by omega)
    simp only [List.getD_cons_zero, List.getD_cons_succ] at q0 q1 q2 q3 q4 q5 q6 q7 q8
    go_wp2
    refine bodyPost_ret (v := .tuple #[.agg #[.string b.m.name, .int .i64 b.m.stage, .slice A1 b.m.x.length c1, .string b.bob, .string b.sing, .int .i64 b.step, .string b.call, .string b.tru, .slice (some ⟨ga, 0, none⟩) b.rx.length c3], .bool false]) (by simp [results, Tryz.results79, go_sem, q0, q1, q2, q3, q4, q5, q6, q7, q8]) rfl ?_
    have hlr : (b.rx.set i ⟨z, df⟩).length = b.rx.length := by simp
    have kks := kk.out.size
    have kO1 := (hO1F.out.chg kk.out (.inr (by omega))).mono (show w.heap.size ≤ W.heap.size by omega) (Nat.le_refl _)
    have kO3 := (hO3F.out.chg kk.out (.inr (by omega))).mono (Nat.le_refl _) (Nat.le_trans (show wA.heap.size ≤ VF.heap.size by omega) kks)
    have kBB := Below.chg hWF.out kk.out (by omega) (by omega)
    exact ⟨_, ⟨b.m.name, b.m.stage, b.m.x, b.bob, b.sing, b.step, b.call, b.tru, b.rx.set i ⟨z, df⟩⟩, by rw [D.out], ⟨A1, c1, some ⟨ga, 0, none⟩, c3, gs, by first | (simp only [List.length_set]; done) | rfl, by omega, Nat.le_trans hg2 (Nat.le_trans (show wA.heap.size ≤ VF.heap.size by omega) kks), kO1, kO3⟩, kBB, fun x => by rw [D.out] at x; cases x⟩
  have D := Lib.hid (doR_4 (b := b) (kd := 4) (cl := ⟨#[]⟩) C3.out ⟨⟨rfl, rfl, rfl, rfl⟩, y1, by rw [hbi.out, hpl1.out, hze.out]; exact c6⟩)
  rw [hbi.out, hbp.out, hpl1.out, hdf1.out, hze.out] at D
  have e6 := B_t c6
  clear c6 hz hzw hze
  rcases y1 with rfl | rfl
  all_goals
   have lc0 := LaterX.cell (r := w.heap.size + 1 + 1) (n := 9) c0_ (show wA.heap.size ≠ w.heap.size + 1 + 1 by omega)
   have lc1 := LaterX.cell (r := w.heap.size + 1 + 1) (n := 9) c1_ (show wA.heap.size ≠ w.heap.size + 1 + 1 by omega)
   have lc2 := LaterX.cell (r := w.heap.size + 1 + 1) (n := 9) c2_ (show wA.heap.size ≠ w.heap.size + 1 + 1 by omega)
   have lc3 := LaterX.cell (r := w.heap.size + 1 + 1) (n := 9) c3_ (show wA.heap.size ≠ w.heap.size + 1 + 1 by omega)
   have lc4 := LaterX.cell (r := w.heap.size + 1 + 1) (n := 9) c4_ (show wA.heap.size ≠ w.heap.size + 1 + 1 by omega)
   have lc5 := LaterX.cell (r := w.heap.size + 1 + 1) (n := 9) c5_ (show wA.heap.size ≠ w.heap.size + 1 + 1 by omega)
   have lc6 := LaterX.cell (r := w.heap.size + 1 + 1) (n := 9) c6_ (show wA.heap.size ≠ w.heap.size + 1 + 1 by omega)
   have lc7 := LaterX.cell (r := w.heap.size + 1 + 1) (n := 9) c7_ (show wA.heap.size ≠ w.heap.size + 1 + 1 by omega)
   have lc8 := LaterX.cell (r := w.heap.size + 1 + 1) (n := 9) c8_ (show wA.heap.size ≠ w.heap.size + 1 + 1 by omega)
   have la2 := LaterX.cell (r := w.heap.size + 1 + 1) (n := 9) a2_ (show w.heap.size + 1 ≠ w.heap.size + 1 + 1 by omega)
   have lr0 := LaterX.cell (r := w.heap.size + 1 + 1) (n := 9) r0_ (show ga ≠ w.heap.size + 1 + 1 by omega)
   clear c0_ c1_ c2_ c3_ c4_ c5_ c6_ c7_ c8_ a1_ a2_ r0_
   haveI : Inhabited (LaterX VF (w.heap.size + 1 + 1) 9) := ⟨⟨VF, rfl, rfl, rfl, rfl, fun _ _ => rfl, _, hZF.out⟩⟩
   refine wp_region_G (by kernel_rfl) [.q, .q, .q, .q, .q, .q, .q, .q, .q, .q, .q, .q, .q, .q, .q, .q, .q, .t, .q] [0, 0, 0, 0, 0, 0, 0, 0, 0, 0, 0, 0, 0, 0, 0, 0, 0, 2, 0] rfl 3 (by kernel_rfl) (inX VF (w.heap.size + 1 + 1) 9) VF.heap.size (inX.size _ _ _) (inX.drew hZF.out) ?_
   (refine wpG_quiets 11 _ _ _ _ (by first | exact cls_none rfl | exact fun w h => h.1) (by intro j hj; rcases j with _ | _ | _ | _ | _ | _ | _ | _ | _ | _ | _ | j <;> first | exact ⟨rfl, ⟨_, rfl, rfl⟩, rfl⟩ | (exfalso; omega)) ?_; simp only [List.take_succ_cons, List.take_zero, List.drop_succ_cons, List.drop_zero, Nat.zero_add, Nat.reduceAdd]; change wpQuiet _ _ (fun wq9 => ∃ x : LaterX VF (w.heap.size + 1 + 1) 9, wq9 = x.W) _ _ _; (repeat (go_big_quiet_step (fail))); refine wpQuiet_nil ?_; try dsimp only)
   refine wpG_stay rfl rfl (cls_none rfl) rfl (.pointer (some ⟨ga, i * 2, none⟩)) (by intro w1 hw1; go_simp) ?_
   simp only [Act.put, List.setIfInBounds_toArray, List.set_cons_zero, List.set_cons_succ, Nat.reduceAdd]
   (refine wpG_quiets 3 _ _ _ _ (by first | exact cls_none rfl | exact fun w h => h.1) (by intro j hj; rcases j with _ | _ | _ | _ | _ | _ | _ | _ | _ | _ | _ | j <;> first | exact ⟨rfl, ⟨_, rfl, rfl⟩, rfl⟩ | (exfalso; omega)) ?_; simp only [List.take_succ_cons, List.take_zero, List.drop_succ_cons, List.drop_zero, Nat.zero_add, Nat.reduceAdd]; change wpQuiet _ _ (fun wq9 => ∃ x : LaterX VF (w.heap.size + 1 + 1) 9, wq9 = x.W) _ _ _; (repeat (go_big_quiet_step (fail))); refine wpQuiet_nil ?_; try dsimp only)
   refine wpG_pure rfl rfl (cls_none rfl) (codes_not1 rfl) rfl 99 #[.int .i64 z, .int .i64 1, .int .i64 b.m.stage] (.bool true) (by intro w1; go_simp) (by intro w1 hw1; refine (l1In_any _ _ _ _).mono ?_; rintro e w2 ⟨rfl, rfl⟩; exact ⟨by rw [e6], rfl⟩) ?_
   simp only [Act.put, List.setIfInBounds_toArray, List.set_cons_zero, List.set_cons_succ, Nat.reduceAdd]
   (refine wpG_quiets 1 _ _ _ _ (by first | exact cls_none rfl | exact fun w h => h.1) (by intro j hj; rcases j with _ | _ | _ | _ | _ | _ | _ | _ | _ | _ | _ | j <;> first | exact ⟨rfl, ⟨_, rfl, rfl⟩, rfl⟩ | (exfalso; omega)) ?_; simp only [List.take_succ_cons, List.take_zero, List.drop_succ_cons, List.drop_zero, Nat.zero_add, Nat.reduceAdd]; change wpQuiet _ _ (fun wq9 => ∃ x : LaterX VF (w.heap.size + 1 + 1) 9, wq9 = x.W) _ _ _; (repeat (go_big_quiet_step (fail))); refine wpQuiet_nil ?_; try dsimp only)
   refine wpG_t (fun w' => setN w' (w.heap.size + 1 + 1) 0 [Value.string b.m.name, .int .i64 b.m.stage, .slice A1 b.m.x.length c1, .string b.bob, .string b.sing, .int .i64 b.step, .string b.call, .string b.tru, .slice (some ⟨ga, 0, none⟩) b.rx.length c3]) rfl rfl rfl rfl (by intro w1 hw1; have hX := hw1.cls rfl; obtain ⟨f, hf⟩ := hX.cells; have p0 := hf.cell (i := 0) (by omega); have q0 := hf.free (i := 0) (by omega); have p1 := hf.cell (i := 1) (by omega); have q1 := hf.free (i := 1) (by omega); have p2 := hf.cell (i := 2) (by omega); have q2 := hf.free (i := 2) (by omega); have p3 := hf.cell (i := 3) (by omega); have q3 := hf.free (i := 3) (by omega); have p4 := hf.cell (i := 4) (by omega); have q4 := hf.free (i := 4) (by omega); have p5 := hf.cell (i := 5) (by omega); have q5 := hf.free (i := 5) (by omega); have p6 := hf.cell (i := 6) (by omega); have q6 := hf.free (i := 6) (by omega); have p7 := hf.cell (i := 7) (by omega); have q7 := hf.free (i := 7) (by omega); have p8 := hf.cell (i := 8) (by omega); have q8 := hf.free (i := 8) (by omega); clear hw1; refine ⟨?_, hX.set _ rfl⟩; simp only [setN]; go_simp; try rfl) ?_
   simp only [Act.put, List.setIfInBounds_toArray, List.set_cons_zero, List.set_cons_succ, Nat.reduceAdd]
   (refine wpG_quiets 1 _ _ _ _ (by first | exact cls_none rfl | exact fun w h => h.1) (by intro j hj; rcases j with _ | _ | _ | _ | _ | _ | _ | _ | _ | _ | _ | j <;> first | exact ⟨rfl, ⟨_, rfl, rfl⟩, rfl⟩ | (exfalso; omega)) ?_; simp only [List.take_succ_cons, List.take_zero, List.drop_succ_cons, List.drop_zero, Nat.zero_add, Nat.reduceAdd]; change wpQuiet _ _ (fun wq9 => ∃ x : LaterX VF (w.heap.size + 1 + 1) 9, wq9 = x.W) _ _ _; (repeat (go_big_quiet_step (fail))); refine wpQuiet_nil ?_; try dsimp only)
   intro w' hh
   obtain ⟨_, wz, hz, rfl⟩ := hh
   have hX := hz.cls rfl
   obtain ⟨fz, hfz⟩ := hX.cells
   have hZ2 : Hid (Cells (setN wz (w.heap.size + 1 + 1) 0 [Value.string b.m.name, .int .i64 b.m.stage, .slice A1 b.m.x.length c1, .string b.bob, .string b.sing, .int .i64 b.step, .string b.call, .string b.tru, .slice (some ⟨ga, 0, none⟩) b.rx.length c3]) (w.heap.size + 1 + 1) 9 (fun i => ([Value.string b.m.name, .int .i64 b.m.stage, .slice A1 b.m.x.length c1, .string b.bob, .string b.sing, .int .i64 b.step, .string b.call, .string b.tru, .slice (some ⟨ga, 0, none⟩) b.rx.length c3] : List Value).getD i undef)) := Lib.hid (hfz.boxed _ rfl)
   have kk : Hid (Chg (w.heap.size + 1 + 1) (w.heap.size + 1 + 1 + 1) VF (setN wz (w.heap.size + 1 + 1) 0 [Value.string b.m.name, .int .i64 b.m.stage, .slice A1 b.m.x.length c1, .string b.bob, .string b.sing, .int .i64 b.step, .string b.call, .string b.tru, .slice (some ⟨ga, 0, none⟩) b.rx.length c3])) := Lib.hid (Chg.setN (Nat.le_refl _) (Nat.lt_succ_self _) _ hX.chg)
   clear hz hX hfz lc0 lc1 lc2 lc3 lc4 lc5 lc6 lc7 lc8 la2 lr0
   generalize setN wz (w.heap.size + 1 + 1) 0 [Value.string b.m.name, .int .i64 b.m.stage, .slice A1 b.m.x.length c1, .string b.bob, .string b.sing, .int .i64 b.step, .string b.call, .string b.tru, .slice (some ⟨ga, 0, none⟩) b.rx.length c3] = T at *
   have q0 := hZ2.out.cell (i := 0) (by omega)
   have q1 := hZ2.out.cell (i := 1) (by omega)
   have q2 := hZ2.out.cell (i := 2) (by omega)
   have q3 := hZ2.out.cell (i := 3) (by omega)
   have q4 := hZ2.out.cell (i := 4) (by omega)
   have q5 := hZ2.out.cell (i := 5) (by omega)
   have q6 := hZ2.out.cell (i := 6) (by omega)
   have q7 := hZ2.out.cell (i := 7) (by omega)
   have q8 := hZ2.out.cell (i := 8) (by omega)
   simp only [List.getD_cons_zero, List.getD_cons_succ] at q0 q1 q2 q3 q4 q5 q6 q7 q8
   go_wp2
   refine bodyPost_ret (v := .tuple #[.agg #[.string b.m.name, .int .i64 b.m.stage, .slice A1 b.m.x.length c1, .string b.bob, .string b.sing, .int .i64 b.step, .string b.call, .string b.tru, .slice (some ⟨ga, 0, none⟩) b.rx.length c3], .bool true]) (by simp [results, Tryz.results79, go_sem, q0, q1, q2, q3, q4, q5, q6, q7, q8]) rfl ?_
   have hlr : (b.rx.set i ⟨z, df⟩).length = b.rx.length := by simp
   have kks := kk.out.size
   have kO1 := (hO1F.out.chg kk.out (.inr (by omega))).mono (show w.heap.size ≤ W.heap.size by omega) (Nat.le_refl _)
   have kO3 := (hO3F.out.chg kk.out (.inr (by omega))).mono (Nat.le_refl _) (Nat.le_trans (show wA.heap.size ≤ VF.heap.size by omega) kks)
   have kBB := Below.chg hWF.out kk.out (by omega) (by omega)
   exact ⟨_, ⟨b.m.name, b.m.stage, b.m.x, b.bob, b.sing, b.step, b.call, b.tru, b.rx.set i ⟨z, df⟩⟩, by rw [D.out], ⟨A1, c1, some ⟨ga, 0, none⟩, c3, gs, by first | (simp only [List.length_set]; done) | rfl, by omega, Nat.le_trans hg2 (Nat.le_trans (show wA.heap.size ≤ VF.heap.size by omega) kks), kO1, kO3⟩, kBB, fun _ => by rw [D.out]⟩
end Go.Proofs.YtkegbbndmfnolaaGreatDoor
