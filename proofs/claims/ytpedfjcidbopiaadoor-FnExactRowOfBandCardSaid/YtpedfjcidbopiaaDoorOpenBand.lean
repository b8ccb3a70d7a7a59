/-
  A law's arguments, opened: a method, its calls, a band.
-/
import Derived.Test.YtpedfjcidbopiaaDoorTyBand
import Derived.Test.YtpedfjcidbopiaaDoorOpenCs
namespace Go.Proofs.YtpedfjcidbopiaaDoor
open Go.ChangeShapes Go.WideShapes Go.ChangeAt Go.RowKit Go.Deep
set_option linter.unusedVariables false
set_option linter.unusedSimpArgs false
set_option maxRecDepth 100000

theorem Method_el {H : Type} {en : TypeId × Value → H} {w : World} {base : Nat} {spare : Nat → Bool} {held : Bool} (n : Nat) (cs : List Value) (y : DataW H × List MemPlace) (h : DataW.trod en Tryd.prog w base spare held n 53 cs = some y) :
    ∃ x : Mth, cs = Mth.enc x ∧ (x.Fits ∧ RdL w w.heap.size x.A 1 encString x.x ∧ (-9223372036854775808 ≤ x.stage ∧ x.stage ≤ 9223372036854775807)) := by
  obtain ⟨xs, m, _, _, hlen, hxl, hg⟩ := DataW.trod_struct Tryd.underlying53 h
  have hC : Tryd.prog.cellsOf 53 = 3 := by kernel_rfl
  have hC_string : Tryd.prog.cellsOf 9 = 1 := by kernel_rfl
  have hC_int : Tryd.prog.cellsOf 3 = 1 := by kernel_rfl
  have hC_sl : Tryd.prog.cellsOf 51 = 1 := by kernel_rfl
  rw [hC] at hlen
  match cs, hlen, xs, hxl with
  | [c0, c1, c2], _, [x0, x1, x2], _ =>
    have g0 := hg 0 _ rfl
    simp only [hC_string, List.drop_zero, List.drop_succ_cons, List.take_succ_cons, List.take_zero, List.getElem?_cons_zero, List.getElem?_cons_succ] at g0
    obtain ⟨a0, e0, _, s0⟩ := DataW.trod_string Tryd.underlying9 g0
    injection e0 with e0 _
    subst e0
    have g1 := hg 1 _ rfl
    simp only [hC_int, List.drop_zero, List.drop_succ_cons, List.take_succ_cons, List.take_zero, List.getElem?_cons_zero, List.getElem?_cons_succ] at g1
    obtain ⟨a1, e1, _, s1⟩ := DataW.trod_int Tryd.underlying3 g1
    injection e1 with e1 _
    subst e1
    have g2 := hg 2 _ rfl
    simp only [hC_sl, List.drop_zero, List.drop_succ_cons, List.take_succ_cons, List.take_zero, List.getElem?_cons_zero, List.getElem?_cons_succ] at g2
    obtain ⟨A, l, c, e2, hl, hr, hs⟩ := open_list_cs Tryd.underlying51 1 (by kernel_rfl) (by omega) encString (String_small 9223372036854775807) String_el g2
    injection e2 with e2 _
    subst e2
    refine ⟨⟨a0, a1, l, A, c⟩, rfl, ⟨?_, ?_, hs⟩, hr, ?_⟩
    · unfold maxLen at s0; simp only; omega
    · unfold maxLen at hl; simp only; omega
    · simp [Lit.wf, IntKind.min, IntKind.max, IntKind.signed, IntKind.bits] at s1; simp only; omega
theorem Calls_el {H : Type} {en : TypeId × Value → H} {w : World} {base : Nat} {spare : Nat → Bool} {held : Bool} (n : Nat) (cs : List Value) (y : DataW H × List MemPlace) (h : DataW.trod en Tryd.prog w base spare held n 55 cs = some y) :
    ∃ x : ByteArray × ByteArray, cs = [.string x.1, .string x.2] ∧ ((x.1.size : Int) ≤ 9223372036854775807 ∧ (x.2.size : Int) ≤ 9223372036854775807) := by
  obtain ⟨xs, m, _, _, hlen, hxl, hg⟩ := DataW.trod_struct Tryd.underlying55 h
  have hC : Tryd.prog.cellsOf 55 = 2 := by kernel_rfl
  have hC_string : Tryd.prog.cellsOf 9 = 1 := by kernel_rfl
  rw [hC] at hlen
  match cs, hlen, xs, hxl with
  | [c0, c1], _, [x0, x1], _ =>
    have g0 := hg 0 _ rfl
    simp only [hC_string, List.drop_zero, List.drop_succ_cons, List.take_succ_cons, List.take_zero, List.getElem?_cons_zero, List.getElem?_cons_succ] at g0
    obtain ⟨a0, e0, _, s0⟩ := DataW.trod_string Tryd.underlying9 g0
    injection e0 with e0 _
    subst e0
    have g1 := hg 1 _ rfl
    simp only [hC_string, List.drop_zero, List.drop_succ_cons, List.take_succ_cons, List.take_zero, List.getElem?_cons_zero, List.getElem?_cons_succ] at g1
    obtain ⟨a1, e1, _, s1⟩ := DataW.trod_string Tryd.underlying9 g1
    injection e1 with e1 _
    subst e1
    refine ⟨⟨a0, a1⟩, rfl, ?_, ?_⟩
    · unfold maxLen at s0; simp only; omega
    · unfold maxLen at s1; simp only; omega
theorem Band_el {H : Type} {en : TypeId × Value → H} {w : World} {base : Nat} {spare : Nat → Bool} {held : Bool} (n : Nat) (cs : List Value) (y : DataW H × List MemPlace) (h : DataW.trod en Tryd.prog w base spare held n 58 cs = some y) :
    ∃ x : Bnd, cs = Bnd.enc x ∧ (x.Fits ∧ RdL w w.heap.size x.m.A 1 encString x.m.x ∧ RdL w w.heap.size x.RA 2 Rgr.enc x.rx ∧ (-9223372036854775808 ≤ x.m.stage ∧ x.m.stage ≤ 9223372036854775807) ∧ (-9223372036854775808 ≤ x.step ∧ x.step ≤ 9223372036854775807) ∧ ∀ r ∈ x.rx, Ringer_small 9223372036854775807 r) := by
  obtain ⟨xs, m, _, _, hlen, hxl, hg⟩ := DataW.trod_struct Tryd.underlying58 h
  have hC : Tryd.prog.cellsOf 58 = 9 := by kernel_rfl
  have hC_m : Tryd.prog.cellsOf 53 = 3 := by kernel_rfl
  have hC_k : Tryd.prog.cellsOf 55 = 2 := by kernel_rfl
  have hC_string : Tryd.prog.cellsOf 9 = 1 := by kernel_rfl
  have hC_int : Tryd.prog.cellsOf 3 = 1 := by kernel_rfl
  have hC_sl : Tryd.prog.cellsOf 56 = 1 := by kernel_rfl
  rw [hC] at hlen
  match cs, hlen, xs, hxl with
  | [c0, c1, c2, c3, c4, c5, c6, c7, c8], _, [x0, x1, x2, x3, x4, x5], _ =>
    have g0 := hg 0 _ rfl
    simp only [hC_m, List.drop_zero, List.drop_succ_cons, List.take_succ_cons, List.take_zero, List.getElem?_cons_zero, List.getElem?_cons_succ] at g0
    obtain ⟨⟨nm, st, l, A, c⟩, e0, hf, hr, hst⟩ := Method_el _ _ _ g0
    simp only [Mth.enc, List.cons.injEq, and_true] at e0
    obtain ⟨rfl, rfl, rfl⟩ := e0
    have g1 := hg 1 _ rfl
    simp only [hC_k, List.drop_zero, List.drop_succ_cons, List.take_succ_cons, List.take_zero, List.getElem?_cons_zero, List.getElem?_cons_succ] at g1
    obtain ⟨⟨bo, si⟩, e1, hb1, hb2⟩ := Calls_el _ _ _ g1
    simp only [List.cons.injEq, and_true] at e1
    obtain ⟨rfl, rfl⟩ := e1
    have g2 := hg 2 _ rfl
    simp only [hC_int, List.drop_zero, List.drop_succ_cons, List.take_succ_cons, List.take_zero, List.getElem?_cons_zero, List.getElem?_cons_succ] at g2
    obtain ⟨a2, e2, _, s2⟩ := DataW.trod_int Tryd.underlying3 g2
    injection e2 with e2 _
    subst e2
    have g3 := hg 3 _ rfl
    simp only [hC_string, List.drop_zero, List.drop_succ_cons, List.take_succ_cons, List.take_zero, List.getElem?_cons_zero, List.getElem?_cons_succ] at g3
    obtain ⟨a3, e3, _, s3⟩ := DataW.trod_string Tryd.underlying9 g3
    injection e3 with e3 _
    subst e3
    have g4 := hg 4 _ rfl
    simp only [hC_string, List.drop_zero, List.drop_succ_cons, List.take_succ_cons, List.take_zero, List.getElem?_cons_zero, List.getElem?_cons_succ] at g4
    obtain ⟨a4, e4, _, s4⟩ := DataW.trod_string Tryd.underlying9 g4
    injection e4 with e4 _
    subst e4
    have g5 := hg 5 _ rfl
    simp only [hC_sl, List.drop_zero, List.drop_succ_cons, List.take_succ_cons, List.take_zero, List.getElem?_cons_zero, List.getElem?_cons_succ] at g5
    obtain ⟨RA, rl, rc, e5, hl5, hr5, hs5⟩ := open_list_cs Tryd.underlying56 2 (by kernel_rfl) (by omega) Rgr.enc (Ringer_small 9223372036854775807) Ringer_el g5
    injection e5 with e5 _
    subst e5
    refine ⟨⟨⟨nm, st, l, A, c⟩, bo, si, a2, a3, a4, rl, RA, rc⟩, rfl, ⟨hf, hb1, hb2, ?_, ?_, ?_⟩, hr, hr5, hst, ?_, hs5⟩
    · unfold maxLen at s3; simp only; omega
    · unfold maxLen at s4; simp only; omega
    · unfold maxLen at hl5; simp only; omega
    · simp [Lit.wf, IntKind.min, IntKind.max, IntKind.signed, IntKind.bits] at s2; simp only; omega
end Go.Proofs.YtpedfjcidbopiaaDoor
