/-
  Contracts of the helper functions that the laws use for lists of RingAct.
-/
import Derived.Test.YtdecjijldcbnjaaRows
import Derived.Test.YtdecjijldcbnjaaMark
import Derived.Test.YtdecjijldcbnjaaOpen
import Derived.StillTailTactics
import Derived.Deep.RegionHeld3
namespace Go.Proofs.Ytdecjijldcbnjaa
open Go.RowKit Go.ChangeShapes Go.WideShapes
set_option linter.unusedVariables false
set_option linter.unusedSimpArgs false
set_option maxRecDepth 100000


structure Act_ where
  kind : Int
  bell : Int
  by_ : Int
  call : ByteArray

def Act_.enc (x : Act_) : List Value := [.int .i64 x.kind, .int .i64 x.bell, .int .i64 x.by_, .string x.call]
theorem Act__enc_len (x : Act_) : (Act_.enc x).length = 4 := rfl
def RingAct_small (lim : Int) (x : Act_) : Prop := (x.call.size : Int) ≤ lim
theorem RingAct_info : (Try.prog.info? 110).map (fun i => (i.zero, i.size, i.bytes)) = some (some (.agg #[.int .i64 0, .int .i64 0, .int .i64 0, .string ⟨#[]⟩]), 4, 40) := by kernel_rfl

theorem RingAct_el {H : Type} {en : TypeId × Value → H} {w : World} {base : Nat} {spare : Nat → Bool} {held : Bool} (n : Nat) (cs : List Value) (y : DataW H × List MemPlace) (h : DataW.trod en Try.prog w base spare held n 101 cs = some y) : ∃ x : Act_, cs = Act_.enc x ∧ RingAct_small 9223372036854775807 x := by
  obtain ⟨xs, m, _, _, hlen, hxl, hg⟩ := DataW.trod_struct Try.underlying101 h
  have hC : Try.prog.cellsOf 101 = 4 := by kernel_rfl
  have hC_int : Try.prog.cellsOf 3 = 1 := by kernel_rfl
  have hC_string : Try.prog.cellsOf 9 = 1 := by kernel_rfl
  rw [hC] at hlen
  match cs, hlen, xs, hxl with
  | [c0, c1, c2, c3], _, [x0, x1, x2, x3], _ =>
    have g0 := hg 0 _ rfl
    simp only [hC_int, List.drop_zero, List.drop_succ_cons, List.take_succ_cons, List.take_zero, List.getElem?_cons_zero, List.getElem?_cons_succ] at g0
    obtain ⟨a0, e0, _, _⟩ := DataW.trod_int Try.underlying3 g0
    injection e0 with e0 _
    subst e0
    have g1 := hg 1 _ rfl
    simp only [hC_int, List.drop_zero, List.drop_succ_cons, List.take_succ_cons, List.take_zero, List.getElem?_cons_zero, List.getElem?_cons_succ] at g1
    obtain ⟨a1, e1, _, _⟩ := DataW.trod_int Try.underlying3 g1
    injection e1 with e1 _
    subst e1
    have g2 := hg 2 _ rfl
    simp only [hC_int, List.drop_zero, List.drop_succ_cons, List.take_succ_cons, List.take_zero, List.getElem?_cons_zero, List.getElem?_cons_succ] at g2
    obtain ⟨a2, e2, _, _⟩ := DataW.trod_int Try.underlying3 g2
    injection e2 with e2 _
    subst e2
    have g3 := hg 3 _ rfl
    simp only [hC_string, List.drop_zero, List.drop_succ_cons, List.take_succ_cons, List.take_zero, List.getElem?_cons_zero, List.getElem?_cons_succ] at g3
    obtain ⟨a3, e3, _, s3⟩ := DataW.trod_string Try.underlying9 g3
    injection e3 with e3 _
    subst e3
    exact ⟨⟨a0, a1, a2, a3⟩, rfl, by simp only [RingAct_small]; unfold maxLen at s3; omega⟩

theorem szRingAct_any (x : Act_) (left : Int) (w : World) (h1 : 0 ≤ left) (h2 : left ≤ 1048576) (hs : RingAct_small 9223372036854775807 x) :
    Calls Try.prog 76 #[.agg #[.int .i64 x.kind, .int .i64 x.bell, .int .i64 x.by_, .string x.call], .int .i64 left] w fun e w' => ∃ r, e = .returned (.int .i64 r) ∧ (r = -1 ∨ (0 ≤ r ∧ r ≤ left ∧ RingAct_small left x)) ∧ Below w.heap.size w w' := by
  simp only [RingAct_small] at hs
  have s0 := hs
  go_enter Try.func76, Try.ntmps76
  go_wp2
  all_goals
    go_ret
    refine ⟨_, rfl, ?_, (by repeat (first | exact Below.refl _ _ | (refine Below.alloc ?_ (by simp <;> omega) _) | (refine Below.drew ?_) | (refine below_drewN ?_ _)))⟩
    first
      | exact .inl rfl
      | (refine .inr ⟨by omega, by omega, ?_⟩; simp only [RingAct_small]; (repeat' apply And.intro) <;> omega)

theorem toRingAct_any (x : Act_) (w : World) :
    Calls Try.prog 79 #[.agg #[.int .i64 x.kind, .int .i64 x.bell, .int .i64 x.by_, .string x.call]] w fun e w' => e = .returned (.agg #[.int .i64 x.kind, .int .i64 x.bell, .int .i64 x.by_, .string x.call]) ∧ Below w.heap.size w w' := by
  go_enter Try.func79, Try.ntmps79
  go_wp2
  refine bodyPost_ret (v := .agg #[.int .i64 x.kind, .int .i64 x.bell, .int .i64 x.by_, .string x.call]) (by simp [results, Try.results79, go_sem]) rfl ⟨rfl, ?_⟩
  exact (((Below.refl _ _).alloc (Nat.le_refl _) _).alloc (by simp) _).alloc (by simp <;> omega) _

/-- What the marks make of a list of so many elements. -/
def markRingActL (m q : Nat) : List Act_ := (List.range m).map fun i : Nat => (⟨((q + i * 4 : Nat) : Int), ((q + i * 4 + 1 : Nat) : Int), ((q + i * 4 + 2 : Nat) : Int), (markT (q + i * 4 + 3))⟩ : Act_)
theorem markRingActL_len (m q : Nat) : (markRingActL m q).length = m := by simp [markRingActL]
theorem markRingActL_at (m q i : Nat) (hi : i < (markRingActL m q).length) : (markRingActL m q)[i] = (⟨((q + i * 4 : Nat) : Int), ((q + i * 4 + 1 : Nat) : Int), ((q + i * 4 + 2 : Nat) : Int), (markT (q + i * 4 + 3))⟩ : Act_) := by simp [markRingActL]
end Go.Proofs.Ytdecjijldcbnjaa