/-
  Contracts of the helper functions that the laws use for lists of Record.
-/
import Derived.Test.YtpedfjcidbopiaaDoorRows
import Derived.Test.YtpedfjcidbopiaaDoorMark
import Derived.Test.YtpedfjcidbopiaaDoorOpen
import Derived.StillTailTactics
import Derived.Deep.RegionHeld3
namespace Go.Proofs.YtpedfjcidbopiaaDoor
open Go.RowKit Go.ChangeShapes Go.WideShapes
set_option linter.unusedVariables false
set_option linter.unusedSimpArgs false
set_option maxRecDepth 100000


structure Rcd where
  day : Int
  meth : ByteArray
  touch : ByteArray
  rows : Int
  note : ByteArray

def Rcd.enc (x : Rcd) : List Value := [.int .i64 x.day, .string x.meth, .string x.touch, .int .i64 x.rows, .string x.note]
theorem Rcd_enc_len (x : Rcd) : (Rcd.enc x).length = 5 := rfl
def Record_small (lim : Int) (x : Rcd) : Prop := (x.meth.size : Int) ≤ lim ∧ (x.touch.size : Int) ≤ lim ∧ (x.note.size : Int) ≤ lim
theorem Record_info : (Tryd.prog.info? 34).map (fun i => (i.zero, i.size, i.bytes)) = some (some (.agg #[.int .i64 0, .string ⟨#[]⟩, .string ⟨#[]⟩, .int .i64 0, .string ⟨#[]⟩]), 5, 64) := by kernel_rfl

theorem Record_el {H : Type} {en : TypeId × Value → H} {w : World} {base : Nat} {spare : Nat → Bool} {held : Bool} (n : Nat) (cs : List Value) (y : DataW H × List MemPlace) (h : DataW.trod en Tryd.prog w base spare held n 31 cs = some y) : ∃ x : Rcd, cs = Rcd.enc x ∧ Record_small 9223372036854775807 x := by
  obtain ⟨xs, m, _, _, hlen, hxl, hg⟩ := DataW.trod_struct Tryd.underlying31 h
  have hC : Tryd.prog.cellsOf 31 = 5 := by kernel_rfl
  have hC_int : Tryd.prog.cellsOf 3 = 1 := by kernel_rfl
  have hC_string : Tryd.prog.cellsOf 9 = 1 := by kernel_rfl
  rw [hC] at hlen
  match cs, hlen, xs, hxl with
  | [c0, c1, c2, c3, c4], _, [x0, x1, x2, x3, x4], _ =>
    have g0 := hg 0 _ rfl
    simp only [hC_int, List.drop_zero, List.drop_succ_cons, List.take_succ_cons, List.take_zero, List.getElem?_cons_zero, List.getElem?_cons_succ] at g0
    obtain ⟨a0, e0, _, _⟩ := DataW.trod_int Tryd.underlying3 g0
    injection e0 with e0 _
    subst e0
    have g1 := hg 1 _ rfl
    simp only [hC_string, List.drop_zero, List.drop_succ_cons, List.take_succ_cons, List.take_zero, List.getElem?_cons_zero, List.getElem?_cons_succ] at g1
    obtain ⟨a1, e1, _, s1⟩ := DataW.trod_string Tryd.underlying9 g1
    injection e1 with e1 _
    subst e1
    have g2 := hg 2 _ rfl
    simp only [hC_string, List.drop_zero, List.drop_succ_cons, List.take_succ_cons, List.take_zero, List.getElem?_cons_zero, List.getElem?_cons_succ] at g2
    obtain ⟨a2, e2, _, s2⟩ := DataW.trod_string Tryd.underlying9 g2
    injection e2 with e2 _
    subst e2
    have g3 := hg 3 _ rfl
    simp only [hC_int, List.drop_zero, List.drop_succ_cons, List.take_succ_cons, List.take_zero, List.getElem?_cons_zero, List.getElem?_cons_succ] at g3
    obtain ⟨a3, e3, _, _⟩ := DataW.trod_int Tryd.underlying3 g3
    injection e3 with e3 _
    subst e3
    have g4 := hg 4 _ rfl
    simp only [hC_string, List.drop_zero, List.drop_succ_cons, List.take_succ_cons, List.take_zero, List.getElem?_cons_zero, List.getElem?_cons_succ] at g4
    obtain ⟨a4, e4, _, s4⟩ := DataW.trod_string Tryd.underlying9 g4
    injection e4 with e4 _
    subst e4
    exact ⟨⟨a0, a1, a2, a3, a4⟩, rfl, by simp only [Record_small]; unfold maxLen at s1 s2 s4; exact ⟨by omega, by omega, by omega⟩⟩

theorem szRecord_any (x : Rcd) (left : Int) (w : World) (h1 : 0 ≤ left) (h2 : left ≤ 1048576) (hs : Record_small 9223372036854775807 x) :
    Calls Tryd.prog 15 #[.agg #[.int .i64 x.day, .string x.meth, .string x.touch, .int .i64 x.rows, .string x.note], .int .i64 left] w fun e w' => ∃ r, e = .returned (.int .i64 r) ∧ (r = -1 ∨ (0 ≤ r ∧ r ≤ left ∧ Record_small left x)) ∧ Below w.heap.size w w' := by
  simp only [Record_small] at hs
  obtain ⟨s0, s1, s2⟩ := hs
  go_enter Tryd.func15, Tryd.ntmps15
  go_wp2
  all_goals
    go_ret
    refine ⟨_, rfl, ?_, (by repeat (first | exact Below.refl _ _ | (refine Below.alloc ?_ (by simp <;> omega) _) | (refine Below.drew ?_) | (refine below_drewN ?_ _)))⟩
    first
      | exact .inl rfl
      | (refine .inr ⟨by omega, by omega, ?_⟩; simp only [Record_small]; (repeat' apply And.intro) <;> omega)

theorem toRecord_any (x : Rcd) (w : World) :
    Calls Tryd.prog 17 #[.agg #[.int .i64 x.day, .string x.meth, .string x.touch, .int .i64 x.rows, .string x.note]] w fun e w' => e = .returned (.agg #[.int .i64 x.day, .string x.meth, .string x.touch, .int .i64 x.rows, .string x.note]) ∧ Below w.heap.size w w' := by
  go_enter Tryd.func17, Tryd.ntmps17
  go_wp2
  refine bodyPost_ret (v := .agg #[.int .i64 x.day, .string x.meth, .string x.touch, .int .i64 x.rows, .string x.note]) (by simp [results, Tryd.results17, go_sem]) rfl ⟨rfl, ?_⟩
  exact (((Below.refl _ _).alloc (Nat.le_refl _) _).alloc (by simp) _).alloc (by simp <;> omega) _

/-- What the marks make of a list of so many elements. -/
def markRecordL (m q : Nat) : List Rcd := (List.range m).map fun i : Nat => (⟨((q + i * 5 : Nat) : Int), (markT (q + i * 5 + 1)), (markT (q + i * 5 + 2)), ((q + i * 5 + 3 : Nat) : Int), (markT (q + i * 5 + 4))⟩ : Rcd)
theorem markRecordL_len (m q : Nat) : (markRecordL m q).length = m := by simp [markRecordL]
theorem markRecordL_at (m q i : Nat) (hi : i < (markRecordL m q).length) : (markRecordL m q)[i] = (⟨((q + i * 5 : Nat) : Int), (markT (q + i * 5 + 1)), (markT (q + i * 5 + 2)), ((q + i * 5 + 3 : Nat) : Int), (markT (q + i * 5 + 4))⟩ : Rcd) := by simp [markRecordL]
end Go.Proofs.YtpedfjcidbopiaaDoor