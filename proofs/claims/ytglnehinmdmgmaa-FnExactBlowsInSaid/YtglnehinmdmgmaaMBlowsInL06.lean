import Derived.Test.YtglnehinmdmgmaaRows
import Derived.Test.YtglnehinmdmgmaaMBlowsInL05
import Derived.StillTailTactics
import Derived.Deep.RegionHeld3
/-
  Contracts of the helper functions that the laws use for lists of Strike.
-/
namespace Go.Proofs.Ytglnehinmdmgmaa
open Go.RowKit Go.ChangeShapes Go.WideShapes
set_option linter.unusedVariables false
set_option linter.unusedSimpArgs false
set_option maxRecDepth 100000


structure Stk where
  bell : Int
  at_ : Int

def Stk.enc (x : Stk) : List Value := [.int .i64 x.bell, .int .i64 x.at_]
theorem Stk_enc_len (x : Stk) : (Stk.enc x).length = 2 := rfl
def Strike_small (lim : Int) (x : Stk) : Prop := True
theorem Strike_info : (Try.prog.info? 57).map (fun i => (i.zero, i.size, i.bytes)) = some (some (.agg #[.int .i64 0, .int .i64 0]), 2, 16) := by kernel_rfl

theorem Strike_el {H : Type} {en : TypeId × Value → H} {w : World} {base : Nat} {spare : Nat → Bool} {held : Bool} (n : Nat) (cs : List Value) (y : DataW H × List MemPlace) (h : DataW.trod en Try.prog w base spare held n 59 cs = some y) : ∃ x : Stk, cs = Stk.enc x ∧ Strike_small 9223372036854775807 x := by
  obtain ⟨xs, m, _, _, hlen, hxl, hg⟩ := DataW.trod_struct Try.underlying59 h
  have hC : Try.prog.cellsOf 59 = 2 := by kernel_rfl
  have hC_int : Try.prog.cellsOf 3 = 1 := by kernel_rfl
  rw [hC] at hlen
  match cs, hlen, xs, hxl with
  | [c0, c1], _, [x0, x1], _ =>
    have g0 := hg 0 _ rfl
    simp only [hC_int, List.drop_zero, List.drop_succ_cons, List.take_succ_cons, List.take_zero, List.getElem?_cons_zero, List.getElem?_cons_succ] at g0
    obtain ⟨a0, e0, _, _⟩ := DataW.trod_int Try.underlying3 g0
    injection e0 with e0 _
    subst e0
    have g1 := hg 1 _ rfl
    simp only [hC_int, List.drop_zero, List.drop_succ_cons, List.take_succ_cons, List.take_zero, List.getElem?_cons_zero, List.getElem?_cons_succ] at g1
    obtain ⟨a1, e1, _, _⟩ := DataW.trod_int Try.underlying3 g1
    injection e1 with e1 _
    subst e1
    exact ⟨⟨a0, a1⟩, rfl, trivial⟩

theorem szStrikeS_any (l : List Stk) (A : Option Addr) (c : Nat) (left : Int) (w : World) (hl : l.length ≤ 9223372036854775807) (h1 : 0 ≤ left) (h2 : left ≤ 1048576) :
    Calls Try.prog 5 #[.slice A l.length c, .int .i64 left] w fun e w' => ∃ r, e = .returned (.int .i64 r) ∧ SzOk r left l.length (∀ x ∈ l, Strike_small left x) ∧ Below w.heap.size w w' := by
  by_cases hn : left < l.length
  · go_enter Try.func5, Try.ntmps5
    go_wp2
    go_ret
    exact ⟨_, rfl, .inl (by omega), Below.refl _ _⟩
  · go_enter Try.func5, Try.ntmps5
    go_wp2
    go_ret
    exact ⟨_, rfl, .inr ⟨by omega, by omega, by omega, fun _ _ => trivial⟩, Below.refl _ _⟩

theorem toStrike_any (x : Stk) (w : World) :
    Calls Try.prog 26 #[.agg #[.int .i64 x.bell, .int .i64 x.at_]] w fun e w' => e = .returned (.agg #[.int .i64 x.bell, .int .i64 x.at_]) ∧ Below w.heap.size w w' := by
  go_enter Try.func26, Try.ntmps26
  go_wp2
  refine bodyPost_ret (v := .agg #[.int .i64 x.bell, .int .i64 x.at_]) (by simp [results, Try.results26, go_sem]) rfl ⟨rfl, ?_⟩
  exact (((Below.refl _ _).alloc (Nat.le_refl _) _).alloc (by simp) _).alloc (by simp <;> omega) _

set_option maxHeartbeats 800000 in
theorem toStrikeS_any (l : List Stk) (A : Option Addr) (c : Nat) (w : World) (h : RdL w w.heap.size A 2 Stk.enc l) (hl : l.length ≤ 1048576) :
    Calls Try.prog 9 #[.slice A l.length c] w fun e w' => ∃ A', e = .returned (.slice A' l.length l.length) ∧ OwnL w' w.heap.size w'.heap.size A' 2 Stk.enc l ∧ Below w.heap.size w w' := by
  go_enter Try.func9, Try.ntmps9
  go_wp2_with (refine wpList_make_cellsN rfl 34 _ rfl 57 _ 2 16 rfl Strike_info rfl .i64 l.length rfl (by omega) (by omega) ?_; intro w1 hc1 hb1)
  go_loopw [4] (fun i wr => ∃ k : Nat, k ≤ l.length ∧ i = .int .i64 k ∧ Cells wr w.heap.size (l.length * 2) (fill Stk.enc 2 l (fun i => (Value.agg #[.int .i64 0, .int .i64 0]).cells.getD (i % 2) undef) k) ∧ Below w.heap.size w wr) (fun i _ => l.length - (intOf i).toNat)
  case atStart => exact ⟨0, by omega, by rfl, by rw [fill_zero]; exact hc1, hb1⟩
  case round =>
    obtain ⟨k, hk, rfl, hc, hbl⟩ := hrel
    have Hc := Lib.hid hc
    have Hbl := Lib.hid hbl
    have hgs : w.heap.size < wr.heap.size := hc.lt
    clear hc hbl hc1 hb1
    by_cases hlt : k < l.length
    · obtain ⟨g, off, hA, hg, hcell⟩ := h.at hlt
      subst hA
      have r0 := (Hbl.out.cell (p := ⟨g, off + k * 2, none⟩) hg).trans (hcell 0 _ rfl)
      have r1 := (Hbl.out.cell (p := ⟨g, off + k * 2 + 1, none⟩) hg).trans (hcell 1 _ rfl)
      obtain ⟨x, hx⟩ : ∃ x, Hid (l[k] = x) := ⟨l[k], Lib.hid rfl⟩
      rw [hx.out] at r0 r1
      clear hcell h
      go_wp2_with (go_at_call 26; refine (toStrike_any x _).mono ?_; rintro e w' ⟨rfl, hb2⟩; have q0 := (Hc.out.later hb2).cell (i := k * 2) (by omega); have f0 := (Hc.out.later hb2).free (i := k * 2) (by omega); have q1 := (Hc.out.later hb2).cell (i := k * 2 + 1) (by omega); have f1 := (Hc.out.later hb2).free (i := k * 2 + 1) (by omega))
      go_roundw
      case rel => exact ⟨k + 1, by omega, by go_num, (Hc.out.later hb2).fillN (by omega) Stk_enc_len hlt rfl [_, _] (by rw [hx.out]; rfl), Below.setN (Nat.le_refl _) [_, _] (Hbl.out.trans (hb2.mono (by omega)))⟩
      case measure => simp [intOf]; omega
    · go_wp2
      go_ret
      exact ⟨_, rfl, OwnL.of_fill Hc.out (by omega) (Nat.le_refl _) Hc.out.lt Stk_enc_len, Hbl.out⟩

theorem eqStrike_t (x : Stk) (w : World) :
    Calls Try.prog 35 #[.agg #[.int .i64 x.bell, .int .i64 x.at_], .agg #[.int .i64 x.bell, .int .i64 x.at_]] w fun e w' => e = .returned (.bool true) ∧ Below w.heap.size w w' := by
  go_enter Try.func35, Try.ntmps35
  go_wp2
  go_ret
  exact ⟨rfl, ((Below.refl _ _).alloc (Nat.le_refl _) _).alloc (by simp) _⟩

set_option maxHeartbeats 800000 in
theorem eqStrikeS_t (l : List Stk) (A A' : Option Addr) (c c' : Nat) (w : World) (h : RdL w w.heap.size A 2 Stk.enc l) (h' : RdL w w.heap.size A' 2 Stk.enc l) (hl : l.length ≤ 4611686018427387904) :
    Calls Try.prog 13 #[.slice A l.length c, .slice A' l.length c'] w fun e w' => e = .returned (.bool true) ∧ Below w.heap.size w w' := by
  go_enter Try.func13, Try.ntmps13
  go_wp2
  go_loopw [5] (fun i wr => ∃ k : Nat, k ≤ l.length ∧ i = .int .i64 k ∧ Below w.heap.size w wr) (fun i _ => l.length - (intOf i).toNat)
  case atStart => exact ⟨0, by omega, by rfl, Below.refl _ _⟩
  case round =>
    obtain ⟨k, hk, rfl, hbl⟩ := hrel
    have Hbl := Lib.hid hbl
    clear hbl
    by_cases hlt : k < l.length
    · obtain ⟨g, off, hA, hg, hcell⟩ := h.at hlt
      obtain ⟨g', off', hA', hg', hcell'⟩ := h'.at hlt
      subst hA hA'
      have r0 := (Hbl.out.cell (p := ⟨g, off + k * 2, none⟩) hg).trans (hcell 0 _ rfl)
      have r1 := (Hbl.out.cell (p := ⟨g, off + k * 2 + 1, none⟩) hg).trans (hcell 1 _ rfl)
      have q0 := (Hbl.out.cell (p := ⟨g', off' + k * 2, none⟩) hg').trans (hcell' 0 _ rfl)
      have q1 := (Hbl.out.cell (p := ⟨g', off' + k * 2 + 1, none⟩) hg').trans (hcell' 1 _ rfl)
      clear hcell hcell' h h'
      generalize l[k] = x at r0 q0 r1 q1
      go_wp2
      go_still_tail 8, (by kernel_rfl)
      change wpList _ _ _ _ _ wr.drew
      have Hbl2 := Lib.hid Hbl.out.drew
      generalize wr.drew = w2 at *
      have hgs2 := Hbl2.out.size
      go_wp2_with (go_at_call 35; refine (eqStrike_t x _).mono ?_; rintro e w' ⟨rfl, hb2⟩)
      go_roundw
      case rel => exact ⟨k + 1, by omega, by go_num, Hbl2.out.trans (hb2.mono hgs2)⟩
      case measure => simp [intOf]; omega
    · go_wp2
      go_ret
      exact ⟨rfl, Hbl.out⟩

/-- What the marks make of a list of so many elements. -/
def markStrikeL (m q : Nat) : List Stk := (List.range m).map fun i : Nat => (⟨((q + i * 2 : Nat) : Int), ((q + i * 2 + 1 : Nat) : Int)⟩ : Stk)
theorem markStrikeL_len (m q : Nat) : (markStrikeL m q).length = m := by simp [markStrikeL]
theorem markStrikeL_at (m q i : Nat) (hi : i < (markStrikeL m q).length) : (markStrikeL m q)[i] = (⟨((q + i * 2 : Nat) : Int), ((q + i * 2 + 1 : Nat) : Int)⟩ : Stk) := by simp [markStrikeL]
set_option maxHeartbeats 1600000 in
theorem markStrikeS_any (l : List Stk) (b d : Nat) (A : Option Addr) (c q : Nat) (w : World) (h : OwnL w b d A 2 Stk.enc l) (hl : l.length ≤ 1048576) (hq0 : 0 < q) (hq : q ≤ 100000000000) :
    Calls Try.prog 15 #[.slice A l.length c, .int .i64 q] w fun e w' => e = .returned (.int .i64 ((q + l.length * 2 : Nat) : Int)) ∧ OwnL w' b d A 2 Stk.enc (markStrikeL l.length q) ∧ Chg b d w w' := by
  rcases Nat.eq_zero_or_pos l.length with h0 | hpos
  · have e0 : l = [] := List.eq_nil_of_length_eq_zero h0
    subst e0
    go_enter Try.func15, Try.ntmps15
    go_wp2
    go_loop [1, 5] (fun v i => v = .int .i64 q ∧ i = .int .i64 0) (fun _ _ => 0)
    case atStart => exact ⟨rfl, rfl⟩
    case round =>
      obtain ⟨rfl, rfl⟩ := hrel
      go_wp2
      go_ret
      exact ⟨by simp, .inl rfl, Chg.refl _ _ _⟩
  · obtain ⟨g, f, hA, hgb, hgc, hc0⟩ := h.cells hpos
    subst hA
    have HC0 := Lib.hid hc0
    clear hc0
    have em : (markStrikeL l.length q).length = l.length := markStrikeL_len _ _
    have Em := Lib.hid em
    clear em
    go_enter Try.func15, Try.ntmps15
    go_wp2
    go_loopw [1, 5] (fun v i wr => ∃ k : Nat, k ≤ l.length ∧ i = .int .i64 k ∧ v = .int .i64 ((q + k * 2 : Nat) : Int) ∧ Cells wr g (l.length * 2) (fill Stk.enc 2 (markStrikeL l.length q) f k) ∧ Chg b d w wr) (fun _ i _ => l.length - (intOf i).toNat)
    case atStart => exact ⟨0, by omega, by rfl, by simp, by rw [fill_zero]; exact HC0.out, Chg.refl _ _ _⟩
    case round =>
      obtain ⟨k, hk, rfl, rfl, hc, hch⟩ := hrel
      have Hc := Lib.hid hc
      have Hch := Lib.hid hch
      clear hc hch h
      by_cases hlt : k < l.length
      · have q0 := Hc.out.cell (i := k * 2) (by omega)
        have f0 := Hc.out.free (i := k * 2) (by omega)
        have q1 := Hc.out.cell (i := k * 2 + 1) (by omega)
        have f1 := Hc.out.free (i := k * 2 + 1) (by omega)
        go_wp2
        go_roundw
        case rel =>
          refine ⟨k + 1, by omega, by go_num, by first | rfl | (congr 1; simp; done) | (congr 1; simp; omega) | (congr 1; omega), ?_, ?_⟩
          · have hC := ((Hc.out.set (i := k * 2) (by omega) (.int .i64 ((q + k * 2 : Nat) : Int))).set (i := k * 2 + 1) (by omega) (.int .i64 ((q + k * 2 + 1 : Nat) : Int)))
            refine hC.as_fill (l := markStrikeL l.length q) (p := k * 2) [.int .i64 ((q + k * 2 : Nat) : Int), .int .i64 ((q + k * 2 + 1 : Nat) : Int)] ?_ (by omega) Stk_enc_len (by rw [Em.out]; exact hlt) (by omega) (by rw [markStrikeL_at]; rfl)
            rw [← updN_cons, ← updN_cons, updN_nil]
          · exact ((Hch.out.setCell (p := ⟨g, k * 2, none⟩) hgb hgc (.int .i64 ((q + k * 2 : Nat) : Int))).setCell (p := ⟨g, k * 2 + 1, none⟩) hgb hgc (.int .i64 ((q + k * 2 + 1 : Nat) : Int)))
        case measure => simp [intOf]; omega
      · go_wp2
        go_ret
        obtain rfl : k = l.length := by omega
        refine ⟨rfl, OwnL.of_fill (l := markStrikeL l.length q) (k := l.length) (by rw [Em.out]; exact Hc.out) (by rw [Em.out]; exact Nat.le_refl _) hgb hgc Stk_enc_len, Hch.out⟩

end Go.Proofs.Ytglnehinmdmgmaa
/-
  Contracts of the helper functions that the laws use for lists of Int.
-/
namespace Go.Proofs.Ytglnehinmdmgmaa
open Go.RowKit Go.ChangeShapes Go.WideShapes
set_option linter.unusedVariables false
set_option linter.unusedSimpArgs false
set_option maxRecDepth 100000


def encInt (x : Int) : List Value := [.int .i64 x]
theorem encInt_len (x : Int) : (encInt x).length = 1 := rfl
def Int_small (lim : Int) (x : Int) : Prop := True
theorem Int_info : (Try.prog.info? 3).map (fun i => (i.zero, i.size, i.bytes)) = some (some (.int .i64 0), 1, 8) := by kernel_rfl

/-- What the marks make of a list of so many elements. -/
def markIntL (m q : Nat) : List Int := (List.range m).map fun i : Nat => (((q + i : Nat) : Int) : Int)
end Go.Proofs.Ytglnehinmdmgmaa