/-
  Contracts of the helper functions that the laws use for lists of Record.
-/
import Derived.Test.YtdegbckoejddeaaRows
import Derived.Test.YtdegbckoejddeaaMark
import Derived.Test.YtdegbckoejddeaaOpen
import Derived.StillTailTactics
import Derived.Deep.RegionHeld3
namespace Go.Proofs.Ytdegbckoejddeaa
open Go.RowKit Go.ChangeShapes Go.WideShapes
set_option linter.unusedVariables false
set_option linter.unusedSimpArgs false
set_option maxRecDepth 100000


structure Rcd where
  day : Int
  meth : ByteArray
  touch : ByteArray
  rows : Int
  note : ByteArray

def Rcd.enc (x : Rcd) : List Value := [.int .i64 x.day, .string x.meth, .string x.touch, .int .i64 x.rows, .string x.note]
theorem Rcd_enc_len (x : Rcd) : (Rcd.enc x).length = 5 := rfl
def Record_small (lim : Int) (x : Rcd) : Prop := (x.meth.size : Int) ≤ lim ∧ (x.touch.size : Int) ≤ lim ∧ (x.note.size : Int) ≤ lim
theorem Record_info : (Try.prog.info? 109).map (fun i => (i.zero, i.size, i.bytes)) = some (some (.agg #[.int .i64 0, .string ⟨#[]⟩, .string ⟨#[]⟩, .int .i64 0, .string ⟨#[]⟩]), 5, 64) := by kernel_rfl

theorem Record_el {H : Type} {en : TypeId × Value → H} {w : World} {base : Nat} {spare : Nat → Bool} {held : Bool} (n : Nat) (cs : List Value) (y : DataW H × List MemPlace) (h : DataW.trod en Try.prog w base spare held n 108 cs = some y) : ∃ x : Rcd, cs = Rcd.enc x ∧ Record_small 9223372036854775807 x := by
  obtain ⟨xs, m, _, _, hlen, hxl, hg⟩ := DataW.trod_struct Try.underlying108 h
  have hC : Try.prog.cellsOf 108 = 5 := by kernel_rfl
  have hC_int : Try.prog.cellsOf 3 = 1 := by kernel_rfl
  have hC_string : Try.prog.cellsOf 9 = 1 := by kernel_rfl
  rw [hC] at hlen
  match cs, hlen, xs, hxl with
  | [c0, c1, c2, c3, c4], _, [x0, x1, x2, x3, x4], _ =>
    have g0 := hg 0 _ rfl
    simp only [hC_int, List.drop_zero, List.drop_succ_cons, List.take_succ_cons, List.take_zero, List.getElem?_cons_zero, List.getElem?_cons_succ] at g0
    obtain ⟨a0, e0, _, _⟩ := DataW.trod_int Try.underlying3 g0
    injection e0 with e0 _
    subst e0
    have g1 := hg 1 _ rfl
    simp only [hC_string, List.drop_zero, List.drop_succ_cons, List.take_succ_cons, List.take_zero, List.getElem?_cons_zero, List.getElem?_cons_succ] at g1
    obtain ⟨a1, e1, _, s1⟩ := DataW.trod_string Try.underlying9 g1
    injection e1 with e1 _
    subst e1
    have g2 := hg 2 _ rfl
    simp only [hC_string, List.drop_zero, List.drop_succ_cons, List.take_succ_cons, List.take_zero, List.getElem?_cons_zero, List.getElem?_cons_succ] at g2
    obtain ⟨a2, e2, _, s2⟩ := DataW.trod_string Try.underlying9 g2
    injection e2 with e2 _
    subst e2
    have g3 := hg 3 _ rfl
    simp only [hC_int, List.drop_zero, List.drop_succ_cons, List.take_succ_cons, List.take_zero, List.getElem?_cons_zero, List.getElem?_cons_succ] at g3
    obtain ⟨a3, e3, _, _⟩ := DataW.trod_int Try.underlying3 g3
    injection e3 with e3 _
    subst e3
    have g4 := hg 4 _ rfl
    simp only [hC_string, List.drop_zero, List.drop_succ_cons, List.take_succ_cons, List.take_zero, List.getElem?_cons_zero, List.getElem?_cons_succ] at g4
    obtain ⟨a4, e4, _, s4⟩ := DataW.trod_string Try.underlying9 g4
    injection e4 with e4 _
    subst e4
    exact ⟨⟨a0, a1, a2, a3, a4⟩, rfl, by simp only [Record_small]; unfold maxLen at s1 s2 s4; exact ⟨by omega, by omega, by omega⟩⟩

theorem szRecord_any (x : Rcd) (left : Int) (w : World) (h1 : 0 ≤ left) (h2 : left ≤ 1048576) (hs : Record_small 9223372036854775807 x) :
    Calls Try.prog 80 #[.agg #[.int .i64 x.day, .string x.meth, .string x.touch, .int .i64 x.rows, .string x.note], .int .i64 left] w fun e w' => ∃ r, e = .returned (.int .i64 r) ∧ (r = -1 ∨ (0 ≤ r ∧ r ≤ left ∧ Record_small left x)) ∧ Below w.heap.size w w' := by
  simp only [Record_small] at hs
  obtain ⟨s0, s1, s2⟩ := hs
  go_enter Try.func80, Try.ntmps80
  go_wp2
  all_goals
    go_ret
    refine ⟨_, rfl, ?_, (by repeat (first | exact Below.refl _ _ | (refine Below.alloc ?_ (by simp <;> omega) _) | (refine Below.drew ?_) | (refine below_drewN ?_ _)))⟩
    first
      | exact .inl rfl
      | (refine .inr ⟨by omega, by omega, ?_⟩; simp only [Record_small]; (repeat' apply And.intro) <;> omega)

set_option maxHeartbeats 800000 in
theorem szRecordS_any (l : List Rcd) (A : Option Addr) (c : Nat) (left : Int) (w : World) (h : RdL w w.heap.size A 5 Rcd.enc l) (hl : l.length ≤ 9223372036854775807) (h1 : 0 ≤ left) (h2 : left ≤ 1048576) (hs : ∀ x ∈ l, Record_small 9223372036854775807 x) :
    Calls Try.prog 22 #[.slice A l.length c, .int .i64 left] w fun e w' => ∃ r, e = .returned (.int .i64 r) ∧ SzOk r left l.length (∀ x ∈ l, Record_small left x) ∧ Below w.heap.size w w' := by
  have Hs := Lib.hid hs
  clear hs
  by_cases hn : left < l.length
  · go_enter Try.func22, Try.ntmps22
    go_wp2
    go_ret
    exact ⟨_, rfl, .inl (by omega), Below.refl _ _⟩
  · go_enter Try.func22, Try.ntmps22
    go_wp2
    go_loopw [1, 5] (fun v i wr => ∃ (k : Nat) (r : Int), k ≤ l.length ∧ i = .int .i64 k ∧ v = .int .i64 r ∧ 0 ≤ r ∧ r ≤ left ∧ (∀ (j : Nat) (hj : j < l.length), j < k → Record_small left l[j]) ∧ Below w.heap.size w wr) (fun _ i _ => l.length - (intOf i).toNat)
    case atStart => exact ⟨0, left - l.length, by omega, by rfl, rfl, by omega, by omega, fun j _ hj => by omega, Below.refl _ _⟩
    case round =>
      obtain ⟨k, r, hk, rfl, rfl, hr0, hr1, hsm, hbl⟩ := hrel
      have Hbl := Lib.hid hbl
      have Hsm := Lib.hid hsm
      clear hbl hsm
      by_cases hlt : k < l.length
      · obtain ⟨g, off, hA, hg, hcell⟩ := h.at hlt
        subst hA
        have r0 := (Hbl.out.cell (p := ⟨g, off + k * 5, none⟩) hg).trans (hcell 0 _ rfl)
        have r1 := (Hbl.out.cell (p := ⟨g, off + k * 5 + 1, none⟩) hg).trans (hcell 1 _ rfl)
        have r2 := (Hbl.out.cell (p := ⟨g, off + k * 5 + 2, none⟩) hg).trans (hcell 2 _ rfl)
        have r3 := (Hbl.out.cell (p := ⟨g, off + k * 5 + 3, none⟩) hg).trans (hcell 3 _ rfl)
        have r4 := (Hbl.out.cell (p := ⟨g, off + k * 5 + 4, none⟩) hg).trans (hcell 4 _ rfl)
        have hgs := Hbl.out.size
        obtain ⟨x, hx⟩ : ∃ x, Hid (l[k] = x) := ⟨l[k], Lib.hid rfl⟩
        have hxs : Record_small 9223372036854775807 x := by have := Hs.out _ (List.getElem_mem hlt); rw [hx.out] at this; exact this
        rw [hx.out] at r0 r1 r2 r3 r4
        clear hcell h

        have Hxs := Lib.hid hxs
        clear hxs
        go_wp2_with (go_at_call 80; refine (szRecord_any x r _ hr0 (by omega) Hxs.out).mono ?_; rintro e w' ⟨q, rfl, hq, hb2⟩; have Hq := Lib.hid hq; clear hq)
        all_goals
          first
            | (go_ret
               exact ⟨-1, rfl, .inl (by omega), Hbl.out.trans (hb2.mono hgs)⟩)
            | (have hq := Hq.out.resolve_left (by omega)
               go_roundw
               case rel =>
                 refine ⟨k + 1, _, by omega, by go_num, rfl, by omega, by omega, fun j hj hj1 => ?_, Hbl.out.trans (hb2.mono hgs)⟩
                 rcases Nat.lt_or_eq_of_le (Nat.le_of_lt_succ hj1) with h' | rfl
                 · exact Hsm.out j hj h'
                 · rw [hx.out]; have := hq.2.2; simp only [Record_small] at this ⊢; omega
               case measure => simp [intOf]; omega)
      · go_wp2
        go_ret
        refine ⟨_, rfl, .inr ⟨hr0, hr1, by omega, fun x hx => ?_⟩, Hbl.out⟩
        obtain ⟨j, hj, rfl⟩ := List.getElem_of_mem hx
        exact Hsm.out j hj (by omega)

theorem toRecord_any (x : Rcd) (w : World) :
    Calls Try.prog 82 #[.agg #[.int .i64 x.day, .string x.meth, .string x.touch, .int .i64 x.rows, .string x.note]] w fun e w' => e = .returned (.agg #[.int .i64 x.day, .string x.meth, .string x.touch, .int .i64 x.rows, .string x.note]) ∧ Below w.heap.size w w' := by
  go_enter Try.func82, Try.ntmps82
  go_wp2
  refine bodyPost_ret (v := .agg #[.int .i64 x.day, .string x.meth, .string x.touch, .int .i64 x.rows, .string x.note]) (by simp [results, Try.results82, go_sem]) rfl ⟨rfl, ?_⟩
  exact (((Below.refl _ _).alloc (Nat.le_refl _) _).alloc (by simp) _).alloc (by simp <;> omega) _

set_option maxHeartbeats 800000 in
theorem toRecordS_any (l : List Rcd) (A : Option Addr) (c : Nat) (w : World) (h : RdL w w.heap.size A 5 Rcd.enc l) (hl : l.length ≤ 1048576) :
    Calls Try.prog 24 #[.slice A l.length c] w fun e w' => ∃ A', e = .returned (.slice A' l.length l.length) ∧ OwnL w' w.heap.size w'.heap.size A' 5 Rcd.enc l ∧ Below w.heap.size w w' := by
  go_enter Try.func24, Try.ntmps24
  go_wp2_with (refine wpList_make_cellsN rfl 36 _ rfl 109 _ 5 64 rfl Record_info rfl .i64 l.length rfl (by omega) (by omega) ?_; intro w1 hc1 hb1)
  go_loopw [4] (fun i wr => ∃ k : Nat, k ≤ l.length ∧ i = .int .i64 k ∧ Cells wr w.heap.size (l.length * 5) (fill Rcd.enc 5 l (fun i => (Value.agg #[.int .i64 0, .string ⟨#[]⟩, .string ⟨#[]⟩, .int .i64 0, .string ⟨#[]⟩]).cells.getD (i % 5) undef) k) ∧ Below w.heap.size w wr) (fun i _ => l.length - (intOf i).toNat)
  case atStart => exact ⟨0, by omega, by rfl, by rw [fill_zero]; exact hc1, hb1⟩
  case round =>
    obtain ⟨k, hk, rfl, hc, hbl⟩ := hrel
    have Hc := Lib.hid hc
    have Hbl := Lib.hid hbl
    have hgs : w.heap.size < wr.heap.size := hc.lt
    clear hc hbl hc1 hb1
    by_cases hlt : k < l.length
    · obtain ⟨g, off, hA, hg, hcell⟩ := h.at hlt
      subst hA
      have r0 := (Hbl.out.cell (p := ⟨g, off + k * 5, none⟩) hg).trans (hcell 0 _ rfl)
      have r1 := (Hbl.out.cell (p := ⟨g, off + k * 5 + 1, none⟩) hg).trans (hcell 1 _ rfl)
      have r2 := (Hbl.out.cell (p := ⟨g, off + k * 5 + 2, none⟩) hg).trans (hcell 2 _ rfl)
      have r3 := (Hbl.out.cell (p := ⟨g, off + k * 5 + 3, none⟩) hg).trans (hcell 3 _ rfl)
      have r4 := (Hbl.out.cell (p := ⟨g, off + k * 5 + 4, none⟩) hg).trans (hcell 4 _ rfl)
      obtain ⟨x, hx⟩ : ∃ x, Hid (l[k] = x) := ⟨l[k], Lib.hid rfl⟩
      rw [hx.out] at r0 r1 r2 r3 r4
      clear hcell h
      go_wp2_with (go_at_call 82; refine (toRecord_any x _).mono ?_; rintro e w' ⟨rfl, hb2⟩; have q0 := (Hc.out.later hb2).cell (i := k * 5) (by omega); have f0 := (Hc.out.later hb2).free (i := k * 5) (by omega); have q1 := (Hc.out.later hb2).cell (i := k * 5 + 1) (by omega); have f1 := (Hc.out.later hb2).free (i := k * 5 + 1) (by omega); have q2 := (Hc.out.later hb2).cell (i := k * 5 + 2) (by omega); have f2 := (Hc.out.later hb2).free (i := k * 5 + 2) (by omega); have q3 := (Hc.out.later hb2).cell (i := k * 5 + 3) (by omega); have f3 := (Hc.out.later hb2).free (i := k * 5 + 3) (by omega); have q4 := (Hc.out.later hb2).cell (i := k * 5 + 4) (by omega); have f4 := (Hc.out.later hb2).free (i := k * 5 + 4) (by omega))
      go_roundw
      case rel => exact ⟨k + 1, by omega, by go_num, (Hc.out.later hb2).fillN (by omega) Rcd_enc_len hlt rfl [_, _, _, _, _] (by rw [hx.out]; rfl), Below.setN (Nat.le_refl _) [_, _, _, _, _] (Hbl.out.trans (hb2.mono (by omega)))⟩
      case measure => simp [intOf]; omega
    · go_wp2
      go_ret
      exact ⟨_, rfl, OwnL.of_fill Hc.out (by omega) (Nat.le_refl _) Hc.out.lt Rcd_enc_len, Hbl.out⟩

theorem eqRecord_t (x : Rcd) (w : World) :
    Calls Try.prog 87 #[.agg #[.int .i64 x.day, .string x.meth, .string x.touch, .int .i64 x.rows, .string x.note], .agg #[.int .i64 x.day, .string x.meth, .string x.touch, .int .i64 x.rows, .string x.note]] w fun e w' => e = .returned (.bool true) ∧ Below w.heap.size w w' := by
  go_enter Try.func87, Try.ntmps87
  go_wp2
  go_ret
  exact ⟨rfl, ((Below.refl _ _).alloc (Nat.le_refl _) _).alloc (by simp) _⟩

set_option maxHeartbeats 800000 in
theorem eqRecordS_t (l : List Rcd) (A A' : Option Addr) (c c' : Nat) (w : World) (h : RdL w w.heap.size A 5 Rcd.enc l) (h' : RdL w w.heap.size A' 5 Rcd.enc l) (hl : l.length ≤ 4611686018427387904) :
    Calls Try.prog 26 #[.slice A l.length c, .slice A' l.length c'] w fun e w' => e = .returned (.bool true) ∧ Below w.heap.size w w' := by
  go_enter Try.func26, Try.ntmps26
  go_wp2
  go_loopw [5] (fun i wr => ∃ k : Nat, k ≤ l.length ∧ i = .int .i64 k ∧ Below w.heap.size w wr) (fun i _ => l.length - (intOf i).toNat)
  case atStart => exact ⟨0, by omega, by rfl, Below.refl _ _⟩
  case round =>
    obtain ⟨k, hk, rfl, hbl⟩ := hrel
    have Hbl := Lib.hid hbl
    clear hbl
    by_cases hlt : k < l.length
    · obtain ⟨g, off, hA, hg, hcell⟩ := h.at hlt
      obtain ⟨g', off', hA', hg', hcell'⟩ := h'.at hlt
      subst hA hA'
      have r0 := (Hbl.out.cell (p := ⟨g, off + k * 5, none⟩) hg).trans (hcell 0 _ rfl)
      have r1 := (Hbl.out.cell (p := ⟨g, off + k * 5 + 1, none⟩) hg).trans (hcell 1 _ rfl)
      have r2 := (Hbl.out.cell (p := ⟨g, off + k * 5 + 2, none⟩) hg).trans (hcell 2 _ rfl)
      have r3 := (Hbl.out.cell (p := ⟨g, off + k * 5 + 3, none⟩) hg).trans (hcell 3 _ rfl)
      have r4 := (Hbl.out.cell (p := ⟨g, off + k * 5 + 4, none⟩) hg).trans (hcell 4 _ rfl)
      have q0 := (Hbl.out.cell (p := ⟨g', off' + k * 5, none⟩) hg').trans (hcell' 0 _ rfl)
      have q1 := (Hbl.out.cell (p := ⟨g', off' + k * 5 + 1, none⟩) hg').trans (hcell' 1 _ rfl)
      have q2 := (Hbl.out.cell (p := ⟨g', off' + k * 5 + 2, none⟩) hg').trans (hcell' 2 _ rfl)
      have q3 := (Hbl.out.cell (p := ⟨g', off' + k * 5 + 3, none⟩) hg').trans (hcell' 3 _ rfl)
      have q4 := (Hbl.out.cell (p := ⟨g', off' + k * 5 + 4, none⟩) hg').trans (hcell' 4 _ rfl)
      clear hcell hcell' h h'
      generalize l[k] = x at r0 q0 r1 q1 r2 q2 r3 q3 r4 q4
      go_wp2
      go_still_tail 8, (by kernel_rfl)
      change wpList _ _ _ _ _ wr.drew
      have Hbl2 := Lib.hid Hbl.out.drew
      generalize wr.drew = w2 at *
      have hgs2 := Hbl2.out.size
      go_wp2_with (go_at_call 87; refine (eqRecord_t x _).mono ?_; rintro e w' ⟨rfl, hb2⟩)
      go_roundw
      case rel => exact ⟨k + 1, by omega, by go_num, Hbl2.out.trans (hb2.mono hgs2)⟩
      case measure => simp [intOf]; omega
    · go_wp2
      go_ret
      exact ⟨rfl, Hbl.out⟩

/-- What the marks make of a list of so many elements. -/
def markRecordL (m q : Nat) : List Rcd := (List.range m).map fun i : Nat => (⟨((q + i * 5 : Nat) : Int), (markT (q + i * 5 + 1)), (markT (q + i * 5 + 2)), ((q + i * 5 + 3 : Nat) : Int), (markT (q + i * 5 + 4))⟩ : Rcd)
theorem markRecordL_len (m q : Nat) : (markRecordL m q).length = m := by simp [markRecordL]
theorem markRecordL_at (m q i : Nat) (hi : i < (markRecordL m q).length) : (markRecordL m q)[i] = (⟨((q + i * 5 : Nat) : Int), (markT (q + i * 5 + 1)), (markT (q + i * 5 + 2)), ((q + i * 5 + 3 : Nat) : Int), (markT (q + i * 5 + 4))⟩ : Rcd) := by simp [markRecordL]
set_option maxHeartbeats 1600000 in
theorem markRecordS_any (l : List Rcd) (b d : Nat) (A : Option Addr) (c q : Nat) (w : World) (h : OwnL w b d A 5 Rcd.enc l) (hl : l.length ≤ 1048576) (hq0 : 0 < q) (hq : q ≤ 100000000000) :
    Calls Try.prog 54 #[.slice A l.length c, .int .i64 q] w fun e w' => e = .returned (.int .i64 ((q + l.length * 5 : Nat) : Int)) ∧ OwnL w' b d A 5 Rcd.enc (markRecordL l.length q) ∧ Chg b d w w' := by
  rcases Nat.eq_zero_or_pos l.length with h0 | hpos
  · have e0 : l = [] := List.eq_nil_of_length_eq_zero h0
    subst e0
    go_enter Try.func54, Try.ntmps54
    go_wp2
    go_loop [1, 5] (fun v i => v = .int .i64 q ∧ i = .int .i64 0) (fun _ _ => 0)
    case atStart => exact ⟨rfl, rfl⟩
    case round =>
      obtain ⟨rfl, rfl⟩ := hrel
      go_wp2
      go_ret
      exact ⟨by simp, .inl rfl, Chg.refl _ _ _⟩
  · obtain ⟨g, f, hA, hgb, hgc, hc0⟩ := h.cells hpos
    subst hA
    have HC0 := Lib.hid hc0
    clear hc0
    have em : (markRecordL l.length q).length = l.length := markRecordL_len _ _
    have Em := Lib.hid em
    clear em
    go_enter Try.func54, Try.ntmps54
    go_wp2
    go_loopw [1, 5] (fun v i wr => ∃ k : Nat, k ≤ l.length ∧ i = .int .i64 k ∧ v = .int .i64 ((q + k * 5 : Nat) : Int) ∧ Cells wr g (l.length * 5) (fill Rcd.enc 5 (markRecordL l.length q) f k) ∧ Chg b d w wr) (fun _ i _ => l.length - (intOf i).toNat)
    case atStart => exact ⟨0, by omega, by rfl, by simp, by rw [fill_zero]; exact HC0.out, Chg.refl _ _ _⟩
    case round =>
      obtain ⟨k, hk, rfl, rfl, hc, hch⟩ := hrel
      have Hc := Lib.hid hc
      have Hch := Lib.hid hch
      clear hc hch h
      by_cases hlt : k < l.length
      · have q0 := Hc.out.cell (i := k * 5) (by omega)
        have f0 := Hc.out.free (i := k * 5) (by omega)
        have q1 := Hc.out.cell (i := k * 5 + 1) (by omega)
        have f1 := Hc.out.free (i := k * 5 + 1) (by omega)
        have q2 := Hc.out.cell (i := k * 5 + 2) (by omega)
        have f2 := Hc.out.free (i := k * 5 + 2) (by omega)
        have q3 := Hc.out.cell (i := k * 5 + 3) (by omega)
        have f3 := Hc.out.free (i := k * 5 + 3) (by omega)
        have q4 := Hc.out.cell (i := k * 5 + 4) (by omega)
        have f4 := Hc.out.free (i := k * 5 + 4) (by omega)
        go_wp2_with fail
        refine (markText_any (q + k * 5 + 1) _ (by omega) (by omega)).mono ?_
        rintro e w' ⟨rfl, hm1⟩
        have t1_1 := ((Hc.out.set (i := k * 5) (by omega) (.int .i64 ((q + k * 5 : Nat) : Int))).later hm1).cell (i := k * 5 + 1) (by omega)
        have u1_1 := ((Hc.out.set (i := k * 5) (by omega) (.int .i64 ((q + k * 5 : Nat) : Int))).later hm1).free (i := k * 5 + 1) (by omega)
        have t1_2 := ((Hc.out.set (i := k * 5) (by omega) (.int .i64 ((q + k * 5 : Nat) : Int))).later hm1).cell (i := k * 5 + 2) (by omega)
        have u1_2 := ((Hc.out.set (i := k * 5) (by omega) (.int .i64 ((q + k * 5 : Nat) : Int))).later hm1).free (i := k * 5 + 2) (by omega)
        have t1_3 := ((Hc.out.set (i := k * 5) (by omega) (.int .i64 ((q + k * 5 : Nat) : Int))).later hm1).cell (i := k * 5 + 3) (by omega)
        have u1_3 := ((Hc.out.set (i := k * 5) (by omega) (.int .i64 ((q + k * 5 : Nat) : Int))).later hm1).free (i := k * 5 + 3) (by omega)
        have t1_4 := ((Hc.out.set (i := k * 5) (by omega) (.int .i64 ((q + k * 5 : Nat) : Int))).later hm1).cell (i := k * 5 + 4) (by omega)
        have u1_4 := ((Hc.out.set (i := k * 5) (by omega) (.int .i64 ((q + k * 5 : Nat) : Int))).later hm1).free (i := k * 5 + 4) (by omega)
        go_wp2_with fail
        refine (markText_any (q + k * 5 + 2) _ (by omega) (by omega)).mono ?_
        rintro e w' ⟨rfl, hm2⟩
        have t2_2 := ((((Hc.out.set (i := k * 5) (by omega) (.int .i64 ((q + k * 5 : Nat) : Int))).later hm1).set (i := k * 5 + 1) (by omega) (.string (markT (q + k * 5 + 1)))).later hm2).cell (i := k * 5 + 2) (by omega)
        have u2_2 := ((((Hc.out.set (i := k * 5) (by omega) (.int .i64 ((q + k * 5 : Nat) : Int))).later hm1).set (i := k * 5 + 1) (by omega) (.string (markT (q + k * 5 + 1)))).later hm2).free (i := k * 5 + 2) (by omega)
        have t2_3 := ((((Hc.out.set (i := k * 5) (by omega) (.int .i64 ((q + k * 5 : Nat) : Int))).later hm1).set (i := k * 5 + 1) (by omega) (.string (markT (q + k * 5 + 1)))).later hm2).cell (i := k * 5 + 3) (by omega)
        have u2_3 := ((((Hc.out.set (i := k * 5) (by omega) (.int .i64 ((q + k * 5 : Nat) : Int))).later hm1).set (i := k * 5 + 1) (by omega) (.string (markT (q + k * 5 + 1)))).later hm2).free (i := k * 5 + 3) (by omega)
        have t2_4 := ((((Hc.out.set (i := k * 5) (by omega) (.int .i64 ((q + k * 5 : Nat) : Int))).later hm1).set (i := k * 5 + 1) (by omega) (.string (markT (q + k * 5 + 1)))).later hm2).cell (i := k * 5 + 4) (by omega)
        have u2_4 := ((((Hc.out.set (i := k * 5) (by omega) (.int .i64 ((q + k * 5 : Nat) : Int))).later hm1).set (i := k * 5 + 1) (by omega) (.string (markT (q + k * 5 + 1)))).later hm2).free (i := k * 5 + 4) (by omega)
        go_wp2_with fail
        refine (markText_any (q + k * 5 + 4) _ (by omega) (by omega)).mono ?_
        rintro e w' ⟨rfl, hm3⟩
        have t3_4 := (((((((Hc.out.set (i := k * 5) (by omega) (.int .i64 ((q + k * 5 : Nat) : Int))).later hm1).set (i := k * 5 + 1) (by omega) (.string (markT (q + k * 5 + 1)))).later hm2).set (i := k * 5 + 2) (by omega) (.string (markT (q + k * 5 + 2)))).set (i := k * 5 + 3) (by omega) (.int .i64 ((q + k * 5 + 3 : Nat) : Int))).later hm3).cell (i := k * 5 + 4) (by omega)
        have u3_4 := (((((((Hc.out.set (i := k * 5) (by omega) (.int .i64 ((q + k * 5 : Nat) : Int))).later hm1).set (i := k * 5 + 1) (by omega) (.string (markT (q + k * 5 + 1)))).later hm2).set (i := k * 5 + 2) (by omega) (.string (markT (q + k * 5 + 2)))).set (i := k * 5 + 3) (by omega) (.int .i64 ((q + k * 5 + 3 : Nat) : Int))).later hm3).free (i := k * 5 + 4) (by omega)
        go_wp2
        go_roundw
        case rel =>
          refine ⟨k + 1, by omega, by go_num, by first | rfl | (congr 1; simp; done) | (congr 1; simp; omega) | (congr 1; omega), ?_, ?_⟩
          · have hC := ((((((((Hc.out.set (i := k * 5) (by omega) (.int .i64 ((q + k * 5 : Nat) : Int))).later hm1).set (i := k * 5 + 1) (by omega) (.string (markT (q + k * 5 + 1)))).later hm2).set (i := k * 5 + 2) (by omega) (.string (markT (q + k * 5 + 2)))).set (i := k * 5 + 3) (by omega) (.int .i64 ((q + k * 5 + 3 : Nat) : Int))).later hm3).set (i := k * 5 + 4) (by omega) (.string (markT (q + k * 5 + 4))))
            refine hC.as_fill (l := markRecordL l.length q) (p := k * 5) [.int .i64 ((q + k * 5 : Nat) : Int), .string (markT (q + k * 5 + 1)), .string (markT (q + k * 5 + 2)), .int .i64 ((q + k * 5 + 3 : Nat) : Int), .string (markT (q + k * 5 + 4))] ?_ (by omega) Rcd_enc_len (by rw [Em.out]; exact hlt) (by omega) (by rw [markRecordL_at]; rfl)
            rw [← updN_cons, ← updN_cons, ← updN_cons, ← updN_cons, ← updN_cons, updN_nil]
          · exact ((((((((Hch.out.setCell (p := ⟨g, k * 5, none⟩) hgb hgc (.int .i64 ((q + k * 5 : Nat) : Int))).below hm1).setCell (p := ⟨g, k * 5 + 1, none⟩) hgb hgc (.string (markT (q + k * 5 + 1)))).below hm2).setCell (p := ⟨g, k * 5 + 2, none⟩) hgb hgc (.string (markT (q + k * 5 + 2)))).setCell (p := ⟨g, k * 5 + 3, none⟩) hgb hgc (.int .i64 ((q + k * 5 + 3 : Nat) : Int))).below hm3).setCell (p := ⟨g, k * 5 + 4, none⟩) hgb hgc (.string (markT (q + k * 5 + 4))))
        case measure => simp [intOf]; omega
      · go_wp2
        go_ret
        obtain rfl : k = l.length := by omega
        refine ⟨rfl, OwnL.of_fill (l := markRecordL l.length q) (k := l.length) (by rw [Em.out]; exact Hc.out) (by rw [Em.out]; exact Nat.le_refl _) hgb hgc Rcd_enc_len, Hch.out⟩

set_option maxHeartbeats 1600000 in
theorem heldRecordS_any (m : Nat) (A : Option Addr) (c q : Nat) (w : World) (h : RdL w w.heap.size A 5 Rcd.enc (markRecordL m q)) (hl : m ≤ 1048576) (hq0 : 0 < q) (hq : q ≤ 100000000000) :
    Calls Try.prog 55 #[.slice A m c, .int .i64 q] w fun e w' => e = .returned (.int .i64 ((q + m * 5 : Nat) : Int)) ∧ Below w.heap.size w w' := by
  have em : (markRecordL m q).length = m := markRecordL_len _ _
  have Em := Lib.hid em
  clear em
  go_enter Try.func55, Try.ntmps55
  go_wp2
  go_loopw [1, 5] (fun v i wr => ∃ k : Nat, k ≤ m ∧ i = .int .i64 k ∧ v = .int .i64 ((q + k * 5 : Nat) : Int) ∧ Below w.heap.size w wr) (fun _ i _ => m - (intOf i).toNat)
  case atStart => exact ⟨0, by omega, by rfl, by simp, Below.refl _ _⟩
  case round =>
    obtain ⟨k, hk, rfl, rfl, hbl⟩ := hrel
    have Hbl := Lib.hid hbl
    clear hbl
    by_cases hlt : k < m
    · obtain ⟨g, off, hA, hg, hcell⟩ := h.at (k := k) (by rw [Em.out]; exact hlt)
      subst hA
      have r0 : wr.cell? ⟨g, off + k * 5, none⟩ = some (.int .i64 ((q + k * 5 : Nat) : Int)) := by
          refine (Hbl.out.cell (p := ⟨g, off + k * 5, none⟩) hg).trans ?_
          have := hcell 0 _ (by rw [markRecordL_at]; rfl)
          exact this
      have r1 : wr.cell? ⟨g, off + k * 5 + 1, none⟩ = some (.string (markT (q + k * 5 + 1))) := by
          refine (Hbl.out.cell (p := ⟨g, off + k * 5 + 1, none⟩) hg).trans ?_
          have := hcell 1 _ (by rw [markRecordL_at]; rfl)
          exact this
      have r2 : wr.cell? ⟨g, off + k * 5 + 2, none⟩ = some (.string (markT (q + k * 5 + 2))) := by
          refine (Hbl.out.cell (p := ⟨g, off + k * 5 + 2, none⟩) hg).trans ?_
          have := hcell 2 _ (by rw [markRecordL_at]; rfl)
          exact this
      have r3 : wr.cell? ⟨g, off + k * 5 + 3, none⟩ = some (.int .i64 ((q + k * 5 + 3 : Nat) : Int)) := by
          refine (Hbl.out.cell (p := ⟨g, off + k * 5 + 3, none⟩) hg).trans ?_
          have := hcell 3 _ (by rw [markRecordL_at]; rfl)
          exact this
      have r4 : wr.cell? ⟨g, off + k * 5 + 4, none⟩ = some (.string (markT (q + k * 5 + 4))) := by
          refine (Hbl.out.cell (p := ⟨g, off + k * 5 + 4, none⟩) hg).trans ?_
          have := hcell 4 _ (by rw [markRecordL_at]; rfl)
          exact this
      have hgw1 : g < wr.heap.size := Nat.lt_of_lt_of_le hg Hbl.out.size
      have hbz1 : w.heap.size ≤ wr.heap.size := Hbl.out.size
      clear hcell h
      go_wp2
      go_region_held3 (fun w' => w'.cell? ⟨g, off + k * 5 + 1, none⟩ = some (.string (markT (q + k * 5 + 1))) ∧ w'.cell? ⟨g, off + k * 5 + 2, none⟩ = some (.string (markT (q + k * 5 + 2))) ∧ w'.cell? ⟨g, off + k * 5 + 3, none⟩ = some (.int .i64 ((q + k * 5 + 3 : Nat) : Int)) ∧ w'.cell? ⟨g, off + k * 5 + 4, none⟩ = some (.string (markT (q + k * 5 + 4)))) (first | exact ⟨r1, r2, r3, r4⟩ | exact ⟨t1_1, t1_2, t1_3, t1_4⟩ | go_keep) (first | (go_at_call 104; refine (markText_any (q + k * 5 + 1) _ (by omega) (by omega)).mono ?_; rintro e w' ⟨rfl, hm1⟩; have t1_1 := (hm1.cell (p := ⟨g, off + k * 5 + 1, none⟩) hgw1).trans r1; have t1_2 := (hm1.cell (p := ⟨g, off + k * 5 + 2, none⟩) hgw1).trans r2; have t1_3 := (hm1.cell (p := ⟨g, off + k * 5 + 3, none⟩) hgw1).trans r3; have t1_4 := (hm1.cell (p := ⟨g, off + k * 5 + 4, none⟩) hgw1).trans r4; have hgw2 := Nat.lt_of_lt_of_le hgw1 hm1.size; have hbz2 := Nat.le_trans hbz1 hm1.size))
      go_wp2
      go_region_held3 (fun w' => w'.cell? ⟨g, off + k * 5 + 2, none⟩ = some (.string (markT (q + k * 5 + 2))) ∧ w'.cell? ⟨g, off + k * 5 + 3, none⟩ = some (.int .i64 ((q + k * 5 + 3 : Nat) : Int)) ∧ w'.cell? ⟨g, off + k * 5 + 4, none⟩ = some (.string (markT (q + k * 5 + 4)))) (first | exact ⟨t1_2, t1_3, t1_4⟩ | exact ⟨t2_2, t2_3, t2_4⟩ | go_keep) (first | (go_at_call 104; refine (markText_any (q + k * 5 + 2) _ (by omega) (by omega)).mono ?_; rintro e w' ⟨rfl, hm2⟩; have t2_2 := (hm2.cell (p := ⟨g, off + k * 5 + 2, none⟩) hgw2).trans t1_2; have t2_3 := (hm2.cell (p := ⟨g, off + k * 5 + 3, none⟩) hgw2).trans t1_3; have t2_4 := (hm2.cell (p := ⟨g, off + k * 5 + 4, none⟩) hgw2).trans t1_4; have hgw3 := Nat.lt_of_lt_of_le hgw2 hm2.size; have hbz3 := Nat.le_trans hbz2 hm2.size))
      go_wp2
      go_region_held3 (fun w' => w'.cell? ⟨g, off + k * 5 + 4, none⟩ = some (.string (markT (q + k * 5 + 4)))) (first | exact t2_4 | exact t3_4 | go_keep) (first | (go_at_call 104; refine (markText_any (q + k * 5 + 4) _ (by omega) (by omega)).mono ?_; rintro e w' ⟨rfl, hm3⟩; have t3_4 := (hm3.cell (p := ⟨g, off + k * 5 + 4, none⟩) hgw3).trans t2_4; have hgw4 := Nat.lt_of_lt_of_le hgw3 hm3.size; have hbz4 := Nat.le_trans hbz3 hm3.size))
      go_wp2
      go_roundw
      case rel =>
        exact ⟨k + 1, by omega, by go_num, by first | rfl | (congr 1; simp; done) | (congr 1; simp; omega) | (congr 1; omega), (((Hbl.out.drew.trans (hm1.mono hbz1)).drew.trans (hm2.mono hbz2)).drew.trans (hm3.mono hbz3))⟩
      case measure => simp [intOf]; omega
    · go_wp2
      go_ret
      obtain rfl : k = m := by omega
      exact ⟨by first | rfl | simp, Hbl.out⟩

end Go.Proofs.Ytdegbckoejddeaa