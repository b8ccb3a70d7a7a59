import Derived.Test.YtbfhfnejppfehaaGreatDoorRows
import Derived.Test.YtbfhfnejppfehaaGreatDoorMPlayBandL01
import Derived.StillTailTactics
import Derived.Deep.RegionHeld3
import Derived.Test.YtbfhfnejppfehaaGreatDoorMPlayBandL18
import Derived.Test.YtbfhfnejppfehaaGreatDoorMPlayBandL13
import Derived.Laws.StructEq
import Derived.Test.YtbfhfnejppfehaaGreatDoorMPlayBandL16
import Derived.Test.YtbfhfnejppfehaaGreatDoorMPlayBandL17
import Derived.Test.YtbfhfnejppfehaaGreatDoorMPlayBandL00
import Derived.Deep.RegionLaw
/-
  Contracts of the helper functions that the laws use for lists of RingAct.
-/
namespace Go.Proofs.YtbfhfnejppfehaaGreatDoor
open Go.RowKit Go.ChangeShapes Go.WideShapes
set_option linter.unusedVariables false
set_option linter.unusedSimpArgs false
set_option maxRecDepth 100000


structure Act_ where
  kind : Int
  bell : Int
  by_ : Int
  call : ByteArray

def Act_.enc (x : Act_) : List Value := [.int .i64 x.kind, .int .i64 x.bell, .int .i64 x.by_, .string x.call]
theorem Act__enc_len (x : Act_) : (Act_.enc x).length = 4 := rfl
def RingAct_small (lim : Int) (x : Act_) : Prop := (x.call.size : Int) ≤ lim
theorem RingAct_info : (Tryz.prog.info? 45).map (fun i => (i.zero, i.size, i.bytes)) = some (some (.agg #[.int .i64 0, .int .i64 0, .int .i64 0, .string ⟨#[]⟩]), 4, 40) := by kernel_rfl

theorem RingAct_el {H : Type} {en : TypeId × Value → H} {w : World} {base : Nat} {spare : Nat → Bool} {held : Bool} (n : Nat) (cs : List Value) (y : DataW H × List MemPlace) (h : DataW.trod en Tryz.prog w base spare held n 140 cs = some y) : ∃ x : Act_, cs = Act_.enc x ∧ RingAct_small 9223372036854775807 x := by
  obtain ⟨xs, m, _, _, hlen, hxl, hg⟩ := DataW.trod_struct Tryz.underlying140 h
  have hC : Tryz.prog.cellsOf 140 = 4 := by kernel_rfl
  have hC_int : Tryz.prog.cellsOf 3 = 1 := by kernel_rfl
  have hC_string : Tryz.prog.cellsOf 9 = 1 := by kernel_rfl
  rw [hC] at hlen
  match cs, hlen, xs, hxl with
  | [c0, c1, c2, c3], _, [x0, x1, x2, x3], _ =>
    have g0 := hg 0 _ rfl
    simp only [hC_int, List.drop_zero, List.drop_succ_cons, List.take_succ_cons, List.take_zero, List.getElem?_cons_zero, List.getElem?_cons_succ] at g0
    obtain ⟨a0, e0, _, _⟩ := DataW.trod_int Tryz.underlying3 g0
    injection e0 with e0 _
    subst e0
    have g1 := hg 1 _ rfl
    simp only [hC_int, List.drop_zero, List.drop_succ_cons, List.take_succ_cons, List.take_zero, List.getElem?_cons_zero, List.getElem?_cons_succ] at g1
    obtain ⟨a1, e1, _, _⟩ := DataW.trod_int Tryz.underlying3 g1
    injection e1 with e1 _
    subst e1
    have g2 := hg 2 _ rfl
    simp only [hC_int, List.drop_zero, List.drop_succ_cons, List.take_succ_cons, List.take_zero, List.getElem?_cons_zero, List.getElem?_cons_succ] at g2
    obtain ⟨a2, e2, _, _⟩ := DataW.trod_int Tryz.underlying3 g2
    injection e2 with e2 _
    subst e2
    have g3 := hg 3 _ rfl
    simp only [hC_string, List.drop_zero, List.drop_succ_cons, List.take_succ_cons, List.take_zero, List.getElem?_cons_zero, List.getElem?_cons_succ] at g3
    obtain ⟨a3, e3, _, s3⟩ := DataW.trod_string Tryz.underlying9 g3
    injection e3 with e3 _
    subst e3
    exact ⟨⟨a0, a1, a2, a3⟩, rfl, by simp only [RingAct_small]; unfold maxLen at s3; omega⟩

theorem szRingAct_any (x : Act_) (left : Int) (w : World) (h1 : 0 ≤ left) (h2 : left ≤ 1048576) (hs : RingAct_small 9223372036854775807 x) :
    Calls Tryz.prog 117 #[.agg #[.int .i64 x.kind, .int .i64 x.bell, .int .i64 x.by_, .string x.call], .int .i64 left] w fun e w' => ∃ r, e = .returned (.int .i64 r) ∧ (r = -1 ∨ (0 ≤ r ∧ r ≤ left ∧ RingAct_small left x)) ∧ Below w.heap.size w w' := by
  simp only [RingAct_small] at hs
  have s0 := hs
  go_enter Tryz.func117, Tryz.ntmps117
  go_wp2
  all_goals
    go_ret
    refine ⟨_, rfl, ?_, (by repeat (first | exact Below.refl _ _ | (refine Below.alloc ?_ (by simp <;> omega) _) | (refine Below.drew ?_) | (refine below_drewN ?_ _)))⟩
    first
      | exact .inl rfl
      | (refine .inr ⟨by omega, by omega, ?_⟩; simp only [RingAct_small]; (repeat' apply And.intro) <;> omega)

set_option maxHeartbeats 800000 in
theorem szRingActS_any (l : List Act_) (A : Option Addr) (c : Nat) (left : Int) (w : World) (h : RdL w w.heap.size A 4 Act_.enc l) (hl : l.length ≤ 9223372036854775807) (h1 : 0 ≤ left) (h2 : left ≤ 1048576) (hs : ∀ x ∈ l, RingAct_small 9223372036854775807 x) :
    Calls Tryz.prog 41 #[.slice A l.length c, .int .i64 left] w fun e w' => ∃ r, e = .returned (.int .i64 r) ∧ SzOk r left l.length (∀ x ∈ l, RingAct_small left x) ∧ Below w.heap.size w w' := by
  have Hs := Lib.hid hs
  clear hs
  by_cases hn : left < l.length
  · go_enter Tryz.func41, Tryz.ntmps41
    go_wp2
    go_ret
    exact ⟨_, rfl, .inl (by omega), Below.refl _ _⟩
  · go_enter Tryz.func41, Tryz.ntmps41
    go_wp2
    go_loopw [1, 5] (fun v i wr => ∃ (k : Nat) (r : Int), k ≤ l.length ∧ i = .int .i64 k ∧ v = .int .i64 r ∧ 0 ≤ r ∧ r ≤ left ∧ (∀ (j : Nat) (hj : j < l.length), j < k → RingAct_small left l[j]) ∧ Below w.heap.size w wr) (fun _ i _ => l.length - (intOf i).toNat)
    case atStart => exact ⟨0, left - l.length, by omega, by rfl, rfl, by omega, by omega, fun j _ hj => by omega, Below.refl _ _⟩
    case round =>
      obtain ⟨k, r, hk, rfl, rfl, hr0, hr1, hsm, hbl⟩ := hrel
      have Hbl := Lib.hid hbl
      have Hsm := Lib.hid hsm
      clear hbl hsm
      by_cases hlt : k < l.length
      · obtain ⟨g, off, hA, hg, hcell⟩ := h.at hlt
        subst hA
        have r0 := (Hbl.out.cell (p := ⟨g, off + k * 4, none⟩) hg).trans (hcell 0 _ rfl)
        have r1 := (Hbl.out.cell (p := ⟨g, off + k * 4 + 1, none⟩) hg).trans (hcell 1 _ rfl)
        have r2 := (Hbl.out.cell (p := ⟨g, off + k * 4 + 2, none⟩) hg).trans (hcell 2 _ rfl)
        have r3 := (Hbl.out.cell (p := ⟨g, off + k * 4 + 3, none⟩) hg).trans (hcell 3 _ rfl)
        have hgs := Hbl.out.size
        obtain ⟨x, hx⟩ : ∃ x, Hid (l[k] = x) := ⟨l[k], Lib.hid rfl⟩
        have hxs : RingAct_small 9223372036854775807 x := by have := Hs.out _ (List.getElem_mem hlt); rw [hx.out] at this; exact this
        rw [hx.out] at r0 r1 r2 r3
        clear hcell h

        have Hxs := Lib.hid hxs
        clear hxs
        go_wp2_with (go_at_call 117; refine (szRingAct_any x r _ hr0 (by omega) Hxs.out).mono ?_; rintro e w' ⟨q, rfl, hq, hb2⟩; have Hq := Lib.hid hq; clear hq)
        all_goals
          first
            | (go_ret
               exact ⟨-1, rfl, .inl (by omega), Hbl.out.trans (hb2.mono hgs)⟩)
            | (have hq := Hq.out.resolve_left (by omega)
               go_roundw
               case rel =>
                 refine ⟨k + 1, _, by omega, by go_num, rfl, by omega, by omega, fun j hj hj1 => ?_, Hbl.out.trans (hb2.mono hgs)⟩
                 rcases Nat.lt_or_eq_of_le (Nat.le_of_lt_succ hj1) with h' | rfl
                 · exact Hsm.out j hj h'
                 · rw [hx.out]; have := hq.2.2; simp only [RingAct_small] at this ⊢; omega
               case measure => simp [intOf]; omega)
      · go_wp2
        go_ret
        refine ⟨_, rfl, .inr ⟨hr0, hr1, by omega, fun x hx => ?_⟩, Hbl.out⟩
        obtain ⟨j, hj, rfl⟩ := List.getElem_of_mem hx
        exact Hsm.out j hj (by omega)

theorem toRingAct_any (x : Act_) (w : World) :
    Calls Tryz.prog 121 #[.agg #[.int .i64 x.kind, .int .i64 x.bell, .int .i64 x.by_, .string x.call]] w fun e w' => e = .returned (.agg #[.int .i64 x.kind, .int .i64 x.bell, .int .i64 x.by_, .string x.call]) ∧ Below w.heap.size w w' := by
  go_enter Tryz.func121, Tryz.ntmps121
  go_wp2
  refine bodyPost_ret (v := .agg #[.int .i64 x.kind, .int .i64 x.bell, .int .i64 x.by_, .string x.call]) (by simp [results, Tryz.results121, go_sem]) rfl ⟨rfl, ?_⟩
  exact (((Below.refl _ _).alloc (Nat.le_refl _) _).alloc (by simp) _).alloc (by simp <;> omega) _

set_option maxHeartbeats 800000 in
theorem toRingActS_any (l : List Act_) (A : Option Addr) (c : Nat) (w : World) (h : RdL w w.heap.size A 4 Act_.enc l) (hl : l.length ≤ 1048576) :
    Calls Tryz.prog 43 #[.slice A l.length c] w fun e w' => ∃ A', e = .returned (.slice A' l.length l.length) ∧ OwnL w' w.heap.size w'.heap.size A' 4 Act_.enc l ∧ Below w.heap.size w w' := by
  go_enter Tryz.func43, Tryz.ntmps43
  go_wp2_with (refine wpList_make_cellsN rfl 37 _ rfl 45 _ 4 40 rfl RingAct_info rfl .i64 l.length rfl (by omega) (by omega) ?_; intro w1 hc1 hb1)
  go_loopw [4] (fun i wr => ∃ k : Nat, k ≤ l.length ∧ i = .int .i64 k ∧ Cells wr w.heap.size (l.length * 4) (fill Act_.enc 4 l (fun i => (Value.agg #[.int .i64 0, .int .i64 0, .int .i64 0, .string ⟨#[]⟩]).cells.getD (i % 4) undef) k) ∧ Below w.heap.size w wr) (fun i _ => l.length - (intOf i).toNat)
  case atStart => exact ⟨0, by omega, by rfl, by rw [fill_zero]; exact hc1, hb1⟩
  case round =>
    obtain ⟨k, hk, rfl, hc, hbl⟩ := hrel
    have Hc := Lib.hid hc
    have Hbl := Lib.hid hbl
    have hgs : w.heap.size < wr.heap.size := hc.lt
    clear hc hbl hc1 hb1
    by_cases hlt : k < l.length
    · obtain ⟨g, off, hA, hg, hcell⟩ := h.at hlt
      subst hA
      have r0 := (Hbl.out.cell (p := ⟨g, off + k * 4, none⟩) hg).trans (hcell 0 _ rfl)
      have r1 := (Hbl.out.cell (p := ⟨g, off + k * 4 + 1, none⟩) hg).trans (hcell 1 _ rfl)
      have r2 := (Hbl.out.cell (p := ⟨g, off + k * 4 + 2, none⟩) hg).trans (hcell 2 _ rfl)
      have r3 := (Hbl.out.cell (p := ⟨g, off + k * 4 + 3, none⟩) hg).trans (hcell 3 _ rfl)
      obtain ⟨x, hx⟩ : ∃ x, Hid (l[k] = x) := ⟨l[k], Lib.hid rfl⟩
      rw [hx.out] at r0 r1 r2 r3
      clear hcell h
      go_wp2_with (go_at_call 121; refine (toRingAct_any x _).mono ?_; rintro e w' ⟨rfl, hb2⟩; have q0 := (Hc.out.later hb2).cell (i := k * 4) (by omega); have f0 := (Hc.out.later hb2).free (i := k * 4) (by omega); have q1 := (Hc.out.later hb2).cell (i := k * 4 + 1) (by omega); have f1 := (Hc.out.later hb2).free (i := k * 4 + 1) (by omega); have q2 := (Hc.out.later hb2).cell (i := k * 4 + 2) (by omega); have f2 := (Hc.out.later hb2).free (i := k * 4 + 2) (by omega); have q3 := (Hc.out.later hb2).cell (i := k * 4 + 3) (by omega); have f3 := (Hc.out.later hb2).free (i := k * 4 + 3) (by omega))
      go_roundw
      case rel => exact ⟨k + 1, by omega, by go_num, (Hc.out.later hb2).fillN (by omega) Act__enc_len hlt rfl [_, _, _, _] (by rw [hx.out]; rfl), Below.setN (Nat.le_refl _) [_, _, _, _] (Hbl.out.trans (hb2.mono (by omega)))⟩
      case measure => simp [intOf]; omega
    · go_wp2
      go_ret
      exact ⟨_, rfl, OwnL.of_fill Hc.out (by omega) (Nat.le_refl _) Hc.out.lt Act__enc_len, Hbl.out⟩

theorem eqRingAct_t (x : Act_) (w : World) :
    Calls Tryz.prog 125 #[.agg #[.int .i64 x.kind, .int .i64 x.bell, .int .i64 x.by_, .string x.call], .agg #[.int .i64 x.kind, .int .i64 x.bell, .int .i64 x.by_, .string x.call]] w fun e w' => e = .returned (.bool true) ∧ Below w.heap.size w w' := by
  go_enter Tryz.func125, Tryz.ntmps125
  go_wp2
  go_ret
  exact ⟨rfl, ((Below.refl _ _).alloc (Nat.le_refl _) _).alloc (by simp) _⟩

set_option maxHeartbeats 800000 in
theorem eqRingActS_t (l : List Act_) (A A' : Option Addr) (c c' : Nat) (w : World) (h : RdL w w.heap.size A 4 Act_.enc l) (h' : RdL w w.heap.size A' 4 Act_.enc l) (hl : l.length ≤ 4611686018427387904) :
    Calls Tryz.prog 46 #[.slice A l.length c, .slice A' l.length c'] w fun e w' => e = .returned (.bool true) ∧ Below w.heap.size w w' := by
  go_enter Tryz.func46, Tryz.ntmps46
  go_wp2
  go_loopw [5] (fun i wr => ∃ k : Nat, k ≤ l.length ∧ i = .int .i64 k ∧ Below w.heap.size w wr) (fun i _ => l.length - (intOf i).toNat)
  case atStart => exact ⟨0, by omega, by rfl, Below.refl _ _⟩
  case round =>
    obtain ⟨k, hk, rfl, hbl⟩ := hrel
    have Hbl := Lib.hid hbl
    clear hbl
    by_cases hlt : k < l.length
    · obtain ⟨g, off, hA, hg, hcell⟩ := h.at hlt
      obtain ⟨g', off', hA', hg', hcell'⟩ := h'.at hlt
      subst hA hA'
      have r0 := (Hbl.out.cell (p := ⟨g, off + k * 4, none⟩) hg).trans (hcell 0 _ rfl)
      have r1 := (Hbl.out.cell (p := ⟨g, off + k * 4 + 1, none⟩) hg).trans (hcell 1 _ rfl)
      have r2 := (Hbl.out.cell (p := ⟨g, off + k * 4 + 2, none⟩) hg).trans (hcell 2 _ rfl)
      have r3 := (Hbl.out.cell (p := ⟨g, off + k * 4 + 3, none⟩) hg).trans (hcell 3 _ rfl)
      have q0 := (Hbl.out.cell (p := ⟨g', off' + k * 4, none⟩) hg').trans (hcell' 0 _ rfl)
      have q1 := (Hbl.out.cell (p := ⟨g', off' + k * 4 + 1, none⟩) hg').trans (hcell' 1 _ rfl)
      have q2 := (Hbl.out.cell (p := ⟨g', off' + k * 4 + 2, none⟩) hg').trans (hcell' 2 _ rfl)
      have q3 := (Hbl.out.cell (p := ⟨g', off' + k * 4 + 3, none⟩) hg').trans (hcell' 3 _ rfl)
      clear hcell hcell' h h'
      generalize l[k] = x at r0 q0 r1 q1 r2 q2 r3 q3
      go_wp2
      go_still_tail 8, (by kernel_rfl)
      change wpList _ _ _ _ _ wr.drew
      have Hbl2 := Lib.hid Hbl.out.drew
      generalize wr.drew = w2 at *
      have hgs2 := Hbl2.out.size
      go_wp2_with (go_at_call 125; refine (eqRingAct_t x _).mono ?_; rintro e w' ⟨rfl, hb2⟩)
      go_roundw
      case rel => exact ⟨k + 1, by omega, by go_num, Hbl2.out.trans (hb2.mono hgs2)⟩
      case measure => simp [intOf]; omega
    · go_wp2
      go_ret
      exact ⟨rfl, Hbl.out⟩

/-- What the marks make of a list of so many elements. -/
def markRingActL (m q : Nat) : List Act_ := (List.range m).map fun i : Nat => (⟨((q + i * 4 : Nat) : Int), ((q + i * 4 + 1 : Nat) : Int), ((q + i * 4 + 2 : Nat) : Int), (markT (q + i * 4 + 3))⟩ : Act_)
theorem markRingActL_len (m q : Nat) : (markRingActL m q).length = m := by simp [markRingActL]
theorem markRingActL_at (m q i : Nat) (hi : i < (markRingActL m q).length) : (markRingActL m q)[i] = (⟨((q + i * 4 : Nat) : Int), ((q + i * 4 + 1 : Nat) : Int), ((q + i * 4 + 2 : Nat) : Int), (markT (q + i * 4 + 3))⟩ : Act_) := by simp [markRingActL]
set_option maxHeartbeats 1600000 in
theorem markRingActS_any (l : List Act_) (b d : Nat) (A : Option Addr) (c q : Nat) (w : World) (h : OwnL w b d A 4 Act_.enc l) (hl : l.length ≤ 1048576) (hq0 : 0 < q) (hq : q ≤ 100000000000) :
    Calls Tryz.prog 48 #[.slice A l.length c, .int .i64 q] w fun e w' => e = .returned (.int .i64 ((q + l.length * 4 : Nat) : Int)) ∧ OwnL w' b d A 4 Act_.enc (markRingActL l.length q) ∧ Chg b d w w' := by
  rcases Nat.eq_zero_or_pos l.length with h0 | hpos
  · have e0 : l = [] := List.eq_nil_of_length_eq_zero h0
    subst e0
    go_enter Tryz.func48, Tryz.ntmps48
    go_wp2
    go_loop [1, 5] (fun v i => v = .int .i64 q ∧ i = .int .i64 0) (fun _ _ => 0)
    case atStart => exact ⟨rfl, rfl⟩
    case round =>
      obtain ⟨rfl, rfl⟩ := hrel
      go_wp2
      go_ret
      exact ⟨by simp, .inl rfl, Chg.refl _ _ _⟩
  · obtain ⟨g, f, hA, hgb, hgc, hc0⟩ := h.cells hpos
    subst hA
    have HC0 := Lib.hid hc0
    clear hc0
    have em : (markRingActL l.length q).length = l.length := markRingActL_len _ _
    have Em := Lib.hid em
    clear em
    go_enter Tryz.func48, Tryz.ntmps48
    go_wp2
    go_loopw [1, 5] (fun v i wr => ∃ k : Nat, k ≤ l.length ∧ i = .int .i64 k ∧ v = .int .i64 ((q + k * 4 : Nat) : Int) ∧ Cells wr g (l.length * 4) (fill Act_.enc 4 (markRingActL l.length q) f k) ∧ Chg b d w wr) (fun _ i _ => l.length - (intOf i).toNat)
    case atStart => exact ⟨0, by omega, by rfl, by simp, by rw [fill_zero]; exact HC0.out, Chg.refl _ _ _⟩
    case round =>
      obtain ⟨k, hk, rfl, rfl, hc, hch⟩ := hrel
      have Hc := Lib.hid hc
      have Hch := Lib.hid hch
      clear hc hch h
      by_cases hlt : k < l.length
      · have q0 := Hc.out.cell (i := k * 4) (by omega)
        have f0 := Hc.out.free (i := k * 4) (by omega)
        have q1 := Hc.out.cell (i := k * 4 + 1) (by omega)
        have f1 := Hc.out.free (i := k * 4 + 1) (by omega)
        have q2 := Hc.out.cell (i := k * 4 + 2) (by omega)
        have f2 := Hc.out.free (i := k * 4 + 2) (by omega)
        have q3 := Hc.out.cell (i := k * 4 + 3) (by omega)
        have f3 := Hc.out.free (i := k * 4 + 3) (by omega)
        go_wp2_with (go_at_call 128; refine (markText_any (q + k * 4 + 3) _ (by omega) (by omega)).mono ?_; rintro e w' ⟨rfl, hm1⟩; have t1_3 := ((((Hc.out.set (i := k * 4) (by omega) (.int .i64 ((q + k * 4 : Nat) : Int))).set (i := k * 4 + 1) (by omega) (.int .i64 ((q + k * 4 + 1 : Nat) : Int))).set (i := k * 4 + 2) (by omega) (.int .i64 ((q + k * 4 + 2 : Nat) : Int))).later hm1).cell (i := k * 4 + 3) (by omega); have u1_3 := ((((Hc.out.set (i := k * 4) (by omega) (.int .i64 ((q + k * 4 : Nat) : Int))).set (i := k * 4 + 1) (by omega) (.int .i64 ((q + k * 4 + 1 : Nat) : Int))).set (i := k * 4 + 2) (by omega) (.int .i64 ((q + k * 4 + 2 : Nat) : Int))).later hm1).free (i := k * 4 + 3) (by omega))
        go_roundw
        case rel =>
          refine ⟨k + 1, by omega, by go_num, by first | rfl | (congr 1; simp; done) | (congr 1; simp; omega) | (congr 1; omega), ?_, ?_⟩
          · have hC := (((((Hc.out.set (i := k * 4) (by omega) (.int .i64 ((q + k * 4 : Nat) : Int))).set (i := k * 4 + 1) (by omega) (.int .i64 ((q + k * 4 + 1 : Nat) : Int))).set (i := k * 4 + 2) (by omega) (.int .i64 ((q + k * 4 + 2 : Nat) : Int))).later hm1).set (i := k * 4 + 3) (by omega) (.string (markT (q + k * 4 + 3))))
            refine hC.as_fill (l := markRingActL l.length q) (p := k * 4) [.int .i64 ((q + k * 4 : Nat) : Int), .int .i64 ((q + k * 4 + 1 : Nat) : Int), .int .i64 ((q + k * 4 + 2 : Nat) : Int), .string (markT (q + k * 4 + 3))] ?_ (by omega) Act__enc_len (by rw [Em.out]; exact hlt) (by omega) (by rw [markRingActL_at]; rfl)
            rw [← updN_cons, ← updN_cons, ← updN_cons, ← updN_cons, updN_nil]
          · exact (((((Hch.out.setCell (p := ⟨g, k * 4, none⟩) hgb hgc (.int .i64 ((q + k * 4 : Nat) : Int))).setCell (p := ⟨g, k * 4 + 1, none⟩) hgb hgc (.int .i64 ((q + k * 4 + 1 : Nat) : Int))).setCell (p := ⟨g, k * 4 + 2, none⟩) hgb hgc (.int .i64 ((q + k * 4 + 2 : Nat) : Int))).below hm1).setCell (p := ⟨g, k * 4 + 3, none⟩) hgb hgc (.string (markT (q + k * 4 + 3))))
        case measure => simp [intOf]; omega
      · go_wp2
        go_ret
        obtain rfl : k = l.length := by omega
        refine ⟨rfl, OwnL.of_fill (l := markRingActL l.length q) (k := l.length) (by rw [Em.out]; exact Hc.out) (by rw [Em.out]; exact Nat.le_refl _) hgb hgc Act__enc_len, Hch.out⟩

end Go.Proofs.YtbfhfnejppfehaaGreatDoor
/-
  DoBand: what an action makes of a band.
-/
namespace Go.Proofs.YtbfhfnejppfehaaGreatDoor
open Go.RowKit
set_option linter.unusedVariables false
set_option linter.unusedSimpArgs false
set_option maxRecDepth 100000

theorem eqAct_any (k' b' y' : Int) (c' : ByteArray) (k b y : Int) (c : ByteArray) (w : World) : (binOp .eql 45 (.agg #[.int .i64 k', .int .i64 b', .int .i64 y', .string c']) (.agg #[.int .i64 k, .int .i64 b, .int .i64 y, .string c])).run Tryz.prog w = .ok (.bool (k' == k && (b' == b && (y' == y && c'.toList == c.toList)))) w := by
  have hs : (Tryz.prog).stoodInHeld 45 = false := by kernel_rfl
  rw [run_eql_struct, show (10000 : Nat) = 9999 + 1 from rfl, run_equalIn_struct w 9999 45 _ _ (by simp [Program.fieldsOf, Tryz.underlying45]) hs]
  simp only [Program.fieldsOf, Tryz.underlying45]
  by_cases h1 : k' = k <;> by_cases h2 : b' = b <;> by_cases h3 : y' = y <;> by_cases h4 : c'.toList = c.toList <;>
    simp [go_sem, h1, h2, h3, h4]
/-- An action is the one with these fields. -/
def actE (k' b' y' : Int) (c' : ByteArray) (k b y : Int) (c : ByteArray) : Prop := k' = k ∧ b' = b ∧ y' = y ∧ c'.toList = c.toList
theorem eqAct_t {k' b' y' : Int} {c' : ByteArray} {k b y : Int} {c : ByteArray} (h : actE k' b' y' c' k b y c) (w : World) : (binOp .eql 45 (.agg #[.int .i64 k', .int .i64 b', .int .i64 y', .string c']) (.agg #[.int .i64 k, .int .i64 b, .int .i64 y, .string c])).run Tryz.prog w = .ok (.bool true) w := by
  rw [eqAct_any]; simp [h.1, h.2.1, h.2.2.1, h.2.2.2]
theorem eqAct_f {k' b' y' : Int} {c' : ByteArray} {k b y : Int} {c : ByteArray} (h : ¬ actE k' b' y' c' k b y c) (w : World) : (binOp .eql 45 (.agg #[.int .i64 k', .int .i64 b', .int .i64 y', .string c']) (.agg #[.int .i64 k, .int .i64 b, .int .i64 y, .string c])).run Tryz.prog w = .ok (.bool false) w := by
  rw [eqAct_any]
  have : (k' == k && (b' == b && (y' == y && c'.toList == c.toList))) = false := by
    rw [Bool.eq_false_iff]; intro e; apply h; simpa [actE] using e
  rw [this]
/-- A ringer of the band, by the bell. -/
def Bnd.at_ (b : Bnd) (bl : Int) : Rgr := b.rx.getD (bl.toNat - 1) ⟨0, false⟩
def Bnd.put (b : Bnd) (bl : Int) (r : Rgr) : Bd := { b.bd with rx := b.rx.set (bl.toNat - 1) r }
open Classical in
/-- What an action makes of a valid band. -/
noncomputable def doR (b : Bnd) (kd bl yy : Int) (cl : ByteArray) : Bd × Bool :=
  if actE kd bl yy cl 1 0 0 ⟨#[]⟩ then (stepD b, true)
  else if actE kd bl yy cl 2 0 0 cl ∧ isCallP cl then ({ b.bd with call := cl }, true)
  else if ¬ inB bl 1 b.m.stage then (Bd.zero, false)
  else if actE kd bl yy cl 3 bl 0 ⟨#[]⟩ then (b.put bl ⟨(b.at_ bl).place, true⟩, true)
  else if actE kd bl yy cl 5 bl 0 ⟨#[]⟩ then (b.put bl ⟨placeS b.tru bl, (b.at_ bl).deaf⟩, true)
  else if actE kd bl yy cl 4 bl yy ⟨#[]⟩ ∧ (yy = 1 ∨ yy = -1) ∧ inB ((b.at_ bl).place + yy) 1 b.m.stage then (b.put bl ⟨(b.at_ bl).place + yy, (b.at_ bl).deaf⟩, true)
  else (Bd.zero, false)
open Classical in
/-- What DoBand answers. -/
noncomputable def doBD (b : Bnd) (kd bl yy : Int) (cl : ByteArray) : Bd × Bool := if bandP b then doR b kd bl yy cl else (Bd.zero, false)
theorem doR_small {b : Bnd} {kd bl yy : Int} {cl : ByteArray} (h : b.m.x.length ≤ 1048576) (hr : b.rx.length ≤ 1048576) : (doR b kd bl yy cl).1.x.length ≤ 1048576 ∧ (doR b kd bl yy cl).1.rx.length ≤ 1048576 := by
  have hp : ∀ r, (b.put bl r).x.length ≤ 1048576 ∧ (b.put bl r).rx.length ≤ 1048576 := fun r => ⟨h, by show (b.rx.set _ r).length ≤ _; rw [List.length_set]; exact hr⟩
  have hz : Bd.zero.x.length ≤ 1048576 ∧ Bd.zero.rx.length ≤ 1048576 := ⟨Nat.zero_le _, Nat.zero_le _⟩
  unfold doR
  split
  · exact ⟨h, by show (stepRs b).length ≤ _; rw [stepRs_len]; exact hr⟩
  · split
    · exact ⟨h, hr⟩
    · split
      · exact hz
      · split
        · exact hp _
        · split
          · exact hp _
          · split
            · exact hp _
            · exact hz
theorem doBD_small {b : Bnd} {kd bl yy : Int} {cl : ByteArray} (h : b.m.x.length ≤ 1048576) (hr : b.rx.length ≤ 1048576) : (doBD b kd bl yy cl).1.x.length ≤ 1048576 ∧ (doBD b kd bl yy cl).1.rx.length ≤ 1048576 := by
  unfold doBD
  split
  · exact doR_small h hr
  · exact ⟨Nat.zero_le _, Nat.zero_le _⟩
section
variable {b : Bnd} {kd bl yy : Int} {cl : ByteArray}
theorem doR_1 (h : actE kd bl yy cl 1 0 0 ⟨#[]⟩) : doR b kd bl yy cl = (stepD b, true) := by unfold doR; rw [if_pos h]
theorem doR_2 (h1 : ¬ actE kd bl yy cl 1 0 0 ⟨#[]⟩) (h : actE kd bl yy cl 2 0 0 cl ∧ isCallP cl) : doR b kd bl yy cl = ({ b.bd with call := cl }, true) := by unfold doR; rw [if_neg h1, if_pos h]
theorem doR_n (h1 : ¬ actE kd bl yy cl 1 0 0 ⟨#[]⟩) (h2 : ¬ (actE kd bl yy cl 2 0 0 cl ∧ isCallP cl)) (h : ¬ inB bl 1 b.m.stage) : doR b kd bl yy cl = (Bd.zero, false) := by unfold doR; rw [if_neg h1, if_neg h2, if_pos h]
theorem not1 (h : inB bl 1 b.m.stage) : ¬ actE kd bl yy cl 1 0 0 ⟨#[]⟩ := fun e => by have := e.2.1; have := h.1; omega
theorem not2 (h : inB bl 1 b.m.stage) : ¬ (actE kd bl yy cl 2 0 0 cl ∧ isCallP cl) := fun e => by have := e.1.2.1; have := h.1; omega
theorem doR_3 (h : inB bl 1 b.m.stage) (h3 : actE kd bl yy cl 3 bl 0 ⟨#[]⟩) : doR b kd bl yy cl = (b.put bl ⟨(b.at_ bl).place, true⟩, true) := by unfold doR; rw [if_neg (not1 h), if_neg (not2 h), if_neg (fun e => e h), if_pos h3]
theorem doR_5 (h : inB bl 1 b.m.stage) (h3 : actE kd bl yy cl 5 bl 0 ⟨#[]⟩) : doR b kd bl yy cl = (b.put bl ⟨placeS b.tru bl, (b.at_ bl).deaf⟩, true) := by unfold doR; rw [if_neg (not1 h), if_neg (not2 h), if_neg (fun e => e h), if_neg (fun e => by have := e.1; have := h3.1; omega), if_pos h3]
theorem doR_4 (h : inB bl 1 b.m.stage) (h3 : actE kd bl yy cl 4 bl yy ⟨#[]⟩ ∧ (yy = 1 ∨ yy = -1) ∧ inB ((b.at_ bl).place + yy) 1 b.m.stage) : doR b kd bl yy cl = (b.put bl ⟨(b.at_ bl).place + yy, (b.at_ bl).deaf⟩, true) := by unfold doR; rw [if_neg (not1 h), if_neg (not2 h), if_neg (fun e => e h), if_neg (fun e => by have := e.1; have := h3.1.1; omega), if_neg (fun e => by have := e.1; have := h3.1.1; omega), if_pos h3]
theorem doR_no (h : inB bl 1 b.m.stage) (h3 : ¬ actE kd bl yy cl 3 bl 0 ⟨#[]⟩) (h5 : ¬ actE kd bl yy cl 5 bl 0 ⟨#[]⟩) (h4 : ¬ (actE kd bl yy cl 4 bl yy ⟨#[]⟩ ∧ (yy = 1 ∨ yy = -1) ∧ inB ((b.at_ bl).place + yy) 1 b.m.stage)) : doR b kd bl yy cl = (Bd.zero, false) := by unfold doR; rw [if_neg (not1 h), if_neg (not2 h), if_neg (fun e => e h), if_neg h3, if_neg h5, if_neg h4]
end
end Go.Proofs.YtbfhfnejppfehaaGreatDoor

/-
  Touches in plain words: rows behind changes one after the other, the heads of a touch.
-/
namespace Go.Proofs.YtbfhfnejppfehaaGreatDoor
open Go.RowKit
set_option linter.unusedVariables false
set_option linter.unusedSimpArgs false

section
variable {α : Type} (f : ByteArray → α → ByteArray)
/-- What stands behind k steps. -/
def after (r : ByteArray) (l : List α) (k : Nat) : ByteArray := (l.take k).foldl f r
theorem after_zero (r : ByteArray) (l : List α) : after f r l 0 = r := by simp [after]
theorem after_succ (r : ByteArray) (l : List α) (k : Nat) (h : k < l.length) : after f r l (k + 1) = f (after f r l k) l[k] := by
  unfold after; rw [List.take_succ_eq_append_getElem h, List.foldl_append]; rfl
theorem after_congr {r : ByteArray} {l l' : List α} {k : Nat} (h : l.take k = l'.take k) : after f r l k = after f r l' k := by unfold after; rw [h]
/-- The first n of them. -/
def walkL (r : ByteArray) (l : List α) (n : Nat) : List ByteArray := (List.range n).map (after f r l)
theorem walkL_len (r : ByteArray) (l : List α) (n : Nat) : (walkL f r l n).length = n := by simp [walkL]
theorem walkL_zero (r : ByteArray) (l : List α) : walkL f r l 0 = [] := rfl
theorem walkL_one (r : ByteArray) (l : List α) : walkL f r l 1 = [r] := by simp [walkL, after_zero]
theorem walkL_succ (r : ByteArray) (l : List α) (n : Nat) : walkL f r l (n + 1) = walkL f r l n ++ [after f r l n] := by simp [walkL, List.range_succ]
theorem walkL_at (r : ByteArray) (l : List α) (n k : Nat) (h : k < (walkL f r l n).length) : (walkL f r l n)[k] = after f r l k := by simp [walkL]
theorem walkL_take (r : ByteArray) (l : List α) (n k : Nat) (h : k ≤ n) : (walkL f r l n).take k = walkL f r l k := by
  unfold walkL; rw [← List.map_take, List.take_range, Nat.min_eq_left h]
end
/-- A row behind a change of stage n. -/
noncomputable def chF (n : Nat) (r c : ByteArray) : ByteArray := timesS r (chgS n c)
theorem row_times {a b : ByteArray} (ha : isRow a) (hb : isRow b) (h : a.size = b.size) : isRow (timesS a b) := by
  have h1 := hb.1
  have h2 := hb.2.1
  have key : ∀ i : Nat, i < b.size → ∃ k : Nat, k < a.size ∧ bat b i - 49 = (k : Int) ∧ bat (timesS a b) i = bat a k := fun i hi => by
    have := hb.2.2.1 i hi
    refine ⟨(bat b i - 49).toNat, by omega, by omega, ?_⟩
    rw [bat_times a b i hi]
    congr 1
    omega
  refine ⟨by rw [size_times]; exact h1, by rw [size_times]; exact h2, fun i hi => ?_, fun i j hij hj => ?_⟩
  · rw [size_times] at hi ⊢
    obtain ⟨k, hk, _, e⟩ := key i hi
    rw [e]
    have := ha.2.2.1 k hk
    omega
  · rw [size_times] at hj
    obtain ⟨k, hk, ek, e⟩ := key i (by omega)
    obtain ⟨m, hm, em, e2⟩ := key j hj
    rw [e, e2]
    intro hc
    have hkm := ha.inj hk hm hc
    subst hkm
    exact hb.2.2.2 i j hij hj (by omega)
theorem row_chg {n : Nat} (h3 : 3 ≤ n) (h8 : n ≤ 8) (c : ByteArray) : isRow (chgS n c) ∧ (chgS n c).size = n :=
  ⟨ptS_row (swL_bd c n) (swL_sep c n) h3 h8, ptS_size _ _⟩
theorem row_rounds {n : Nat} (h3 : 3 ≤ n) (h8 : n ≤ 8) : isRow (roundsS n) ∧ (roundsS n).size = n := by
  have hs : (roundsS (n : Int)).size = n := by rw [roundsS_size (by omega) (by omega)]; omega
  refine ⟨⟨by omega, by omega, fun i hi => ?_, fun i j hij hj => ?_⟩, hs⟩
  · rw [hs] at hi ⊢; rw [rounds_bat hi h8]; omega
  · rw [hs] at hj; rw [rounds_bat (by omega) h8, rounds_bat hj h8]; omega
def rowN (n : Nat) (r : ByteArray) : Prop := isRow r ∧ r.size = n
theorem chF_row {n : Nat} (h3 : 3 ≤ n) (h8 : n ≤ 8) {r : ByteArray} (hr : rowN n r) (c : ByteArray) : rowN n (chF n r c) := by
  obtain ⟨h1, h2⟩ := row_chg h3 h8 c
  exact ⟨row_times hr.1 h1 (by rw [hr.2, h2]), by unfold chF; rw [size_times, h2]⟩
theorem after_rowN {α : Type} {n : Nat} {f : ByteArray → α → ByteArray} {l : List α} (hf : ∀ r, rowN n r → ∀ x ∈ l, rowN n (f r x)) {r : ByteArray} (hr : rowN n r) : ∀ k, rowN n (after f r l k) := by
  intro k
  induction k with
  | zero => rw [after_zero]; exact hr
  | succ k ih =>
    by_cases h : k < l.length
    · rw [after_succ f r l k h]; exact hf _ ih _ (List.getElem_mem h)
    · have e : after f r l (k + 1) = after f r l k := by
        unfold after; rw [List.take_of_length_le (show l.length ≤ k + 1 by omega), List.take_of_length_le (show l.length ≤ k by omega)]
      rw [e]; exact ih
/-- The lead head of a lead with a call. -/
noncomputable def hdS (n : Nat) (x : List ByteArray) (b s call : ByteArray) : ByteArray := after (chF n) (roundsS n) (calledX x b s call) x.length
/-- The change that a call makes of the last one. -/
def lastC (x : List ByteArray) (b s call : ByteArray) : ByteArray := if call.toList = [98] then b else if call.toList = [115] then s else x.getD (x.length - 1) ByteArray.empty
theorem calledX_last {x : List ByteArray} {b s call : ByteArray} (h : 0 < x.length) : (calledX x b s call)[x.length - 1]'(by rw [calledX_len]; omega) = lastC x b s call := by
  have hg : ∀ (i : Nat) (hi : i < (calledX x b s call).length), (calledX x b s call)[i] = (calledX x b s call).getD i ByteArray.empty := fun i hi => by rw [List.getD_eq_getElem?_getD, List.getElem?_eq_getElem hi]; rfl
  rw [hg]
  unfold calledX lastC
  split
  · rw [List.getD_eq_getElem?_getD, List.getElem?_set_self (by omega)]; rfl
  · split
    · rw [List.getD_eq_getElem?_getD, List.getElem?_set_self (by omega)]; rfl
    · rfl
theorem calledX_take {x : List ByteArray} {b s call : ByteArray} : (calledX x b s call).take (x.length - 1) = x.take (x.length - 1) := by
  unfold calledX
  split
  · rw [List.take_set_of_le (Nat.le_refl _)]
  · split
    · rw [List.take_set_of_le (Nat.le_refl _)]
    · rfl
/-- The head, by the changes up to the last one and the last one. -/
theorem hdS_last {n : Nat} {x : List ByteArray} {b s call : ByteArray} (h : 0 < x.length) : hdS n x b s call = chF n (after (chF n) (roundsS n) x (x.length - 1)) (lastC x b s call) := by
  unfold hdS
  obtain ⟨k, hk⟩ : ∃ k, x.length = k + 1 := ⟨x.length - 1, by omega⟩
  have e := after_succ (chF n) (roundsS n) (calledX x b s call) (x.length - 1) (by rw [calledX_len]; omega)
  rw [show x.length - 1 + 1 = x.length by omega] at e
  rw [e, calledX_last h]
  congr 1
  exact after_congr _ calledX_take
theorem hdS_row {n : Nat} (h3 : 3 ≤ n) (h8 : n ≤ 8) (x : List ByteArray) (b s call : ByteArray) : rowN n (hdS n x b s call) :=
  after_rowN (fun r hr c _ => chF_row h3 h8 hr c) (row_rounds h3 h8) _
/-- The call that a byte stands for. -/
def callOf (v : Int) : ByteArray := mkS [v]
noncomputable def hdF (n : Nat) (x : List ByteArray) (b s : ByteArray) (r : ByteArray) (v : Int) : ByteArray := timesS r (hdS n x b s (callOf v))
/-- The bytes of a string. -/
def batL (t : ByteArray) : List Int := (List.range t.size).map fun i : Nat => bat t i
theorem batL_len (t : ByteArray) : (batL t).length = t.size := by simp [batL]
theorem batL_at (t : ByteArray) (k : Nat) (h : k < (batL t).length) : (batL t)[k] = bat t k := by simp [batL]
theorem hdF_row {n : Nat} (h3 : 3 ≤ n) (h8 : n ≤ 8) (x : List ByteArray) (b s : ByteArray) {r : ByteArray} (hr : rowN n r) (v : Int) : rowN n (hdF n x b s r v) := by
  obtain ⟨h1, h2⟩ := hdS_row h3 h8 x b s (callOf v)
  exact ⟨row_times hr.1 h1 (by rw [hr.2, h2]), by unfold hdF; rw [size_times, h2]⟩
/-- The head behind k leads of a touch. -/
noncomputable def headS (n : Nat) (x : List ByteArray) (b s t : ByteArray) (k : Nat) : ByteArray := after (hdF n x b s) (roundsS n) (batL t) k
noncomputable def headsL (n : Nat) (x : List ByteArray) (b s t : ByteArray) (k : Nat) : List ByteArray := walkL (hdF n x b s) (roundsS n) (batL t) k
theorem headS_succ (n : Nat) (x : List ByteArray) (b s t : ByteArray) (k : Nat) (h : k < t.size) : headS n x b s t (k + 1) = timesS (headS n x b s t k) (hdS n x b s (callOf (bat t k))) := by
  unfold headS
  rw [after_succ _ _ _ k (by rw [batL_len]; exact h), batL_at]; rfl
theorem headS_row {n : Nat} (h3 : 3 ≤ n) (h8 : n ≤ 8) (x : List ByteArray) (b s t : ByteArray) (k : Nat) : rowN n (headS n x b s t k) :=
  after_rowN (fun r hr v _ => hdF_row h3 h8 x b s hr v) (row_rounds h3 h8) _
/-- The touch comes round. -/
def roundP (n : Nat) (x : List ByteArray) (b s t : ByteArray) : Prop := headS n x b s t t.size = roundsS n
theorem callOf_ext {t : ByteArray} {k : Nat} (h : k < t.size) : t.extract k (k + 1) = callOf (bat t k) := by
  refine (str_ext (by unfold callOf; rw [size_mkS, size_ext]; simp; omega) fun i hi => ?_)
  rw [size_ext] at hi
  obtain rfl : i = 0 := by omega
  rw [bat_ext t k (k + 1) 0 (by omega)]
  unfold callOf
  rw [bat_mkS [bat t k] 0 (by simp) (by simpa using bat_lo _ _) (by simpa using bat_hi _ _)]
  rfl
end Go.Proofs.YtbfhfnejppfehaaGreatDoor

/-
  Words of our own that know no program: a call inside a region that draws.
-/
namespace Go.Proofs.YtbfhfnejppfehaaGreatDoor
open Go.RowKit
set_option linter.unusedVariables false
set_option linter.unusedSimpArgs false

section
variable {P : Program} {ops : Array Oper} {o : Oper} {a : Act} {K : Act → World → Prop} {Q : Exit → Act → World → Prop} {w : World} {E : Prop}
/-- A call inside a region that draws, by a contract that names its result only so far. -/
theorem step_callsX (hg : o.guard = none) (f : FuncId) {xs : Array Operand} {ts : Array TypeId} (ho : o.op = .call { callee := .value (.func f), args := xs, argTypes := ts }) (vals : Array Value) {R : Value → World → Prop} (henter : (execOp a.eval o).run P w = .ok (.enter f vals) w)
    (h : Calls P f vals w fun e w' => ∃ v, e = .returned v ∧ R v w') (hK : ∀ v w', R v w' → K (a.put o.dst v) w') : if Region.wanted o (yielded ops a.tmps) = true then Oper.wp P o a w K Q else E := by
  rw [if_pos (by simp [Region.wanted, hg])]
  unfold Oper.wp
  rw [henter, Oper.upon_enter]
  exact h.mono fun e w' ⟨v, he, hr⟩ => by subst he; exact hK v w' hr
end
end Go.Proofs.YtbfhfnejppfehaaGreatDoor
