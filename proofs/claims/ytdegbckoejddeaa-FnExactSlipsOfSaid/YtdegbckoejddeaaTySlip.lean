/-
  Contracts of the helper functions that the laws use for lists of Slip.
-/
import Derived.Test.YtdegbckoejddeaaRows
import Derived.Test.YtdegbckoejddeaaMark
import Derived.Test.YtdegbckoejddeaaOpen
import Derived.StillTailTactics
import Derived.Deep.RegionHeld3
namespace Go.Proofs.Ytdegbckoejddeaa
open Go.RowKit Go.ChangeShapes Go.WideShapes
set_option linter.unusedVariables false
set_option linter.unusedSimpArgs false
set_option maxRecDepth 100000


structure Slp where
  row : Int
  a : Int
  b : Int

def Slp.enc (x : Slp) : List Value := [.int .i64 x.row, .int .i64 x.a, .int .i64 x.b]
theorem Slp_enc_len (x : Slp) : (Slp.enc x).length = 3 := rfl
def Slip_small (lim : Int) (x : Slp) : Prop := True
theorem Slip_info : (Try.prog.info? 122).map (fun i => (i.zero, i.size, i.bytes)) = some (some (.agg #[.int .i64 0, .int .i64 0, .int .i64 0]), 3, 24) := by kernel_rfl

theorem Slip_el {H : Type} {en : TypeId × Value → H} {w : World} {base : Nat} {spare : Nat → Bool} {held : Bool} (n : Nat) (cs : List Value) (y : DataW H × List MemPlace) (h : DataW.trod en Try.prog w base spare held n 124 cs = some y) : ∃ x : Slp, cs = Slp.enc x ∧ Slip_small 9223372036854775807 x := by
  obtain ⟨xs, m, _, _, hlen, hxl, hg⟩ := DataW.trod_struct Try.underlying124 h
  have hC : Try.prog.cellsOf 124 = 3 := by kernel_rfl
  have hC_int : Try.prog.cellsOf 3 = 1 := by kernel_rfl
  rw [hC] at hlen
  match cs, hlen, xs, hxl with
  | [c0, c1, c2], _, [x0, x1, x2], _ =>
    have g0 := hg 0 _ rfl
    simp only [hC_int, List.drop_zero, List.drop_succ_cons, List.take_succ_cons, List.take_zero, List.getElem?_cons_zero, List.getElem?_cons_succ] at g0
    obtain ⟨a0, e0, _, _⟩ := DataW.trod_int Try.underlying3 g0
    injection e0 with e0 _
    subst e0
    have g1 := hg 1 _ rfl
    simp only [hC_int, List.drop_zero, List.drop_succ_cons, List.take_succ_cons, List.take_zero, List.getElem?_cons_zero, List.getElem?_cons_succ] at g1
    obtain ⟨a1, e1, _, _⟩ := DataW.trod_int Try.underlying3 g1
    injection e1 with e1 _
    subst e1
    have g2 := hg 2 _ rfl
    simp only [hC_int, List.drop_zero, List.drop_succ_cons, List.take_succ_cons, List.take_zero, List.getElem?_cons_zero, List.getElem?_cons_succ] at g2
    obtain ⟨a2, e2, _, _⟩ := DataW.trod_int Try.underlying3 g2
    injection e2 with e2 _
    subst e2
    exact ⟨⟨a0, a1, a2⟩, rfl, trivial⟩

theorem szSlipS_any (l : List Slp) (A : Option Addr) (c : Nat) (left : Int) (w : World) (hl : l.length ≤ 9223372036854775807) (h1 : 0 ≤ left) (h2 : left ≤ 1048576) :
    Calls Try.prog 32 #[.slice A l.length c, .int .i64 left] w fun e w' => ∃ r, e = .returned (.int .i64 r) ∧ SzOk r left l.length (∀ x ∈ l, Slip_small left x) ∧ Below w.heap.size w w' := by
  by_cases hn : left < l.length
  · go_enter Try.func32, Try.ntmps32
    go_wp2
    go_ret
    exact ⟨_, rfl, .inl (by omega), Below.refl _ _⟩
  · go_enter Try.func32, Try.ntmps32
    go_wp2
    go_ret
    exact ⟨_, rfl, .inr ⟨by omega, by omega, by omega, fun _ _ => trivial⟩, Below.refl _ _⟩

theorem toSlip_any (x : Slp) (w : World) :
    Calls Try.prog 100 #[.agg #[.int .i64 x.row, .int .i64 x.a, .int .i64 x.b]] w fun e w' => e = .returned (.agg #[.int .i64 x.row, .int .i64 x.a, .int .i64 x.b]) ∧ Below w.heap.size w w' := by
  go_enter Try.func100, Try.ntmps100
  go_wp2
  refine bodyPost_ret (v := .agg #[.int .i64 x.row, .int .i64 x.a, .int .i64 x.b]) (by simp [results, Try.results100, go_sem]) rfl ⟨rfl, ?_⟩
  exact (((Below.refl _ _).alloc (Nat.le_refl _) _).alloc (by simp) _).alloc (by simp <;> omega) _

set_option maxHeartbeats 800000 in
theorem toSlipS_any (l : List Slp) (A : Option Addr) (c : Nat) (w : World) (h : RdL w w.heap.size A 3 Slp.enc l) (hl : l.length ≤ 1048576) :
    Calls Try.prog 35 #[.slice A l.length c] w fun e w' => ∃ A', e = .returned (.slice A' l.length l.length) ∧ OwnL w' w.heap.size w'.heap.size A' 3 Slp.enc l ∧ Below w.heap.size w w' := by
  go_enter Try.func35, Try.ntmps35
  go_wp2_with (refine wpList_make_cellsN rfl 52 _ rfl 122 _ 3 24 rfl Slip_info rfl .i64 l.length rfl (by omega) (by omega) ?_; intro w1 hc1 hb1)
  go_loopw [4] (fun i wr => ∃ k : Nat, k ≤ l.length ∧ i = .int .i64 k ∧ Cells wr w.heap.size (l.length * 3) (fill Slp.enc 3 l (fun i => (Value.agg #[.int .i64 0, .int .i64 0, .int .i64 0]).cells.getD (i % 3) undef) k) ∧ Below w.heap.size w wr) (fun i _ => l.length - (intOf i).toNat)
  case atStart => exact ⟨0, by omega, by rfl, by rw [fill_zero]; exact hc1, hb1⟩
  case round =>
    obtain ⟨k, hk, rfl, hc, hbl⟩ := hrel
    have Hc := Lib.hid hc
    have Hbl := Lib.hid hbl
    have hgs : w.heap.size < wr.heap.size := hc.lt
    clear hc hbl hc1 hb1
    by_cases hlt : k < l.length
    · obtain ⟨g, off, hA, hg, hcell⟩ := h.at hlt
      subst hA
      have r0 := (Hbl.out.cell (p := ⟨g, off + k * 3, none⟩) hg).trans (hcell 0 _ rfl)
      have r1 := (Hbl.out.cell (p := ⟨g, off + k * 3 + 1, none⟩) hg).trans (hcell 1 _ rfl)
      have r2 := (Hbl.out.cell (p := ⟨g, off + k * 3 + 2, none⟩) hg).trans (hcell 2 _ rfl)
      obtain ⟨x, hx⟩ : ∃ x, Hid (l[k] = x) := ⟨l[k], Lib.hid rfl⟩
      rw [hx.out] at r0 r1 r2
      clear hcell h
      go_wp2_with (go_at_call 100; refine (toSlip_any x _).mono ?_; rintro e w' ⟨rfl, hb2⟩; have q0 := (Hc.out.later hb2).cell (i := k * 3) (by omega); have f0 := (Hc.out.later hb2).free (i := k * 3) (by omega); have q1 := (Hc.out.later hb2).cell (i := k * 3 + 1) (by omega); have f1 := (Hc.out.later hb2).free (i := k * 3 + 1) (by omega); have q2 := (Hc.out.later hb2).cell (i := k * 3 + 2) (by omega); have f2 := (Hc.out.later hb2).free (i := k * 3 + 2) (by omega))
      go_roundw
      case rel => exact ⟨k + 1, by omega, by go_num, (Hc.out.later hb2).fillN (by omega) Slp_enc_len hlt rfl [_, _, _] (by rw [hx.out]; rfl), Below.setN (Nat.le_refl _) [_, _, _] (Hbl.out.trans (hb2.mono (by omega)))⟩
      case measure => simp [intOf]; omega
    · go_wp2
      go_ret
      exact ⟨_, rfl, OwnL.of_fill Hc.out (by omega) (Nat.le_refl _) Hc.out.lt Slp_enc_len, Hbl.out⟩

theorem eqSlip_t (x : Slp) (w : World) :
    Calls Try.prog 103 #[.agg #[.int .i64 x.row, .int .i64 x.a, .int .i64 x.b], .agg #[.int .i64 x.row, .int .i64 x.a, .int .i64 x.b]] w fun e w' => e = .returned (.bool true) ∧ Below w.heap.size w w' := by
  go_enter Try.func103, Try.ntmps103
  go_wp2
  go_ret
  exact ⟨rfl, ((Below.refl _ _).alloc (Nat.le_refl _) _).alloc (by simp) _⟩

set_option maxHeartbeats 800000 in
theorem eqSlipS_t (l : List Slp) (A A' : Option Addr) (c c' : Nat) (w : World) (h : RdL w w.heap.size A 3 Slp.enc l) (h' : RdL w w.heap.size A' 3 Slp.enc l) (hl : l.length ≤ 4611686018427387904) :
    Calls Try.prog 38 #[.slice A l.length c, .slice A' l.length c'] w fun e w' => e = .returned (.bool true) ∧ Below w.heap.size w w' := by
  go_enter Try.func38, Try.ntmps38
  go_wp2
  go_loopw [5] (fun i wr => ∃ k : Nat, k ≤ l.length ∧ i = .int .i64 k ∧ Below w.heap.size w wr) (fun i _ => l.length - (intOf i).toNat)
  case atStart => exact ⟨0, by omega, by rfl, Below.refl _ _⟩
  case round =>
    obtain ⟨k, hk, rfl, hbl⟩ := hrel
    have Hbl := Lib.hid hbl
    clear hbl
    by_cases hlt : k < l.length
    · obtain ⟨g, off, hA, hg, hcell⟩ := h.at hlt
      obtain ⟨g', off', hA', hg', hcell'⟩ := h'.at hlt
      subst hA hA'
      have r0 := (Hbl.out.cell (p := ⟨g, off + k * 3, none⟩) hg).trans (hcell 0 _ rfl)
      have r1 := (Hbl.out.cell (p := ⟨g, off + k * 3 + 1, none⟩) hg).trans (hcell 1 _ rfl)
      have r2 := (Hbl.out.cell (p := ⟨g, off + k * 3 + 2, none⟩) hg).trans (hcell 2 _ rfl)
      have q0 := (Hbl.out.cell (p := ⟨g', off' + k * 3, none⟩) hg').trans (hcell' 0 _ rfl)
      have q1 := (Hbl.out.cell (p := ⟨g', off' + k * 3 + 1, none⟩) hg').trans (hcell' 1 _ rfl)
      have q2 := (Hbl.out.cell (p := ⟨g', off' + k * 3 + 2, none⟩) hg').trans (hcell' 2 _ rfl)
      clear hcell hcell' h h'
      generalize l[k] = x at r0 q0 r1 q1 r2 q2
      go_wp2
      go_still_tail 8, (by kernel_rfl)
      change wpList _ _ _ _ _ wr.drew
      have Hbl2 := Lib.hid Hbl.out.drew
      generalize wr.drew = w2 at *
      have hgs2 := Hbl2.out.size
      go_wp2_with (go_at_call 103; refine (eqSlip_t x _).mono ?_; rintro e w' ⟨rfl, hb2⟩)
      go_roundw
      case rel => exact ⟨k + 1, by omega, by go_num, Hbl2.out.trans (hb2.mono hgs2)⟩
      case measure => simp [intOf]; omega
    · go_wp2
      go_ret
      exact ⟨rfl, Hbl.out⟩

/-- What the marks make of a list of so many elements. -/
def markSlipL (m q : Nat) : List Slp := (List.range m).map fun i : Nat => (⟨((q + i * 3 : Nat) : Int), ((q + i * 3 + 1 : Nat) : Int), ((q + i * 3 + 2 : Nat) : Int)⟩ : Slp)
theorem markSlipL_len (m q : Nat) : (markSlipL m q).length = m := by simp [markSlipL]
theorem markSlipL_at (m q i : Nat) (hi : i < (markSlipL m q).length) : (markSlipL m q)[i] = (⟨((q + i * 3 : Nat) : Int), ((q + i * 3 + 1 : Nat) : Int), ((q + i * 3 + 2 : Nat) : Int)⟩ : Slp) := by simp [markSlipL]
set_option maxHeartbeats 1600000 in
theorem markSlipS_any (l : List Slp) (b d : Nat) (A : Option Addr) (c q : Nat) (w : World) (h : OwnL w b d A 3 Slp.enc l) (hl : l.length ≤ 1048576) (hq0 : 0 < q) (hq : q ≤ 100000000000) :
    Calls Try.prog 40 #[.slice A l.length c, .int .i64 q] w fun e w' => e = .returned (.int .i64 ((q + l.length * 3 : Nat) : Int)) ∧ OwnL w' b d A 3 Slp.enc (markSlipL l.length q) ∧ Chg b d w w' := by
  rcases Nat.eq_zero_or_pos l.length with h0 | hpos
  · have e0 : l = [] := List.eq_nil_of_length_eq_zero h0
    subst e0
    go_enter Try.func40, Try.ntmps40
    go_wp2
    go_loop [1, 5] (fun v i => v = .int .i64 q ∧ i = .int .i64 0) (fun _ _ => 0)
    case atStart => exact ⟨rfl, rfl⟩
    case round =>
      obtain ⟨rfl, rfl⟩ := hrel
      go_wp2
      go_ret
      exact ⟨by simp, .inl rfl, Chg.refl _ _ _⟩
  · obtain ⟨g, f, hA, hgb, hgc, hc0⟩ := h.cells hpos
    subst hA
    have HC0 := Lib.hid hc0
    clear hc0
    have em : (markSlipL l.length q).length = l.length := markSlipL_len _ _
    have Em := Lib.hid em
    clear em
    go_enter Try.func40, Try.ntmps40
    go_wp2
    go_loopw [1, 5] (fun v i wr => ∃ k : Nat, k ≤ l.length ∧ i = .int .i64 k ∧ v = .int .i64 ((q + k * 3 : Nat) : Int) ∧ Cells wr g (l.length * 3) (fill Slp.enc 3 (markSlipL l.length q) f k) ∧ Chg b d w wr) (fun _ i _ => l.length - (intOf i).toNat)
    case atStart => exact ⟨0, by omega, by rfl, by simp, by rw [fill_zero]; exact HC0.out, Chg.refl _ _ _⟩
    case round =>
      obtain ⟨k, hk, rfl, rfl, hc, hch⟩ := hrel
      have Hc := Lib.hid hc
      have Hch := Lib.hid hch
      clear hc hch h
      by_cases hlt : k < l.length
      · have q0 := Hc.out.cell (i := k * 3) (by omega)
        have f0 := Hc.out.free (i := k * 3) (by omega)
        have q1 := Hc.out.cell (i := k * 3 + 1) (by omega)
        have f1 := Hc.out.free (i := k * 3 + 1) (by omega)
        have q2 := Hc.out.cell (i := k * 3 + 2) (by omega)
        have f2 := Hc.out.free (i := k * 3 + 2) (by omega)
        go_wp2
        go_roundw
        case rel =>
          refine ⟨k + 1, by omega, by go_num, by first | rfl | (congr 1; simp; done) | (congr 1; simp; omega) | (congr 1; omega), ?_, ?_⟩
          · have hC := (((Hc.out.set (i := k * 3) (by omega) (.int .i64 ((q + k * 3 : Nat) : Int))).set (i := k * 3 + 1) (by omega) (.int .i64 ((q + k * 3 + 1 : Nat) : Int))).set (i := k * 3 + 2) (by omega) (.int .i64 ((q + k * 3 + 2 : Nat) : Int)))
            refine hC.as_fill (l := markSlipL l.length q) (p := k * 3) [.int .i64 ((q + k * 3 : Nat) : Int), .int .i64 ((q + k * 3 + 1 : Nat) : Int), .int .i64 ((q + k * 3 + 2 : Nat) : Int)] ?_ (by omega) Slp_enc_len (by rw [Em.out]; exact hlt) (by omega) (by rw [markSlipL_at]; rfl)
            rw [← updN_cons, ← updN_cons, ← updN_cons, updN_nil]
          · exact (((Hch.out.setCell (p := ⟨g, k * 3, none⟩) hgb hgc (.int .i64 ((q + k * 3 : Nat) : Int))).setCell (p := ⟨g, k * 3 + 1, none⟩) hgb hgc (.int .i64 ((q + k * 3 + 1 : Nat) : Int))).setCell (p := ⟨g, k * 3 + 2, none⟩) hgb hgc (.int .i64 ((q + k * 3 + 2 : Nat) : Int)))
        case measure => simp [intOf]; omega
      · go_wp2
        go_ret
        obtain rfl : k = l.length := by omega
        refine ⟨rfl, OwnL.of_fill (l := markSlipL l.length q) (k := l.length) (by rw [Em.out]; exact Hc.out) (by rw [Em.out]; exact Nat.le_refl _) hgb hgc Slp_enc_len, Hch.out⟩

set_option maxHeartbeats 1600000 in
theorem heldSlipS_any (m : Nat) (A : Option Addr) (c q : Nat) (w : World) (h : RdL w w.heap.size A 3 Slp.enc (markSlipL m q)) (hl : m ≤ 1048576) (hq0 : 0 < q) (hq : q ≤ 100000000000) :
    Calls Try.prog 46 #[.slice A m c, .int .i64 q] w fun e w' => e = .returned (.int .i64 ((q + m * 3 : Nat) : Int)) ∧ Below w.heap.size w w' := by
  have em : (markSlipL m q).length = m := markSlipL_len _ _
  have Em := Lib.hid em
  clear em
  go_enter Try.func46, Try.ntmps46
  go_wp2
  go_loopw [1, 5] (fun v i wr => ∃ k : Nat, k ≤ m ∧ i = .int .i64 k ∧ v = .int .i64 ((q + k * 3 : Nat) : Int) ∧ Below w.heap.size w wr) (fun _ i _ => m - (intOf i).toNat)
  case atStart => exact ⟨0, by omega, by rfl, by simp, Below.refl _ _⟩
  case round =>
    obtain ⟨k, hk, rfl, rfl, hbl⟩ := hrel
    have Hbl := Lib.hid hbl
    clear hbl
    by_cases hlt : k < m
    · obtain ⟨g, off, hA, hg, hcell⟩ := h.at (k := k) (by rw [Em.out]; exact hlt)
      subst hA
      have r0 : wr.cell? ⟨g, off + k * 3, none⟩ = some (.int .i64 ((q + k * 3 : Nat) : Int)) := by
          refine (Hbl.out.cell (p := ⟨g, off + k * 3, none⟩) hg).trans ?_
          have := hcell 0 _ (by rw [markSlipL_at]; rfl)
          exact this
      have r1 : wr.cell? ⟨g, off + k * 3 + 1, none⟩ = some (.int .i64 ((q + k * 3 + 1 : Nat) : Int)) := by
          refine (Hbl.out.cell (p := ⟨g, off + k * 3 + 1, none⟩) hg).trans ?_
          have := hcell 1 _ (by rw [markSlipL_at]; rfl)
          exact this
      have r2 : wr.cell? ⟨g, off + k * 3 + 2, none⟩ = some (.int .i64 ((q + k * 3 + 2 : Nat) : Int)) := by
          refine (Hbl.out.cell (p := ⟨g, off + k * 3 + 2, none⟩) hg).trans ?_
          have := hcell 2 _ (by rw [markSlipL_at]; rfl)
          exact this
      have hgw1 : g < wr.heap.size := Nat.lt_of_lt_of_le hg Hbl.out.size
      have hbz1 : w.heap.size ≤ wr.heap.size := Hbl.out.size
      clear hcell h
      go_wp2
      go_roundw
      case rel =>
        exact ⟨k + 1, by omega, by go_num, by first | rfl | (congr 1; simp; done) | (congr 1; simp; omega) | (congr 1; omega), Hbl.out⟩
      case measure => simp [intOf]; omega
    · go_wp2
      go_ret
      obtain rfl : k = m := by omega
      exact ⟨by first | rfl | simp, Hbl.out⟩

end Go.Proofs.Ytdegbckoejddeaa