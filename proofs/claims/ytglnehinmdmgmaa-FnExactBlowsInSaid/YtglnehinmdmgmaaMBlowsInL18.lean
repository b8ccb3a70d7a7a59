import Derived.Test.YtglnehinmdmgmaaRows
import Derived.Test.YtglnehinmdmgmaaMBlowsInL05
import Derived.StillTailTactics
import Derived.Deep.RegionHeld3
/-
  Contracts of the helper functions that the laws use for lists of Blow.
-/
namespace Go.Proofs.Ytglnehinmdmgmaa
open Go.RowKit Go.ChangeShapes Go.WideShapes
set_option linter.unusedVariables false
set_option linter.unusedSimpArgs false
set_option maxRecDepth 100000


structure Blw where
  row : Int
  place : Int
  at_ : Int

def Blw.enc (x : Blw) : List Value := [.int .i64 x.row, .int .i64 x.place, .int .i64 x.at_]
theorem Blw_enc_len (x : Blw) : (Blw.enc x).length = 3 := rfl
def Blow_small (lim : Int) (x : Blw) : Prop := True
theorem Blow_info : (Try.prog.info? 54).map (fun i => (i.zero, i.size, i.bytes)) = some (some (.agg #[.int .i64 0, .int .i64 0, .int .i64 0]), 3, 24) := by kernel_rfl

theorem eqBlow_t (x : Blw) (w : World) :
    Calls Try.prog 34 #[.agg #[.int .i64 x.row, .int .i64 x.place, .int .i64 x.at_], .agg #[.int .i64 x.row, .int .i64 x.place, .int .i64 x.at_]] w fun e w' => e = .returned (.bool true) ∧ Below w.heap.size w w' := by
  go_enter Try.func34, Try.ntmps34
  go_wp2
  go_ret
  exact ⟨rfl, ((Below.refl _ _).alloc (Nat.le_refl _) _).alloc (by simp) _⟩

set_option maxHeartbeats 800000 in
theorem eqBlowS_t (l : List Blw) (A A' : Option Addr) (c c' : Nat) (w : World) (h : RdL w w.heap.size A 3 Blw.enc l) (h' : RdL w w.heap.size A' 3 Blw.enc l) (hl : l.length ≤ 4611686018427387904) :
    Calls Try.prog 11 #[.slice A l.length c, .slice A' l.length c'] w fun e w' => e = .returned (.bool true) ∧ Below w.heap.size w w' := by
  go_enter Try.func11, Try.ntmps11
  go_wp2
  go_loopw [5] (fun i wr => ∃ k : Nat, k ≤ l.length ∧ i = .int .i64 k ∧ Below w.heap.size w wr) (fun i _ => l.length - (intOf i).toNat)
  case atStart => exact ⟨0, by omega, by rfl, Below.refl _ _⟩
  case round =>
    obtain ⟨k, hk, rfl, hbl⟩ := hrel
    have Hbl := Lib.hid hbl
    clear hbl
    by_cases hlt : k < l.length
    · obtain ⟨g, off, hA, hg, hcell⟩ := h.at hlt
      obtain ⟨g', off', hA', hg', hcell'⟩ := h'.at hlt
      subst hA hA'
      have r0 := (Hbl.out.cell (p := ⟨g, off + k * 3, none⟩) hg).trans (hcell 0 _ rfl)
      have r1 := (Hbl.out.cell (p := ⟨g, off + k * 3 + 1, none⟩) hg).trans (hcell 1 _ rfl)
      have r2 := (Hbl.out.cell (p := ⟨g, off + k * 3 + 2, none⟩) hg).trans (hcell 2 _ rfl)
      have q0 := (Hbl.out.cell (p := ⟨g', off' + k * 3, none⟩) hg').trans (hcell' 0 _ rfl)
      have q1 := (Hbl.out.cell (p := ⟨g', off' + k * 3 + 1, none⟩) hg').trans (hcell' 1 _ rfl)
      have q2 := (Hbl.out.cell (p := ⟨g', off' + k * 3 + 2, none⟩) hg').trans (hcell' 2 _ rfl)
      clear hcell hcell' h h'
      generalize l[k] = x at r0 q0 r1 q1 r2 q2
      go_wp2
      go_still_tail 8, (by kernel_rfl)
      change wpList _ _ _ _ _ wr.drew
      have Hbl2 := Lib.hid Hbl.out.drew
      generalize wr.drew = w2 at *
      have hgs2 := Hbl2.out.size
      go_wp2_with (go_at_call 34; refine (eqBlow_t x _).mono ?_; rintro e w' ⟨rfl, hb2⟩)
      go_roundw
      case rel => exact ⟨k + 1, by omega, by go_num, Hbl2.out.trans (hb2.mono hgs2)⟩
      case measure => simp [intOf]; omega
    · go_wp2
      go_ret
      exact ⟨rfl, Hbl.out⟩

/-- What the marks make of a list of so many elements. -/
def markBlowL (m q : Nat) : List Blw := (List.range m).map fun i : Nat => (⟨((q + i * 3 : Nat) : Int), ((q + i * 3 + 1 : Nat) : Int), ((q + i * 3 + 2 : Nat) : Int)⟩ : Blw)
theorem markBlowL_len (m q : Nat) : (markBlowL m q).length = m := by simp [markBlowL]
theorem markBlowL_at (m q i : Nat) (hi : i < (markBlowL m q).length) : (markBlowL m q)[i] = (⟨((q + i * 3 : Nat) : Int), ((q + i * 3 + 1 : Nat) : Int), ((q + i * 3 + 2 : Nat) : Int)⟩ : Blw) := by simp [markBlowL]
set_option maxHeartbeats 1600000 in
theorem markBlowS_any (l : List Blw) (b d : Nat) (A : Option Addr) (c q : Nat) (w : World) (h : OwnL w b d A 3 Blw.enc l) (hl : l.length ≤ 1048576) (hq0 : 0 < q) (hq : q ≤ 100000000000) :
    Calls Try.prog 16 #[.slice A l.length c, .int .i64 q] w fun e w' => e = .returned (.int .i64 ((q + l.length * 3 : Nat) : Int)) ∧ OwnL w' b d A 3 Blw.enc (markBlowL l.length q) ∧ Chg b d w w' := by
  rcases Nat.eq_zero_or_pos l.length with h0 | hpos
  · have e0 : l = [] := List.eq_nil_of_length_eq_zero h0
    subst e0
    go_enter Try.func16, Try.ntmps16
    go_wp2
    go_loop [1, 5] (fun v i => v = .int .i64 q ∧ i = .int .i64 0) (fun _ _ => 0)
    case atStart => exact ⟨rfl, rfl⟩
    case round =>
      obtain ⟨rfl, rfl⟩ := hrel
      go_wp2
      go_ret
      exact ⟨by simp, .inl rfl, Chg.refl _ _ _⟩
  · obtain ⟨g, f, hA, hgb, hgc, hc0⟩ := h.cells hpos
    subst hA
    have HC0 := Lib.hid hc0
    clear hc0
    have em : (markBlowL l.length q).length = l.length := markBlowL_len _ _
    have Em := Lib.hid em
    clear em
    go_enter Try.func16, Try.ntmps16
    go_wp2
    go_loopw [1, 5] (fun v i wr => ∃ k : Nat, k ≤ l.length ∧ i = .int .i64 k ∧ v = .int .i64 ((q + k * 3 : Nat) : Int) ∧ Cells wr g (l.length * 3) (fill Blw.enc 3 (markBlowL l.length q) f k) ∧ Chg b d w wr) (fun _ i _ => l.length - (intOf i).toNat)
    case atStart => exact ⟨0, by omega, by rfl, by simp, by rw [fill_zero]; exact HC0.out, Chg.refl _ _ _⟩
    case round =>
      obtain ⟨k, hk, rfl, rfl, hc, hch⟩ := hrel
      have Hc := Lib.hid hc
      have Hch := Lib.hid hch
      clear hc hch h
      by_cases hlt : k < l.length
      · have q0 := Hc.out.cell (i := k * 3) (by omega)
        have f0 := Hc.out.free (i := k * 3) (by omega)
        have q1 := Hc.out.cell (i := k * 3 + 1) (by omega)
        have f1 := Hc.out.free (i := k * 3 + 1) (by omega)
        have q2 := Hc.out.cell (i := k * 3 + 2) (by omega)
        have f2 := Hc.out.free (i := k * 3 + 2) (by omega)
        go_wp2
        go_roundw
        case rel =>
          refine ⟨k + 1, by omega, by go_num, by first | rfl | (congr 1; simp; done) | (congr 1; simp; omega) | (congr 1; omega), ?_, ?_⟩
          · have hC := (((Hc.out.set (i := k * 3) (by omega) (.int .i64 ((q + k * 3 : Nat) : Int))).set (i := k * 3 + 1) (by omega) (.int .i64 ((q + k * 3 + 1 : Nat) : Int))).set (i := k * 3 + 2) (by omega) (.int .i64 ((q + k * 3 + 2 : Nat) : Int)))
            refine hC.as_fill (l := markBlowL l.length q) (p := k * 3) [.int .i64 ((q + k * 3 : Nat) : Int), .int .i64 ((q + k * 3 + 1 : Nat) : Int), .int .i64 ((q + k * 3 + 2 : Nat) : Int)] ?_ (by omega) Blw_enc_len (by rw [Em.out]; exact hlt) (by omega) (by rw [markBlowL_at]; rfl)
            rw [← updN_cons, ← updN_cons, ← updN_cons, updN_nil]
          · exact (((Hch.out.setCell (p := ⟨g, k * 3, none⟩) hgb hgc (.int .i64 ((q + k * 3 : Nat) : Int))).setCell (p := ⟨g, k * 3 + 1, none⟩) hgb hgc (.int .i64 ((q + k * 3 + 1 : Nat) : Int))).setCell (p := ⟨g, k * 3 + 2, none⟩) hgb hgc (.int .i64 ((q + k * 3 + 2 : Nat) : Int)))
        case measure => simp [intOf]; omega
      · go_wp2
        go_ret
        obtain rfl : k = l.length := by omega
        refine ⟨rfl, OwnL.of_fill (l := markBlowL l.length q) (k := l.length) (by rw [Em.out]; exact Hc.out) (by rw [Em.out]; exact Nat.le_refl _) hgb hgc Blw_enc_len, Hch.out⟩

set_option maxHeartbeats 1600000 in
theorem heldBlowS_any (m : Nat) (A : Option Addr) (c q : Nat) (w : World) (h : RdL w w.heap.size A 3 Blw.enc (markBlowL m q)) (hl : m ≤ 1048576) (hq0 : 0 < q) (hq : q ≤ 100000000000) :
    Calls Try.prog 17 #[.slice A m c, .int .i64 q] w fun e w' => e = .returned (.int .i64 ((q + m * 3 : Nat) : Int)) ∧ Below w.heap.size w w' := by
  have em : (markBlowL m q).length = m := markBlowL_len _ _
  have Em := Lib.hid em
  clear em
  go_enter Try.func17, Try.ntmps17
  go_wp2
  go_loopw [1, 5] (fun v i wr => ∃ k : Nat, k ≤ m ∧ i = .int .i64 k ∧ v = .int .i64 ((q + k * 3 : Nat) : Int) ∧ Below w.heap.size w wr) (fun _ i _ => m - (intOf i).toNat)
  case atStart => exact ⟨0, by omega, by rfl, by simp, Below.refl _ _⟩
  case round =>
    obtain ⟨k, hk, rfl, rfl, hbl⟩ := hrel
    have Hbl := Lib.hid hbl
    clear hbl
    by_cases hlt : k < m
    · obtain ⟨g, off, hA, hg, hcell⟩ := h.at (k := k) (by rw [Em.out]; exact hlt)
      subst hA
      have r0 : wr.cell? ⟨g, off + k * 3, none⟩ = some (.int .i64 ((q + k * 3 : Nat) : Int)) := by
          refine (Hbl.out.cell (p := ⟨g, off + k * 3, none⟩) hg).trans ?_
          have := hcell 0 _ (by rw [markBlowL_at]; rfl)
          exact this
      have r1 : wr.cell? ⟨g, off + k * 3 + 1, none⟩ = some (.int .i64 ((q + k * 3 + 1 : Nat) : Int)) := by
          refine (Hbl.out.cell (p := ⟨g, off + k * 3 + 1, none⟩) hg).trans ?_
          have := hcell 1 _ (by rw [markBlowL_at]; rfl)
          exact this
      have r2 : wr.cell? ⟨g, off + k * 3 + 2, none⟩ = some (.int .i64 ((q + k * 3 + 2 : Nat) : Int)) := by
          refine (Hbl.out.cell (p := ⟨g, off + k * 3 + 2, none⟩) hg).trans ?_
          have := hcell 2 _ (by rw [markBlowL_at]; rfl)
          exact this
      have hgw1 : g < wr.heap.size := Nat.lt_of_lt_of_le hg Hbl.out.size
      have hbz1 : w.heap.size ≤ wr.heap.size := Hbl.out.size
      clear hcell h
      go_wp2
      go_roundw
      case rel =>
        exact ⟨k + 1, by omega, by go_num, by first | rfl | (congr 1; simp; done) | (congr 1; simp; omega) | (congr 1; omega), Hbl.out⟩
      case measure => simp [intOf]; omega
    · go_wp2
      go_ret
      obtain rfl : k = m := by omega
      exact ⟨by first | rfl | simp, Hbl.out⟩

end Go.Proofs.Ytglnehinmdmgmaa