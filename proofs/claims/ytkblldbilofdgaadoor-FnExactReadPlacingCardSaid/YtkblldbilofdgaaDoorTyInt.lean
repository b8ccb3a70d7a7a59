/-
  Contracts of the helper functions that the laws use for lists of Int.
-/
import Derived.Test.YtkblldbilofdgaaDoorRows
import Derived.Test.YtkblldbilofdgaaDoorMark
import Derived.Test.YtkblldbilofdgaaDoorOpen
import Derived.StillTailTactics
import Derived.Deep.RegionHeld3
namespace Go.Proofs.YtkblldbilofdgaaDoor
open Go.RowKit Go.ChangeShapes Go.WideShapes
set_option linter.unusedVariables false
set_option linter.unusedSimpArgs false
set_option maxRecDepth 100000


def encInt (x : Int) : List Value := [.int .i64 x]
theorem encInt_len (x : Int) : (encInt x).length = 1 := rfl
def Int_small (lim : Int) (x : Int) : Prop := True
theorem Int_info : (Tryd.prog.info? 3).map (fun i => (i.zero, i.size, i.bytes)) = some (some (.int .i64 0), 1, 8) := by kernel_rfl

theorem Int_el {H : Type} {en : TypeId × Value → H} {w : World} {base : Nat} {spare : Nat → Bool} {held : Bool} (n : Nat) (cs : List Value) (y : DataW H × List MemPlace) (h : DataW.trod en Tryd.prog w base spare held n 3 cs = some y) : ∃ x : Int, cs = encInt x ∧ Int_small 9223372036854775807 x := by
  obtain ⟨a, rfl, _, _⟩ := DataW.trod_int Tryd.underlying3 h
  exact ⟨a, rfl, trivial⟩

theorem szIntS_any (l : List Int) (A : Option Addr) (c : Nat) (left : Int) (w : World) (hl : l.length ≤ 9223372036854775807) (h1 : 0 ≤ left) (h2 : left ≤ 1048576) :
    Calls Tryd.prog 27 #[.slice A l.length c, .int .i64 left] w fun e w' => ∃ r, e = .returned (.int .i64 r) ∧ SzOk r left l.length (∀ x ∈ l, Int_small left x) ∧ Below w.heap.size w w' := by
  by_cases hn : left < l.length
  · go_enter Tryd.func27, Tryd.ntmps27
    go_wp2
    go_ret
    exact ⟨_, rfl, .inl (by omega), Below.refl _ _⟩
  · go_enter Tryd.func27, Tryd.ntmps27
    go_wp2
    go_ret
    exact ⟨_, rfl, .inr ⟨by omega, by omega, by omega, fun _ _ => trivial⟩, Below.refl _ _⟩

set_option maxHeartbeats 800000 in
theorem toIntS_any (l : List Int) (A : Option Addr) (c : Nat) (w : World) (h : RdL w w.heap.size A 1 encInt l) (hl : l.length ≤ 1048576) :
    Calls Tryd.prog 33 #[.slice A l.length c] w fun e w' => ∃ A', e = .returned (.slice A' l.length l.length) ∧ OwnL w' w.heap.size w'.heap.size A' 1 encInt l ∧ Below w.heap.size w w' := by
  go_enter Tryd.func33, Tryd.ntmps33
  go_wp2_with (refine wpList_make_cellsN rfl 24 _ rfl 3 _ 1 8 rfl Int_info rfl .i64 l.length rfl (by omega) (by omega) ?_; intro w1 hc1 hb1)
  go_loopw [4] (fun i wr => ∃ k : Nat, k ≤ l.length ∧ i = .int .i64 k ∧ Cells wr w.heap.size (l.length * 1) (fill encInt 1 l (fun i => (Value.int .i64 0).cells.getD (i % 1) undef) k) ∧ Below w.heap.size w wr) (fun i _ => l.length - (intOf i).toNat)
  case atStart => exact ⟨0, by omega, by rfl, by rw [fill_zero]; exact hc1, hb1⟩
  case round =>
    obtain ⟨k, hk, rfl, hc, hbl⟩ := hrel
    have Hc := Lib.hid hc
    have Hbl := Lib.hid hbl
    have hgs : w.heap.size < wr.heap.size := hc.lt
    clear hc hbl hc1 hb1
    by_cases hlt : k < l.length
    · obtain ⟨g, off, hA, hg, hcell⟩ := h.at hlt
      subst hA
      have r0 : wr.cell? ⟨g, off + k, none⟩ = some (.int .i64 l[k]) := (Hbl.out.cell (p := ⟨g, off + k, none⟩) hg).trans (by have := hcell 0 _ rfl; rw [Nat.mul_one] at this; exact this)
      obtain ⟨x, hx⟩ : ∃ x, Hid (l[k] = x) := ⟨l[k], Lib.hid rfl⟩
      rw [hx.out] at r0
      clear hcell h
      have q0 := Hc.out.cell (i := k) (by omega)
      have f0 := Hc.out.free (i := k) (by omega)
      go_wp2
      go_roundw
      case rel => exact ⟨k + 1, by omega, by go_num, Hc.out.fillN (by omega) encInt_len hlt (by omega) [_] (by rw [hx.out]; rfl), Below.setN (Nat.le_refl _) [_] Hbl.out⟩
      case measure => simp [intOf]; omega
    · go_wp2
      go_ret
      exact ⟨_, rfl, OwnL.of_fill Hc.out (by omega) (Nat.le_refl _) Hc.out.lt encInt_len, Hbl.out⟩

set_option maxHeartbeats 800000 in
theorem eqIntS_t (l : List Int) (A A' : Option Addr) (c c' : Nat) (w : World) (h : RdL w w.heap.size A 1 encInt l) (h' : RdL w w.heap.size A' 1 encInt l) (hl : l.length ≤ 4611686018427387904) :
    Calls Tryd.prog 8 #[.slice A l.length c, .slice A' l.length c'] w fun e w' => e = .returned (.bool true) ∧ Below w.heap.size w w' := by
  go_enter Tryd.func8, Tryd.ntmps8
  go_wp2
  go_loopw [5] (fun i wr => ∃ k : Nat, k ≤ l.length ∧ i = .int .i64 k ∧ Below w.heap.size w wr) (fun i _ => l.length - (intOf i).toNat)
  case atStart => exact ⟨0, by omega, by rfl, Below.refl _ _⟩
  case round =>
    obtain ⟨k, hk, rfl, hbl⟩ := hrel
    have Hbl := Lib.hid hbl
    clear hbl
    by_cases hlt : k < l.length
    · obtain ⟨g, off, hA, hg, hcell⟩ := h.at hlt
      obtain ⟨g', off', hA', hg', hcell'⟩ := h'.at hlt
      subst hA hA'
      have r0 : wr.cell? ⟨g, off + k, none⟩ = some (.int .i64 l[k]) := (Hbl.out.cell (p := ⟨g, off + k, none⟩) hg).trans (by have := hcell 0 _ rfl; rw [Nat.mul_one] at this; exact this)
      have q0 : wr.cell? ⟨g', off' + k, none⟩ = some (.int .i64 l[k]) := (Hbl.out.cell (p := ⟨g', off' + k, none⟩) hg').trans (by have := hcell' 0 _ rfl; rw [Nat.mul_one] at this; exact this)
      clear hcell hcell' h h'
      generalize l[k] = x at r0 q0
      go_wp2
      go_quiet (fail)
      go_wp2
      go_roundw
      case rel => exact ⟨k + 1, by omega, by go_num, below_drewN Hbl.out _⟩
      case measure => simp [intOf]; omega
    · go_wp2
      go_ret
      exact ⟨rfl, Hbl.out⟩

/-- What the marks make of a list of so many elements. -/
def markIntL (m q : Nat) : List Int := (List.range m).map fun i : Nat => (((q + i : Nat) : Int) : Int)
theorem markIntL_len (m q : Nat) : (markIntL m q).length = m := by simp [markIntL]
theorem markIntL_at (m q i : Nat) (hi : i < (markIntL m q).length) : (markIntL m q)[i] = (((q + i : Nat) : Int) : Int) := by simp [markIntL]
set_option maxHeartbeats 1600000 in
theorem markIntS_any (l : List Int) (b d : Nat) (A : Option Addr) (c q : Nat) (w : World) (h : OwnL w b d A 1 encInt l) (hl : l.length ≤ 1048576) (hq0 : 0 < q) (hq : q ≤ 100000000000) :
    Calls Tryd.prog 11 #[.slice A l.length c, .int .i64 q] w fun e w' => e = .returned (.int .i64 ((q + l.length * 1 : Nat) : Int)) ∧ OwnL w' b d A 1 encInt (markIntL l.length q) ∧ Chg b d w w' := by
  rcases Nat.eq_zero_or_pos l.length with h0 | hpos
  · have e0 : l = [] := List.eq_nil_of_length_eq_zero h0
    subst e0
    go_enter Tryd.func11, Tryd.ntmps11
    go_wp2
    go_loop [1, 5] (fun v i => v = .int .i64 q ∧ i = .int .i64 0) (fun _ _ => 0)
    case atStart => exact ⟨rfl, rfl⟩
    case round =>
      obtain ⟨rfl, rfl⟩ := hrel
      go_wp2
      go_ret
      exact ⟨by simp, .inl rfl, Chg.refl _ _ _⟩
  · obtain ⟨g, f, hA, hgb, hgc, hc0⟩ := h.cells hpos
    subst hA
    have HC0 := Lib.hid hc0
    clear hc0
    have em : (markIntL l.length q).length = l.length := markIntL_len _ _
    have Em := Lib.hid em
    clear em
    go_enter Tryd.func11, Tryd.ntmps11
    go_wp2
    go_loopw [1, 5] (fun v i wr => ∃ k : Nat, k ≤ l.length ∧ i = .int .i64 k ∧ v = .int .i64 ((q + k : Nat) : Int) ∧ Cells wr g (l.length * 1) (fill encInt 1 (markIntL l.length q) f k) ∧ Chg b d w wr) (fun _ i _ => l.length - (intOf i).toNat)
    case atStart => exact ⟨0, by omega, by rfl, by simp, by rw [fill_zero]; exact HC0.out, Chg.refl _ _ _⟩
    case round =>
      obtain ⟨k, hk, rfl, rfl, hc, hch⟩ := hrel
      have Hc := Lib.hid hc
      have Hch := Lib.hid hch
      clear hc hch h
      by_cases hlt : k < l.length
      · have q0 := Hc.out.cell (i := k) (by omega)
        have f0 := Hc.out.free (i := k) (by omega)
        go_wp2
        go_roundw
        case rel =>
          refine ⟨k + 1, by omega, by go_num, by first | rfl | (congr 1; simp; done) | (congr 1; simp; omega) | (congr 1; omega), ?_, ?_⟩
          · have hC := (Hc.out.set (i := k) (by omega) (.int .i64 ((q + k : Nat) : Int)))
            refine hC.as_fill (l := markIntL l.length q) (p := k) [.int .i64 ((q + k : Nat) : Int)] ?_ (by omega) encInt_len (by rw [Em.out]; exact hlt) (by omega) (by rw [markIntL_at]; rfl)
            rw [← updN_cons, updN_nil]
          · exact (Hch.out.setCell (p := ⟨g, k, none⟩) hgb hgc (.int .i64 ((q + k : Nat) : Int)))
        case measure => simp [intOf]; omega
      · go_wp2
        go_ret
        obtain rfl : k = l.length := by omega
        refine ⟨by simp, OwnL.of_fill (l := markIntL l.length q) (k := l.length) (by rw [Em.out]; exact Hc.out) (by rw [Em.out]; exact Nat.le_refl _) hgb hgc encInt_len, Hch.out⟩

set_option maxHeartbeats 1600000 in
theorem heldIntS_any (m : Nat) (A : Option Addr) (c q : Nat) (w : World) (h : RdL w w.heap.size A 1 encInt (markIntL m q)) (hl : m ≤ 1048576) (hq0 : 0 < q) (hq : q ≤ 100000000000) :
    Calls Tryd.prog 12 #[.slice A m c, .int .i64 q] w fun e w' => e = .returned (.int .i64 ((q + m * 1 : Nat) : Int)) ∧ Below w.heap.size w w' := by
  have em : (markIntL m q).length = m := markIntL_len _ _
  have Em := Lib.hid em
  clear em
  go_enter Tryd.func12, Tryd.ntmps12
  go_wp2
  go_loopw [1, 5] (fun v i wr => ∃ k : Nat, k ≤ m ∧ i = .int .i64 k ∧ v = .int .i64 ((q + k : Nat) : Int) ∧ Below w.heap.size w wr) (fun _ i _ => m - (intOf i).toNat)
  case atStart => exact ⟨0, by omega, by rfl, by simp, Below.refl _ _⟩
  case round =>
    obtain ⟨k, hk, rfl, rfl, hbl⟩ := hrel
    have Hbl := Lib.hid hbl
    clear hbl
    by_cases hlt : k < m
    · obtain ⟨g, off, hA, hg, hcell⟩ := h.at (k := k) (by rw [Em.out]; exact hlt)
      subst hA
      have r0 : wr.cell? ⟨g, off + k, none⟩ = some (.int .i64 ((q + k : Nat) : Int)) := by
          refine (Hbl.out.cell (p := ⟨g, off + k, none⟩) hg).trans ?_
          have := hcell 0 _ (by rw [markIntL_at]; rfl)
          rw [Nat.mul_one] at this; exact this
      have hgw1 : g < wr.heap.size := Nat.lt_of_lt_of_le hg Hbl.out.size
      have hbz1 : w.heap.size ≤ wr.heap.size := Hbl.out.size
      clear hcell h
      go_wp2
      go_roundw
      case rel =>
        exact ⟨k + 1, by omega, by go_num, by first | rfl | (congr 1; simp; done) | (congr 1; simp; omega) | (congr 1; omega), Hbl.out⟩
      case measure => simp [intOf]; omega
    · go_wp2
      go_ret
      obtain rfl : k = m := by omega
      exact ⟨by first | rfl | simp, Hbl.out⟩

end Go.Proofs.YtkblldbilofdgaaDoor