import Derived.Test.YtglnehinmdmgmaaRows
import Derived.Test.YtglnehinmdmgmaaMBlowsInL05
import Derived.StillTailTactics
import Derived.Deep.RegionHeld3
/-
  Contracts of the helper functions that the laws use for lists of String.
-/
namespace Go.Proofs.Ytglnehinmdmgmaa
open Go.RowKit Go.ChangeShapes Go.WideShapes
set_option linter.unusedVariables false
set_option linter.unusedSimpArgs false
set_option maxRecDepth 100000


def encString (x : ByteArray) : List Value := [.string x]
theorem encString_len (x : ByteArray) : (encString x).length = 1 := rfl
def String_small (lim : Int) (x : ByteArray) : Prop := (x.size : Int) ≤ lim
theorem String_info : (Try.prog.info? 9).map (fun i => (i.zero, i.size, i.bytes)) = some (some (.string ⟨#[]⟩), 1, 16) := by kernel_rfl

theorem String_el {H : Type} {en : TypeId × Value → H} {w : World} {base : Nat} {spare : Nat → Bool} {held : Bool} (n : Nat) (cs : List Value) (y : DataW H × List MemPlace) (h : DataW.trod en Try.prog w base spare held n 9 cs = some y) : ∃ x : ByteArray, cs = encString x ∧ String_small 9223372036854775807 x := by
  obtain ⟨a, rfl, _, ha⟩ := DataW.trod_string Try.underlying9 h
  exact ⟨a, rfl, by unfold String_small; unfold maxLen at ha; omega⟩

set_option maxHeartbeats 800000 in
theorem szStringS_any (l : List ByteArray) (A : Option Addr) (c : Nat) (left : Int) (w : World) (h : RdL w w.heap.size A 1 encString l) (hl : l.length ≤ 9223372036854775807) (h1 : 0 ≤ left) (h2 : left ≤ 1048576) (hs : ∀ x ∈ l, String_small 9223372036854775807 x) :
    Calls Try.prog 4 #[.slice A l.length c, .int .i64 left] w fun e w' => ∃ r, e = .returned (.int .i64 r) ∧ SzOk r left l.length (∀ x ∈ l, String_small left x) ∧ Below w.heap.size w w' := by
  have Hs := Lib.hid hs
  clear hs
  by_cases hn : left < l.length
  · go_enter Try.func4, Try.ntmps4
    go_wp2
    go_ret
    exact ⟨_, rfl, .inl (by omega), Below.refl _ _⟩
  · go_enter Try.func4, Try.ntmps4
    go_wp2
    go_loopw [1, 5] (fun v i wr => ∃ (k : Nat) (r : Int), k ≤ l.length ∧ i = .int .i64 k ∧ v = .int .i64 r ∧ 0 ≤ r ∧ r ≤ left ∧ (∀ (j : Nat) (hj : j < l.length), j < k → String_small left l[j]) ∧ Below w.heap.size w wr) (fun _ i _ => l.length - (intOf i).toNat)
    case atStart => exact ⟨0, left - l.length, by omega, by rfl, rfl, by omega, by omega, fun j _ hj => by omega, Below.refl _ _⟩
    case round =>
      obtain ⟨k, r, hk, rfl, rfl, hr0, hr1, hsm, hbl⟩ := hrel
      have Hbl := Lib.hid hbl
      have Hsm := Lib.hid hsm
      clear hbl hsm
      by_cases hlt : k < l.length
      · obtain ⟨g, off, hA, hg, hcell⟩ := h.at hlt
        subst hA
        have r0 : wr.cell? ⟨g, off + k, none⟩ = some (.string l[k]) := (Hbl.out.cell (p := ⟨g, off + k, none⟩) hg).trans (by have := hcell 0 _ rfl; rw [Nat.mul_one] at this; exact this)
        have hgs := Hbl.out.size
        obtain ⟨x, hx⟩ : ∃ x, Hid (l[k] = x) := ⟨l[k], Lib.hid rfl⟩
        have hxs : String_small 9223372036854775807 x := by have := Hs.out _ (List.getElem_mem hlt); rw [hx.out] at this; exact this
        rw [hx.out] at r0
        clear hcell h

        simp only [String_small] at hxs
        by_cases hc : r < x.size
        · go_wp2
          go_ret
          exact ⟨-1, rfl, .inl (by omega), Hbl.out⟩
        · go_wp2
          go_roundw
          case rel =>
            refine ⟨k + 1, _, by omega, by go_num, rfl, by omega, by omega, fun j hj hj1 => ?_, Hbl.out⟩
            rcases Nat.lt_or_eq_of_le (Nat.le_of_lt_succ hj1) with h' | rfl
            · exact Hsm.out j hj h'
            · rw [hx.out]; simp only [String_small]; omega
          case measure => simp [intOf]; omega
      · go_wp2
        go_ret
        refine ⟨_, rfl, .inr ⟨hr0, hr1, by omega, fun x hx => ?_⟩, Hbl.out⟩
        obtain ⟨j, hj, rfl⟩ := List.getElem_of_mem hx
        exact Hsm.out j hj (by omega)

set_option maxHeartbeats 800000 in
theorem toStringS_any (l : List ByteArray) (A : Option Addr) (c : Nat) (w : World) (h : RdL w w.heap.size A 1 encString l) (hl : l.length ≤ 1048576) :
    Calls Try.prog 8 #[.slice A l.length c] w fun e w' => ∃ A', e = .returned (.slice A' l.length l.length) ∧ OwnL w' w.heap.size w'.heap.size A' 1 encString l ∧ Below w.heap.size w w' := by
  go_enter Try.func8, Try.ntmps8
  go_wp2_with (refine wpList_make_cellsN rfl 24 _ rfl 9 _ 1 16 rfl String_info rfl .i64 l.length rfl (by omega) (by omega) ?_; intro w1 hc1 hb1)
  go_loopw [4] (fun i wr => ∃ k : Nat, k ≤ l.length ∧ i = .int .i64 k ∧ Cells wr w.heap.size (l.length * 1) (fill encString 1 l (fun i => (Value.string ⟨#[]⟩).cells.getD (i % 1) undef) k) ∧ Below w.heap.size w wr) (fun i _ => l.length - (intOf i).toNat)
  case atStart => exact ⟨0, by omega, by rfl, by rw [fill_zero]; exact hc1, hb1⟩
  case round =>
    obtain ⟨k, hk, rfl, hc, hbl⟩ := hrel
    have Hc := Lib.hid hc
    have Hbl := Lib.hid hbl
    have hgs : w.heap.size < wr.heap.size := hc.lt
    clear hc hbl hc1 hb1
    by_cases hlt : k < l.length
    · obtain ⟨g, off, hA, hg, hcell⟩ := h.at hlt
      subst hA
      have r0 : wr.cell? ⟨g, off + k, none⟩ = some (.string l[k]) := (Hbl.out.cell (p := ⟨g, off + k, none⟩) hg).trans (by have := hcell 0 _ rfl; rw [Nat.mul_one] at this; exact this)
      obtain ⟨x, hx⟩ : ∃ x, Hid (l[k] = x) := ⟨l[k], Lib.hid rfl⟩
      rw [hx.out] at r0
      clear hcell h
      have q0 := Hc.out.cell (i := k) (by omega)
      have f0 := Hc.out.free (i := k) (by omega)
      go_wp2
      go_roundw
      case rel => exact ⟨k + 1, by omega, by go_num, Hc.out.fillN (by omega) encString_len hlt (by omega) [_] (by rw [hx.out]; rfl), Below.setN (Nat.le_refl _) [_] Hbl.out⟩
      case measure => simp [intOf]; omega
    · go_wp2
      go_ret
      exact ⟨_, rfl, OwnL.of_fill Hc.out (by omega) (Nat.le_refl _) Hc.out.lt encString_len, Hbl.out⟩

set_option maxHeartbeats 800000 in
theorem eqStringS_t (l : List ByteArray) (A A' : Option Addr) (c c' : Nat) (w : World) (h : RdL w w.heap.size A 1 encString l) (h' : RdL w w.heap.size A' 1 encString l) (hl : l.length ≤ 4611686018427387904) :
    Calls Try.prog 12 #[.slice A l.length c, .slice A' l.length c'] w fun e w' => e = .returned (.bool true) ∧ Below w.heap.size w w' := by
  go_enter Try.func12, Try.ntmps12
  go_wp2
  go_loopw [5] (fun i wr => ∃ k : Nat, k ≤ l.length ∧ i = .int .i64 k ∧ Below w.heap.size w wr) (fun i _ => l.length - (intOf i).toNat)
  case atStart => exact ⟨0, by omega, by rfl, Below.refl _ _⟩
  case round =>
    obtain ⟨k, hk, rfl, hbl⟩ := hrel
    have Hbl := Lib.hid hbl
    clear hbl
    by_cases hlt : k < l.length
    · obtain ⟨g, off, hA, hg, hcell⟩ := h.at hlt
      obtain ⟨g', off', hA', hg', hcell'⟩ := h'.at hlt
      subst hA hA'
      have r0 : wr.cell? ⟨g, off + k, none⟩ = some (.string l[k]) := (Hbl.out.cell (p := ⟨g, off + k, none⟩) hg).trans (by have := hcell 0 _ rfl; rw [Nat.mul_one] at this; exact this)
      have q0 : wr.cell? ⟨g', off' + k, none⟩ = some (.string l[k]) := (Hbl.out.cell (p := ⟨g', off' + k, none⟩) hg').trans (by have := hcell' 0 _ rfl; rw [Nat.mul_one] at this; exact this)
      clear hcell hcell' h h'
      generalize l[k] = x at r0 q0
      go_wp2
      go_quiet (fail)
      go_wp2
      go_roundw
      case rel => exact ⟨k + 1, by omega, by go_num, below_drewN Hbl.out _⟩
      case measure => simp [intOf]; omega
    · go_wp2
      go_ret
      exact ⟨rfl, Hbl.out⟩

/-- What the marks make of a list of so many elements. -/
def markStringL (m q : Nat) : List ByteArray := (List.range m).map fun i : Nat => ((markT (q + i)) : ByteArray)
theorem markStringL_len (m q : Nat) : (markStringL m q).length = m := by simp [markStringL]
theorem markStringL_at (m q i : Nat) (hi : i < (markStringL m q).length) : (markStringL m q)[i] = ((markT (q + i)) : ByteArray) := by simp [markStringL]
set_option maxHeartbeats 1600000 in
theorem markStringS_any (l : List ByteArray) (b d : Nat) (A : Option Addr) (c q : Nat) (w : World) (h : OwnL w b d A 1 encString l) (hl : l.length ≤ 1048576) (hq0 : 0 < q) (hq : q ≤ 100000000000) :
    Calls Try.prog 14 #[.slice A l.length c, .int .i64 q] w fun e w' => e = .returned (.int .i64 ((q + l.length * 1 : Nat) : Int)) ∧ OwnL w' b d A 1 encString (markStringL l.length q) ∧ Chg b d w w' := by
  rcases Nat.eq_zero_or_pos l.length with h0 | hpos
  · have e0 : l = [] := List.eq_nil_of_length_eq_zero h0
    subst e0
    go_enter Try.func14, Try.ntmps14
    go_wp2
    go_loop [1, 5] (fun v i => v = .int .i64 q ∧ i = .int .i64 0) (fun _ _ => 0)
    case atStart => exact ⟨rfl, rfl⟩
    case round =>
      obtain ⟨rfl, rfl⟩ := hrel
      go_wp2
      go_ret
      exact ⟨by simp, .inl rfl, Chg.refl _ _ _⟩
  · obtain ⟨g, f, hA, hgb, hgc, hc0⟩ := h.cells hpos
    subst hA
    have HC0 := Lib.hid hc0
    clear hc0
    have em : (markStringL l.length q).length = l.length := markStringL_len _ _
    have Em := Lib.hid em
    clear em
    go_enter Try.func14, Try.ntmps14
    go_wp2
    go_loopw [1, 5] (fun v i wr => ∃ k : Nat, k ≤ l.length ∧ i = .int .i64 k ∧ v = .int .i64 ((q + k : Nat) : Int) ∧ Cells wr g (l.length * 1) (fill encString 1 (markStringL l.length q) f k) ∧ Chg b d w wr) (fun _ i _ => l.length - (intOf i).toNat)
    case atStart => exact ⟨0, by omega, by rfl, by simp, by rw [fill_zero]; exact HC0.out, Chg.refl _ _ _⟩
    case round =>
      obtain ⟨k, hk, rfl, rfl, hc, hch⟩ := hrel
      have Hc := Lib.hid hc
      have Hch := Lib.hid hch
      clear hc hch h
      by_cases hlt : k < l.length
      · have q0 := Hc.out.cell (i := k) (by omega)
        have f0 := Hc.out.free (i := k) (by omega)
        go_wp2_with (go_at_call 36; refine (markText_any (q + k) _ (by omega) (by omega)).mono ?_; rintro e w' ⟨rfl, hm1⟩; have t1_0 := (Hc.out.later hm1).cell (i := k) (by omega); have u1_0 := (Hc.out.later hm1).free (i := k) (by omega))
        go_roundw
        case rel =>
          refine ⟨k + 1, by omega, by go_num, by first | rfl | (congr 1; simp; done) | (congr 1; simp; omega) | (congr 1; omega), ?_, ?_⟩
          · have hC := ((Hc.out.later hm1).set (i := k) (by omega) (.string (markT (q + k))))
            refine hC.as_fill (l := markStringL l.length q) (p := k) [.string (markT (q + k))] ?_ (by omega) encString_len (by rw [Em.out]; exact hlt) (by omega) (by rw [markStringL_at]; rfl)
            rw [← updN_cons, updN_nil]
          · exact ((Hch.out.below hm1).setCell (p := ⟨g, k, none⟩) hgb hgc (.string (markT (q + k))))
        case measure => simp [intOf]; omega
      · go_wp2
        go_ret
        obtain rfl : k = l.length := by omega
        refine ⟨by simp, OwnL.of_fill (l := markStringL l.length q) (k := l.length) (by rw [Em.out]; exact Hc.out) (by rw [Em.out]; exact Nat.le_refl _) hgb hgc encString_len, Hch.out⟩

end Go.Proofs.Ytglnehinmdmgmaa