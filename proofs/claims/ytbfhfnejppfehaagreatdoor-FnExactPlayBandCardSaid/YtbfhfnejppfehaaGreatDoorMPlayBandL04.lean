import Derived.Test.YtbfhfnejppfehaaGreatDoorRows
import Derived.Test.YtbfhfnejppfehaaGreatDoorMPlayBandL01
import Derived.StillTailTactics
import Derived.Deep.RegionHeld3
import Derived.Test.YtbfhfnejppfehaaGreatDoorMPlayBandL03
/-
  Contracts of the helper functions that the laws use for lists of String.
-/
namespace Go.Proofs.YtbfhfnejppfehaaGreatDoor
open Go.RowKit Go.ChangeShapes Go.WideShapes
set_option linter.unusedVariables false
set_option linter.unusedSimpArgs false
set_option maxRecDepth 100000


def encString (x : ByteArray) : List Value := [.string x]
theorem encString_len (x : ByteArray) : (encString x).length = 1 := rfl
def String_small (lim : Int) (x : ByteArray) : Prop := (x.size : Int) ≤ lim
theorem String_info : (Tryz.prog.info? 9).map (fun i => (i.zero, i.size, i.bytes)) = some (some (.string ⟨#[]⟩), 1, 16) := by kernel_rfl

theorem String_el {H : Type} {en : TypeId × Value → H} {w : World} {base : Nat} {spare : Nat → Bool} {held : Bool} (n : Nat) (cs : List Value) (y : DataW H × List MemPlace) (h : DataW.trod en Tryz.prog w base spare held n 9 cs = some y) : ∃ x : ByteArray, cs = encString x ∧ String_small 9223372036854775807 x := by
  obtain ⟨a, rfl, _, ha⟩ := DataW.trod_string Tryz.underlying9 h
  exact ⟨a, rfl, by unfold String_small; unfold maxLen at ha; omega⟩

set_option maxHeartbeats 800000 in
theorem szStringS_any (l : List ByteArray) (A : Option Addr) (c : Nat) (left : Int) (w : World) (h : RdL w w.heap.size A 1 encString l) (hl : l.length ≤ 9223372036854775807) (h1 : 0 ≤ left) (h2 : left ≤ 1048576) (hs : ∀ x ∈ l, String_small 9223372036854775807 x) :
    Calls Tryz.prog 177 #[.slice A l.length c, .int .i64 left] w fun e w' => ∃ r, e = .returned (.int .i64 r) ∧ SzOk r left l.length (∀ x ∈ l, String_small left x) ∧ Below w.heap.size w w' := by
  have Hs := Lib.hid hs
  clear hs
  by_cases hn : left < l.length
  · go_enter Tryz.func177, Tryz.ntmps177
    go_wp2
    go_ret
    exact ⟨_, rfl, .inl (by omega), Below.refl _ _⟩
  · go_enter Tryz.func177, Tryz.ntmps177
    go_wp2
    go_loopw [1, 5] (fun v i wr => ∃ (k : Nat) (r : Int), k ≤ l.length ∧ i = .int .i64 k ∧ v = .int .i64 r ∧ 0 ≤ r ∧ r ≤ left ∧ (∀ (j : Nat) (hj : j < l.length), j < k → String_small left l[j]) ∧ Below w.heap.size w wr) (fun _ i _ => l.length - (intOf i).toNat)
    case atStart => exact ⟨0, left - l.length, by omega, by rfl, rfl, by omega, by omega, fun j _ hj => by omega, Below.refl _ _⟩
    case round =>
      obtain ⟨k, r, hk, rfl, rfl, hr0, hr1, hsm, hbl⟩ := hrel
      have Hbl := Lib.hid hbl
      have Hsm := Lib.hid hsm
      clear hbl hsm
      by_cases hlt : k < l.length
      · obtain ⟨g, off, hA, hg, hcell⟩ := h.at hlt
        subst hA
        have r0 : wr.cell? ⟨g, off + k, none⟩ = some (.string l[k]) := (Hbl.out.cell (p := ⟨g, off + k, none⟩) hg).trans (by have := hcell 0 _ rfl; rw [Nat.mul_one] at this; exact this)
        have hgs := Hbl.out.size
        obtain ⟨x, hx⟩ : ∃ x, Hid (l[k] = x) := ⟨l[k], Lib.hid rfl⟩
        have hxs : String_small 9223372036854775807 x := by have := Hs.out _ (List.getElem_mem hlt); rw [hx.out] at this; exact this
        rw [hx.out] at r0
        clear hcell h

        simp only [String_small] at hxs
        by_cases hc : r < x.size
        · go_wp2
          go_ret
          exact ⟨-1, rfl, .inl (by omega), Hbl.out⟩
        · go_wp2
          go_roundw
          case rel =>
            refine ⟨k + 1, _, by omega, by go_num, rfl, by omega, by omega, fun j hj hj1 => ?_, Hbl.out⟩
            rcases Nat.lt_or_eq_of_le (Nat.le_of_lt_succ hj1) with h' | rfl
            · exact Hsm.out j hj h'
            · rw [hx.out]; simp only [String_small]; omega
          case measure => simp [intOf]; omega
      · go_wp2
        go_ret
        refine ⟨_, rfl, .inr ⟨hr0, hr1, by omega, fun x hx => ?_⟩, Hbl.out⟩
        obtain ⟨j, hj, rfl⟩ := List.getElem_of_mem hx
        exact Hsm.out j hj (by omega)

set_option maxHeartbeats 800000 in
theorem toStringS_any (l : List ByteArray) (A : Option Addr) (c : Nat) (w : World) (h : RdL w w.heap.size A 1 encString l) (hl : l.length ≤ 1048576) :
    Calls Tryz.prog 178 #[.slice A l.length c] w fun e w' => ∃ A', e = .returned (.slice A' l.length l.length) ∧ OwnL w' w.heap.size w'.heap.size A' 1 encString l ∧ Below w.heap.size w w' := by
  go_enter Tryz.func178, Tryz.ntmps178
  go_wp2_with (refine wpList_make_cellsN rfl 24 _ rfl 9 _ 1 16 rfl String_info rfl .i64 l.length rfl (by omega) (by omega) ?_; intro w1 hc1 hb1)
  go_loopw [4] (fun i wr => ∃ k : Nat, k ≤ l.length ∧ i = .int .i64 k ∧ Cells wr w.heap.size (l.length * 1) (fill encString 1 l (fun i => (Value.string ⟨#[]⟩).cells.getD (i % 1) undef) k) ∧ Below w.heap.size w wr) (fun i _ => l.length - (intOf i).toNat)
  case atStart => exact ⟨0, by omega, by rfl, by rw [fill_zero]; exact hc1, hb1⟩
  case round =>
    obtain ⟨k, hk, rfl, hc, hbl⟩ := hrel
    have Hc := Lib.hid hc
    have Hbl := Lib.hid hbl
    have hgs : w.heap.size < wr.heap.size := hc.lt
    clear hc hbl hc1 hb1
    by_cases hlt : k < l.length
    · obtain ⟨g, off, hA, hg, hcell⟩ := h.at hlt
      subst hA
      have r0 : wr.cell? ⟨g, off + k, none⟩ = some (.string l[k]) := (Hbl.out.cell (p := ⟨g, off + k, none⟩) hg).trans (by have := hcell 0 _ rfl; rw [Nat.mul_one] at this; exact this)
      obtain ⟨x, hx⟩ : ∃ x, Hid (l[k] = x) := ⟨l[k], Lib.hid rfl⟩
      rw [hx.out] at r0
      clear hcell h
      have q0 := Hc.out.cell (i := k) (by omega)
      have f0 := Hc.out.free (i := k) (by omega)
      go_wp2
      go_roundw
      case rel => exact ⟨k + 1, by omega, by go_num, Hc.out.fillN (by omega) encString_len hlt (by omega) [_] (by rw [hx.out]; rfl), Below.setN (Nat.le_refl _) [_] Hbl.out⟩
      case measure => simp [intOf]; omega
    · go_wp2
      go_ret
      exact ⟨_, rfl, OwnL.of_fill Hc.out (by omega) (Nat.le_refl _) Hc.out.lt encString_len, Hbl.out⟩

set_option maxHeartbeats 800000 in
theorem eqStringS_t (l : List ByteArray) (A A' : Option Addr) (c c' : Nat) (w : World) (h : RdL w w.heap.size A 1 encString l) (h' : RdL w w.heap.size A' 1 encString l) (hl : l.length ≤ 4611686018427387904) :
    Calls Tryz.prog 45 #[.slice A l.length c, .slice A' l.length c'] w fun e w' => e = .returned (.bool true) ∧ Below w.heap.size w w' := by
  go_enter Tryz.func45, Tryz.ntmps45
  go_wp2
  go_loopw [5] (fun i wr => ∃ k : Nat, k ≤ l.length ∧ i = .int .i64 k ∧ Below w.heap.size w wr) (fun i _ => l.length - (intOf i).toNat)
  case atStart => exact ⟨0, by omega, by rfl, Below.refl _ _⟩
  case round =>
    obtain ⟨k, hk, rfl, hbl⟩ := hrel
    have Hbl := Lib.hid hbl
    clear hbl
    by_cases hlt : k < l.length
    · obtain ⟨g, off, hA, hg, hcell⟩ := h.at hlt
      obtain ⟨g', off', hA', hg', hcell'⟩ := h'.at hlt
      subst hA hA'
      have r0 : wr.cell? ⟨g, off + k, none⟩ = some (.string l[k]) := (Hbl.out.cell (p := ⟨g, off + k, none⟩) hg).trans (by have := hcell 0 _ rfl; rw [Nat.mul_one] at this; exact this)
      have q0 : wr.cell? ⟨g', off' + k, none⟩ = some (.string l[k]) := (Hbl.out.cell (p := ⟨g', off' + k, none⟩) hg').trans (by have := hcell' 0 _ rfl; rw [Nat.mul_one] at this; exact this)
      clear hcell hcell' h h'
      generalize l[k] = x at r0 q0
      go_wp2
      go_quiet (fail)
      go_wp2
      go_roundw
      case rel => exact ⟨k + 1, by omega, by go_num, below_drewN Hbl.out _⟩
      case measure => simp [intOf]; omega
    · go_wp2
      go_ret
      exact ⟨rfl, Hbl.out⟩

/-- What the marks make of a list of so many elements. -/
def markStringL (m q : Nat) : List ByteArray := (List.range m).map fun i : Nat => ((markT (q + i)) : ByteArray)
theorem markStringL_len (m q : Nat) : (markStringL m q).length = m := by simp [markStringL]
theorem markStringL_at (m q i : Nat) (hi : i < (markStringL m q).length) : (markStringL m q)[i] = ((markT (q + i)) : ByteArray) := by simp [markStringL]
set_option maxHeartbeats 1600000 in
theorem markStringS_any (l : List ByteArray) (b d : Nat) (A : Option Addr) (c q : Nat) (w : World) (h : OwnL w b d A 1 encString l) (hl : l.length ≤ 1048576) (hq0 : 0 < q) (hq : q ≤ 100000000000) :
    Calls Tryz.prog 49 #[.slice A l.length c, .int .i64 q] w fun e w' => e = .returned (.int .i64 ((q + l.length * 1 : Nat) : Int)) ∧ OwnL w' b d A 1 encString (markStringL l.length q) ∧ Chg b d w w' := by
  rcases Nat.eq_zero_or_pos l.length with h0 | hpos
  · have e0 : l = [] := List.eq_nil_of_length_eq_zero h0
    subst e0
    go_enter Tryz.func49, Tryz.ntmps49
    go_wp2
    go_loop [1, 5] (fun v i => v = .int .i64 q ∧ i = .int .i64 0) (fun _ _ => 0)
    case atStart => exact ⟨rfl, rfl⟩
    case round =>
      obtain ⟨rfl, rfl⟩ := hrel
      go_wp2
      go_ret
      exact ⟨by simp, .inl rfl, Chg.refl _ _ _⟩
  · obtain ⟨g, f, hA, hgb, hgc, hc0⟩ := h.cells hpos
    subst hA
    have HC0 := Lib.hid hc0
    clear hc0
    have em : (markStringL l.length q).length = l.length := markStringL_len _ _
    have Em := Lib.hid em
    clear em
    go_enter Tryz.func49, Tryz.ntmps49
    go_wp2
    go_loopw [1, 5] (fun v i wr => ∃ k : Nat, k ≤ l.length ∧ i = .int .i64 k ∧ v = .int .i64 ((q + k : Nat) : Int) ∧ Cells wr g (l.length * 1) (fill encString 1 (markStringL l.length q) f k) ∧ Chg b d w wr) (fun _ i _ => l.length - (intOf i).toNat)
    case atStart => exact ⟨0, by omega, by rfl, by simp, by rw [fill_zero]; exact HC0.out, Chg.refl _ _ _⟩
    case round =>
      obtain ⟨k, hk, rfl, rfl, hc, hch⟩ := hrel
      have Hc := Lib.hid hc
      have Hch := Lib.hid hch
      clear hc hch h
      by_cases hlt : k < l.length
      · have q0 := Hc.out.cell (i := k) (by omega)
        have f0 := Hc.out.free (i := k) (by omega)
        go_wp2_with (go_at_call 128; refine (markText_any (q + k) _ (by omega) (by omega)).mono ?_; rintro e w' ⟨rfl, hm1⟩; have t1_0 := (Hc.out.later hm1).cell (i := k) (by omega); have u1_0 := (Hc.out.later hm1).free (i := k) (by omega))
        go_roundw
        case rel =>
          refine ⟨k + 1, by omega, by go_num, by first | rfl | (congr 1; simp; done) | (congr 1; simp; omega) | (congr 1; omega), ?_, ?_⟩
          · have hC := ((Hc.out.later hm1).set (i := k) (by omega) (.string (markT (q + k))))
            refine hC.as_fill (l := markStringL l.length q) (p := k) [.string (markT (q + k))] ?_ (by omega) encString_len (by rw [Em.out]; exact hlt) (by omega) (by rw [markStringL_at]; rfl)
            rw [← updN_cons, updN_nil]
          · exact ((Hch.out.below hm1).setCell (p := ⟨g, k, none⟩) hgb hgc (.string (markT (q + k))))
        case measure => simp [intOf]; omega
      · go_wp2
        go_ret
        obtain rfl : k = l.length := by omega
        refine ⟨by simp, OwnL.of_fill (l := markStringL l.length q) (k := l.length) (by rw [Em.out]; exact Hc.out) (by rw [Em.out]; exact Nat.le_refl _) hgb hgc encString_len, Hch.out⟩

set_option maxHeartbeats 1600000 in
theorem heldStringS_any (m : Nat) (A : Option Addr) (c q : Nat) (w : World) (h : RdL w w.heap.size A 1 encString (markStringL m q)) (hl : m ≤ 1048576) (hq0 : 0 < q) (hq : q ≤ 100000000000) :
    Calls Tryz.prog 51 #[.slice A m c, .int .i64 q] w fun e w' => e = .returned (.int .i64 ((q + m * 1 : Nat) : Int)) ∧ Below w.heap.size w w' := by
  have em : (markStringL m q).length = m := markStringL_len _ _
  have Em := Lib.hid em
  clear em
  go_enter Tryz.func51, Tryz.ntmps51
  go_wp2
  go_loopw [1, 5] (fun v i wr => ∃ k : Nat, k ≤ m ∧ i = .int .i64 k ∧ v = .int .i64 ((q + k : Nat) : Int) ∧ Below w.heap.size w wr) (fun _ i _ => m - (intOf i).toNat)
  case atStart => exact ⟨0, by omega, by rfl, by simp, Below.refl _ _⟩
  case round =>
    obtain ⟨k, hk, rfl, rfl, hbl⟩ := hrel
    have Hbl := Lib.hid hbl
    clear hbl
    by_cases hlt : k < m
    · obtain ⟨g, off, hA, hg, hcell⟩ := h.at (k := k) (by rw [Em.out]; exact hlt)
      subst hA
      have r0 : wr.cell? ⟨g, off + k, none⟩ = some (.string (markT (q + k))) := by
          refine (Hbl.out.cell (p := ⟨g, off + k, none⟩) hg).trans ?_
          have := hcell 0 _ (by rw [markStringL_at]; rfl)
          rw [Nat.mul_one] at this; exact this
      have hgw1 : g < wr.heap.size := Nat.lt_of_lt_of_le hg Hbl.out.size
      have hbz1 : w.heap.size ≤ wr.heap.size := Hbl.out.size
      clear hcell h
      go_wp2
      go_region_held3 (fun w' => w'.cell? ⟨g, off + k, none⟩ = some (.string (markT (q + k)))) (first | exact r0 | exact t1_0 | go_keep) (first | (go_at_call 128; refine (markText_any (q + k) _ (by omega) (by omega)).mono ?_; rintro e w' ⟨rfl, hm1⟩; have t1_0 := (hm1.cell (p := ⟨g, off + k, none⟩) hgw1).trans r0; have hgw2 := Nat.lt_of_lt_of_le hgw1 hm1.size; have hbz2 := Nat.le_trans hbz1 hm1.size))
      go_wp2
      go_roundw
      case rel =>
        exact ⟨k + 1, by omega, by go_num, by first | rfl | (congr 1; simp; done) | (congr 1; simp; omega) | (congr 1; omega), (Hbl.out.drew.trans (hm1.mono hbz1))⟩
      case measure => simp [intOf]; omega
    · go_wp2
      go_ret
      obtain rfl : k = m := by omega
      exact ⟨by first | rfl | simp, Hbl.out⟩

end Go.Proofs.YtbfhfnejppfehaaGreatDoor
/-
  Contracts: valid methods and calls (both sides).
-/
namespace Go.Proofs.YtbfhfnejppfehaaGreatDoor
open Go.RowKit
set_option linter.unusedVariables false
set_option linter.unusedSimpArgs false
set_option maxRecDepth 100000

/-- A method in memory: the name, the stage, the changes, their address, their room. -/
structure Mth where
  name : ByteArray
  stage : Int
  x : List ByteArray
  A : Option Addr
  c : Nat
def Mth.enc (m : Mth) : List Value := [.string m.name, .int .i64 m.stage, .slice m.A m.x.length m.c]
def changesP (n : Int) (l : List ByteArray) : Prop := (1 ≤ l.length ∧ l.length ≤ 40) ∧ ∀ (i : Nat) (hi : i < l.length), changeP n l[i]
def methP (m : Mth) : Prop := isWordP m.name ∧ changesP m.stage m.x
def callsP (m : Mth) (b s : ByteArray) : Prop := methP m ∧ changeP m.stage b ∧ changeP m.stage s
theorem changesP.stage {n : Int} {l : List ByteArray} (h : changesP n l) : inB n 3 8 := (h.2 0 (by have := h.1.1; omega)).1

set_option maxHeartbeats 1600000 in
theorem areChanges_any (n : Int) (l : List ByteArray) (A : Option Addr) (c : Nat) (w : World) (h : RdL w w.heap.size A 1 encString l) (hl : l.length ≤ 1048576) (hs : ∀ x ∈ l, String_small 1048576 x) :
    Calls Tryz.prog 191 #[.int .i64 n, .slice A l.length c] w fun e w' => e = .returned (.bool (B (changesP n l))) ∧ Below w.heap.size w w' := by
  have Hh := Lib.hid h
  have Hs := Lib.hid hs
  clear h hs
  by_cases h1 : l.length < 1
  · go_enter Tryz.func191, Tryz.ntmps191
    go_wp2
    go_ret
    exact ⟨ret_f (fun h => by have := h.1.1; omega), Below.refl _ _⟩
  · by_cases h2 : 40 < l.length
    · go_enter Tryz.func191, Tryz.ntmps191
      go_wp2
      go_ret
      exact ⟨ret_f (fun h => by have := h.1.2; omega), Below.refl _ _⟩
    · go_enter Tryz.func191, Tryz.ntmps191
      go_wp2
      go_loopw [17] (fun i wr => ∃ k : Nat, k ≤ l.length ∧ i = .int .i64 k ∧ (∀ (j : Nat) (hj : j < l.length), j < k → changeP n l[j]) ∧ Below w.heap.size w wr) (fun i _ => l.length - (intOf i).toNat)
      case atStart => exact ⟨0, by omega, by rfl, fun j _ hj => by omega, Below.refl _ _⟩
      case round =>
        obtain ⟨k, hk, rfl, hq, hbl⟩ := hrel
        have Hq := Lib.hid hq
        have Hbl := Lib.hid hbl
        have hgs := hbl.size
        clear hq hbl
        by_cases hlt : k < l.length
        · obtain ⟨g, off, hA, hg, hcell⟩ := Hh.out.at hlt
          subst hA
          have r0 : wr.cell? ⟨g, off + k, none⟩ = some (.string l[k]) := (Hbl.out.cell (p := ⟨g, off + k, none⟩) hg).trans (by have := hcell 0 _ rfl; rw [Nat.mul_one] at this; exact this)
          have hsm : (l[k].size : Int) ≤ 1048576 := Hs.out _ (List.getElem_mem hlt)
          obtain ⟨x, hx⟩ : ∃ x, Hid (l[k] = x) := ⟨_, Lib.hid rfl⟩
          rw [hx.out] at r0 hsm
          clear hcell
          by_cases hc : changeP n x
          · have e1 := B_t hc
            have Hc := Lib.hid hc
            clear hc
            go_wp2_with (go_at_call 157; refine (goodChange_any n x _ (by omega)).mono ?_; rintro e w' ⟨rfl, hb2⟩)
            go_roundw
            case rel =>
              refine ⟨k + 1, by omega, by go_num, fun j hj h1 => ?_, Hbl.out.trans (hb2.mono hgs)⟩
              rcases Nat.lt_or_eq_of_le (Nat.le_of_lt_succ h1) with h' | rfl
              · exact Hq.out j hj h'
              · rw [hx.out]; exact Hc.out
            case measure => simp [intOf]; omega
          · have e1 := B_f hc
            have Hc := Lib.hid hc
            clear hc
            go_wp2_with (go_at_call 157; refine (goodChange_any n x _ (by omega)).mono ?_; rintro e w' ⟨rfl, hb2⟩)
            go_ret
            exact ⟨ret_f (fun h => Hc.out (by rw [← hx.out]; exact h.2 k hlt)), Hbl.out.trans (hb2.mono hgs)⟩
        · obtain rfl : k = l.length := by omega
          go_wp2
          go_ret
          exact ⟨ret_t ⟨⟨by omega, by omega⟩, fun i hi => Hq.out i hi hi⟩, Hbl.out⟩
theorem goodMethod_any (m : Mth) (w : World) (h : RdL w w.heap.size m.A 1 encString m.x) (hn : m.name.size ≤ 1048576) (hl : m.x.length ≤ 1048576) (hs : ∀ x ∈ m.x, String_small 1048576 x) :
    Calls Tryz.prog 156 #[.agg #[.string m.name, .int .i64 m.stage, .slice m.A m.x.length m.c]] w fun e w' => e = .returned (.bool (B (methP m))) ∧ Below w.heap.size w w' := by
  have hb0 : Hid (Below w.heap.size w (w.alloc (.cells #[.string m.name, .int .i64 m.stage, .slice m.A m.x.length m.c] 26))) := Lib.hid ((Below.refl _ _).alloc (Nat.le_refl _) _)
  have h2 : Hid (RdL (w.alloc (.cells #[.string m.name, .int .i64 m.stage, .slice m.A m.x.length m.c] 26)) (w.alloc (.cells #[.string m.name, .int .i64 m.stage, .slice m.A m.x.length m.c] 26)).heap.size m.A 1 encString m.x) := Lib.hid ((h.below hb0.out (Nat.le_refl _)).more hb0.out.size)
  have Hs := Lib.hid hs
  clear h hs
  by_cases c1 : isWordP m.name
  · have e1 := B_t c1
    have C1 := Lib.hid c1
    clear c1
    by_cases c2 : changesP m.stage m.x
    all_goals
      first | have e2 := B_t c2 | have e2 := B_f c2
      have C2 := Lib.hid c2
      clear c2
      go_enter Tryz.func156, Tryz.ntmps156
      go_wp2_with (first | (go_at_call 190; refine (isWord_any _ _ (by omega)).mono ?_; rintro e w' ⟨rfl, rfl⟩) | (go_at_call 191; refine (areChanges_any _ m.x _ _ _ h2.out hl Hs.out).mono ?_; rintro e w2 ⟨rfl, hb2⟩))
      go_ret
      first
        | exact ⟨ret_t ⟨C1.out, C2.out⟩, hb0.out.trans (hb2.mono hb0.out.size)⟩
        | exact ⟨ret_f (fun h => C2.out h.2), hb0.out.trans (hb2.mono hb0.out.size)⟩
        | exact ⟨by show Ending.returned (Value.bool (B (changesP m.stage m.x))) = Ending.returned (Value.bool (B (methP m))); rw [B_t C2.out, B_t (show methP m from ⟨C1.out, C2.out⟩)], hb0.out.trans (hb2.mono hb0.out.size)⟩
        | exact ⟨by show Ending.returned (Value.bool (B (changesP m.stage m.x))) = Ending.returned (Value.bool (B (methP m))); rw [B_f C2.out, B_f (fun h : methP m => C2.out h.2)], hb0.out.trans (hb2.mono hb0.out.size)⟩
  · have e1 := B_f c1
    have C1 := Lib.hid c1
    clear c1
    go_enter Tryz.func156, Tryz.ntmps156
    go_wp2_with (first | (go_at_call 190; refine (isWord_any _ _ (by omega)).mono ?_; rintro e w' ⟨rfl, rfl⟩))
    go_ret
    exact ⟨ret_f (fun h => C1.out h.1), hb0.out⟩
set_option maxHeartbeats 1600000 in
theorem l4Good_any (m : Mth) (w : World) (h : RdL w w.heap.size m.A 1 encString m.x) (hn : m.name.size ≤ 1048576) (hl : m.x.length ≤ 1048576) (hs : ∀ x ∈ m.x, String_small 1048576 x) :
    Calls Tryz.prog 73 #[.agg #[.string m.name, .int .i64 m.stage, .slice m.A m.x.length m.c]] w fun e w' => e = .returned (.bool (B (methP m))) ∧ Below w.heap.size w w' := by
  have hb0 : Hid (Below w.heap.size w (w.alloc (.cells #[.string m.name, .int .i64 m.stage, .slice m.A m.x.length m.c] 26))) := Lib.hid ((Below.refl _ _).alloc (Nat.le_refl _) _)
  have Hh := Lib.hid h
  have Hs := Lib.hid hs
  clear h hs
  go_enter Tryz.func73, Tryz.ntmps73
  go_wp2
  go_loop [8] (fun i => ∃ k : Nat, k ≤ m.x.length ∧ i = .int .i64 k ∧ (∀ (j : Nat) (hj : j < m.x.length), j < k → changeP m.stage m.x[j])) (fun i => m.x.length - (intOf i).toNat)
  case atStart => exact ⟨0, by omega, by rfl, fun j _ hj => by omega⟩
  case round =>
    obtain ⟨k, hk, rfl, hq⟩ := hrel
    have Hq := Lib.hid hq
    clear hq
    by_cases hlt : k < m.x.length
    · obtain ⟨g, off, hA, hg, hcell⟩ := Hh.out.at hlt
      have r0 : (w.alloc (.cells #[.string m.name, .int .i64 m.stage, .slice m.A m.x.length m.c] 26)).cell? ⟨g, off + k, none⟩ = some (.string m.x[k]) := (hb0.out.cell (p := ⟨g, off + k, none⟩) hg).trans (by have := hcell 0 _ rfl; rw [Nat.mul_one] at this; exact this)
      have hsm : (m.x[k].size : Int) ≤ 1048576 := Hs.out _ (List.getElem_mem hlt)
      rw [hA] at r0 ⊢
      obtain ⟨x, hx⟩ : ∃ x, Hid (m.x[k] = x) := ⟨_, Lib.hid rfl⟩
      rw [hx.out] at r0 hsm
      clear hcell
      by_cases hc : changeP m.stage x
      · have e1 := B_t hc
        have Hc := Lib.hid hc
        clear hc
        go_wp2_with (go_at_call 144; refine (l2Change_any m.stage x _ (by omega)).mono ?_; rintro e w' ⟨rfl, rfl⟩)
        go_round
        case rel =>
          refine ⟨k + 1, by omega, by go_num, fun j hj h1 => ?_⟩
          rcases Nat.lt_or_eq_of_le (Nat.le_of_lt_succ h1) with h' | rfl
          · exact Hq.out j hj h'
          · rw [hx.out]; exact Hc.out
        case measure => simp [intOf]; omega
      · have e1 := B_f hc
        have Hc := Lib.hid hc
        clear hc
        go_wp2_with (go_at_call 144; refine (l2Change_any m.stage x _ (by omega)).mono ?_; rintro e w' ⟨rfl, rfl⟩)
        go_ret
        exact ⟨ret_f (fun h => Hc.out (by rw [← hx.out]; exact h.2.2 k hlt)), by first | exact hb0.out | (rw [← hA]; exact hb0.out)⟩
    · obtain rfl : k = m.x.length := by omega
      by_cases c1 : isWordP m.name
      · have e1 := B_t c1
        by_cases c2 : inB m.stage 3 8
        · have e2 := B_t c2
          by_cases c3 : inB (m.x.length : Int) 1 40
          · have e3 := B_t c3
            have C := Lib.hid (And.intro c1 c3)
            clear c1 c2 c3
            go_wp2_with (first | (go_at_call 145; refine (l4Name_any _ _ (by omega)).mono ?_; rintro e w' ⟨rfl, rfl⟩) | (go_at_call 112; refine (l1In_any _ _ _ _).mono ?_; rintro e w' ⟨rfl, rfl⟩))
            go_ret
            exact ⟨ret_t ⟨C.out.1, ⟨by have := C.out.2.1; omega, by have := C.out.2.2; omega⟩, fun i hi => Hq.out i hi hi⟩, hb0.out⟩
          · have e3 := B_f c3
            have C := Lib.hid c3
            clear c1 c2 c3
            go_wp2_with (first | (go_at_call 145; refine (l4Name_any _ _ (by omega)).mono ?_; rintro e w' ⟨rfl, rfl⟩) | (go_at_call 112; refine (l1In_any _ _ _ _).mono ?_; rintro e w' ⟨rfl, rfl⟩))
            go_ret
            exact ⟨ret_f (fun h => C.out ⟨by have := h.2.1.1; omega, by have := h.2.1.2; omega⟩), hb0.out⟩
        · have e2 := B_f c2
          have C := Lib.hid c2
          clear c1 c2
          go_wp2_with (first | (go_at_call 145; refine (l4Name_any _ _ (by omega)).mono ?_; rintro e w' ⟨rfl, rfl⟩) | (go_at_call 112; refine (l1In_any _ _ _ _).mono ?_; rintro e w' ⟨rfl, rfl⟩))
          go_ret
          exact ⟨ret_f (fun h => C.out h.2.stage), hb0.out⟩
      · have e1 := B_f c1
        have C := Lib.hid c1
        clear c1
        go_wp2_with (first | (go_at_call 145; refine (l4Name_any _ _ (by omega)).mono ?_; rintro e w' ⟨rfl, rfl⟩) | (go_at_call 112; refine (l1In_any _ _ _ _).mono ?_; rintro e w' ⟨rfl, rfl⟩))
        go_ret
        exact ⟨ret_f (fun h => C.out h.1), hb0.out⟩



set_option maxHeartbeats 1600000 in
theorem goodCalls_any (m : Mth) (b s : ByteArray) (w : World) (h : RdL w w.heap.size m.A 1 encString m.x) (hn : m.name.size ≤ 1048576) (hl : m.x.length ≤ 1048576) (hs : ∀ x ∈ m.x, String_small 1048576 x) (hb : b.size ≤ 1048576) (hss : s.size ≤ 1048576) :
    Calls Tryz.prog 83 #[.agg #[.string m.name, .int .i64 m.stage, .slice m.A m.x.length m.c], .agg #[.string b, .string s]] w fun e w' => e = .returned (.bool (B (callsP m b s))) ∧ Below w.heap.size w w' := by
  have hb0 : Hid (Below w.heap.size w ((w.alloc (.cells #[.string m.name, .int .i64 m.stage, .slice m.A m.x.length m.c] 26)).alloc (.cells #[.string b, .string s] 28))) := Lib.hid (((Below.refl _ _).alloc (Nat.le_refl _) _).alloc (by simp) _)
  have h2 : Hid (RdL ((w.alloc (.cells #[.string m.name, .int .i64 m.stage, .slice m.A m.x.length m.c] 26)).alloc (.cells #[.string b, .string s] 28)) (((w.alloc (.cells #[.string m.name, .int .i64 m.stage, .slice m.A m.x.length m.c] 26)).alloc (.cells #[.string b, .string s] 28))).heap.size m.A 1 encString m.x) := Lib.hid ((h.below hb0.out (Nat.le_refl _)).more hb0.out.size)
  have Hs := Lib.hid hs
  clear h hs
  by_cases c1 : methP m
  · have e1 := B_t c1
    have C1 := Lib.hid c1
    clear c1
    by_cases c2 : changeP m.stage b
    · have e2 := B_t c2
      have C2 := Lib.hid c2
      clear c2
      by_cases c3 : changeP m.stage s
      all_goals
        first | have e3 := B_t c3 | have e3 := B_f c3
        have C3 := Lib.hid c3
        clear c3
        go_enter Tryz.func83, Tryz.ntmps83
        go_wp2_with (first | (go_at_call 156; refine (goodMethod_any m _ h2.out hn hl Hs.out).mono ?_; rintro e w1 ⟨rfl, hb1⟩; have hw1 := hb0.out.trans (hb1.mono hb0.out.size); have q1 := (hb1.cell (p := ⟨w.heap.size, 1, none⟩) (by simp; omega)).trans (show _ = some (.int .i64 m.stage) from by simp [go_sem]); have q2 := (hb1.cell (p := ⟨w.heap.size + 1, 0, none⟩) (by simp)).trans (show _ = some (.string b) from by simp [go_sem]); have q3 := (hb1.cell (p := ⟨w.heap.size + 1, 1, none⟩) (by simp)).trans (show _ = some (.string s) from by simp [go_sem]); have hws : w.heap.size + 2 ≤ w1.heap.size := by have := hb1.size; simpa using this) | (go_at_call 157; refine (goodChange_any _ _ _ (by omega)).mono ?_; rintro e w2 ⟨rfl, hb2⟩; have q1 := (hb2.cell (p := ⟨w.heap.size, 1, none⟩) (show w.heap.size < _ by omega)).trans q1; have q3 := (hb2.cell (p := ⟨w.heap.size + 1, 1, none⟩) (show w.heap.size + 1 < _ by omega)).trans q3; have hw1 := hw1.trans (hb2.mono hw1.size); have hws := Nat.le_trans hws hb2.size))
        go_ret
        first
          | exact ⟨ret_t ⟨C1.out, C2.out, C3.out⟩, hw1⟩
          | exact ⟨ret_f (fun h => C3.out h.2.2), hw1⟩
          | exact ⟨by show Ending.returned (Value.bool (B (changeP m.stage s))) = Ending.returned (Value.bool (B (callsP m b s))); rw [B_t C3.out, B_t (show callsP m b s from ⟨C1.out, C2.out, C3.out⟩)], hw1⟩
          | exact ⟨by show Ending.returned (Value.bool (B (changeP m.stage s))) = Ending.returned (Value.bool (B (callsP m b s))); rw [B_f C3.out, B_f (fun h : callsP m b s => C3.out h.2.2)], hw1⟩
    · have e2 := B_f c2
      have C2 := Lib.hid c2
      clear c2
      go_enter Tryz.func83, Tryz.ntmps83
      go_wp2_with (first | (go_at_call 156; refine (goodMethod_any m _ h2.out hn hl Hs.out).mono ?_; rintro e w1 ⟨rfl, hb1⟩; have hw1 := hb0.out.trans (hb1.mono hb0.out.size); have q1 := (hb1.cell (p := ⟨w.heap.size, 1, none⟩) (by simp; omega)).trans (show _ = some (.int .i64 m.stage) from by simp [go_sem]); have q2 := (hb1.cell (p := ⟨w.heap.size + 1, 0, none⟩) (by simp)).trans (show _ = some (.string b) from by simp [go_sem]); have q3 := (hb1.cell (p := ⟨w.heap.size + 1, 1, none⟩) (by simp)).trans (show _ = some (.string s) from by simp [go_sem]); have hws : w.heap.size + 2 ≤ w1.heap.size := by have := hb1.size; simpa using this) | (go_at_call 157; refine (goodChange_any _ _ _ (by omega)).mono ?_; rintro e w2 ⟨rfl, hb2⟩; have q1 := (hb2.cell (p := ⟨w.heap.size, 1, none⟩) (show w.heap.size < _ by omega)).trans q1; have q3 := (hb2.cell (p := ⟨w.heap.size + 1, 1, none⟩) (show w.heap.size + 1 < _ by omega)).trans q3; have hw1 := hw1.trans (hb2.mono hw1.size); have hws := Nat.le_trans hws hb2.size))
      go_ret
      exact ⟨ret_f (fun h => C2.out h.2.1), hw1⟩
  · have e1 := B_f c1
    have C1 := Lib.hid c1
    clear c1
    go_enter Tryz.func83, Tryz.ntmps83
    go_wp2_with (first | (go_at_call 156; refine (goodMethod_any m _ h2.out hn hl Hs.out).mono ?_; rintro e w1 ⟨rfl, hb1⟩; have hw1 := hb0.out.trans (hb1.mono hb0.out.size); have q1 := (hb1.cell (p := ⟨w.heap.size, 1, none⟩) (by simp; omega)).trans (show _ = some (.int .i64 m.stage) from by simp [go_sem]); have q2 := (hb1.cell (p := ⟨w.heap.size + 1, 0, none⟩) (by simp)).trans (show _ = some (.string b) from by simp [go_sem]); have q3 := (hb1.cell (p := ⟨w.heap.size + 1, 1, none⟩) (by simp)).trans (show _ = some (.string s) from by simp [go_sem]); have hws : w.heap.size + 2 ≤ w1.heap.size := by have := hb1.size; simpa using this) | (go_at_call 157; refine (goodChange_any _ _ _ (by omega)).mono ?_; rintro e w2 ⟨rfl, hb2⟩; have q1 := (hb2.cell (p := ⟨w.heap.size, 1, none⟩) (show w.heap.size < _ by omega)).trans q1; have q3 := (hb2.cell (p := ⟨w.heap.size + 1, 1, none⟩) (show w.heap.size + 1 < _ by omega)).trans q3; have hw1 := hw1.trans (hb2.mono hw1.size); have hws := Nat.le_trans hws hb2.size))
    go_ret
    exact ⟨ret_f (fun h => C1.out h.1), hw1⟩
set_option maxHeartbeats 1600000 in
theorem l8Good_any (m : Mth) (b s : ByteArray) (w : World) (h : RdL w w.heap.size m.A 1 encString m.x) (hn : m.name.size ≤ 1048576) (hl : m.x.length ≤ 1048576) (hs : ∀ x ∈ m.x, String_small 1048576 x) (hb : b.size ≤ 1048576) (hss : s.size ≤ 1048576) :
    Calls Tryz.prog 146 #[.agg #[.string m.name, .int .i64 m.stage, .slice m.A m.x.length m.c], .agg #[.string b, .string s]] w fun e w' => e = .returned (.bool (B (callsP m b s))) ∧ Below w.heap.size w w' := by
  have hb0 : Hid (Below w.heap.size w ((w.alloc (.cells #[.string m.name, .int .i64 m.stage, .slice m.A m.x.length m.c] 26)).alloc (.cells #[.string b, .string s] 28))) := Lib.hid (((Below.refl _ _).alloc (Nat.le_refl _) _).alloc (by simp) _)
  have h2 : Hid (RdL ((w.alloc (.cells #[.string m.name, .int .i64 m.stage, .slice m.A m.x.length m.c] 26)).alloc (.cells #[.string b, .string s] 28)) (((w.alloc (.cells #[.string m.name, .int .i64 m.stage, .slice m.A m.x.length m.c] 26)).alloc (.cells #[.string b, .string s] 28))).heap.size m.A 1 encString m.x) := Lib.hid ((h.below hb0.out (Nat.le_refl _)).more hb0.out.size)
  have Hs := Lib.hid hs
  clear h hs
  by_cases c1 : methP m
  · have e1 := B_t c1
    have C1 := Lib.hid c1
    clear c1
    by_cases c2 : changeP m.stage b
    · have e2 := B_t c2
      have C2 := Lib.hid c2
      clear c2
      by_cases c3 : changeP m.stage s
      all_goals
        first | have e3 := B_t c3 | have e3 := B_f c3
        have C3 := Lib.hid c3
        clear c3
        go_enter Tryz.func146, Tryz.ntmps146
        go_wp2_with (first | (go_at_call 73; refine (l4Good_any m _ h2.out hn hl Hs.out).mono ?_; rintro e w1 ⟨rfl, hb1⟩; have hw1 := hb0.out.trans (hb1.mono hb0.out.size); have q1 := (hb1.cell (p := ⟨w.heap.size, 1, none⟩) (by simp; omega)).trans (show _ = some (.int .i64 m.stage) from by simp [go_sem]); have q2 := (hb1.cell (p := ⟨w.heap.size + 1, 0, none⟩) (by simp)).trans (show _ = some (.string b) from by simp [go_sem]); have q3 := (hb1.cell (p := ⟨w.heap.size + 1, 1, none⟩) (by simp)).trans (show _ = some (.string s) from by simp [go_sem]); have hws : w.heap.size + 2 ≤ w1.heap.size := by have := hb1.size; simpa using this) | (go_at_call 144; refine (l2Change_any _ _ _ (by omega)).mono ?_; rintro e w' ⟨rfl, rfl⟩))
        go_ret
        first
          | exact ⟨ret_t ⟨C1.out, C2.out, C3.out⟩, hw1⟩
          | exact ⟨ret_f (fun h => C3.out h.2.2), hw1⟩
          | exact ⟨by show Ending.returned (Value.bool (B (changeP m.stage s))) = Ending.returned (Value.bool (B (callsP m b s))); rw [B_t C3.out, B_t (show callsP m b s from ⟨C1.out, C2.out, C3.out⟩)], hw1⟩
          | exact ⟨by show Ending.returned (Value.bool (B (changeP m.stage s))) = Ending.returned (Value.bool (B (callsP m b s))); rw [B_f C3.out, B_f (fun h : callsP m b s => C3.out h.2.2)], hw1⟩
    · have e2 := B_f c2
      have C2 := Lib.hid c2
      clear c2
      go_enter Tryz.func146, Tryz.ntmps146
      go_wp2_with (first | (go_at_call 73; refine (l4Good_any m _ h2.out hn hl Hs.out).mono ?_; rintro e w1 ⟨rfl, hb1⟩; have hw1 := hb0.out.trans (hb1.mono hb0.out.size); have q1 := (hb1.cell (p := ⟨w.heap.size, 1, none⟩) (by simp; omega)).trans (show _ = some (.int .i64 m.stage) from by simp [go_sem]); have q2 := (hb1.cell (p := ⟨w.heap.size + 1, 0, none⟩) (by simp)).trans (show _ = some (.string b) from by simp [go_sem]); have q3 := (hb1.cell (p := ⟨w.heap.size + 1, 1, none⟩) (by simp)).trans (show _ = some (.string s) from by simp [go_sem]); have hws : w.heap.size + 2 ≤ w1.heap.size := by have := hb1.size; simpa using this) | (go_at_call 144; refine (l2Change_any _ _ _ (by omega)).mono ?_; rintro e w' ⟨rfl, rfl⟩))
      go_ret
      exact ⟨ret_f (fun h => C2.out h.2.1), hw1⟩
  · have e1 := B_f c1
    have C1 := Lib.hid c1
    clear c1
    go_enter Tryz.func146, Tryz.ntmps146
    go_wp2_with (first | (go_at_call 73; refine (l4Good_any m _ h2.out hn hl Hs.out).mono ?_; rintro e w1 ⟨rfl, hb1⟩; have hw1 := hb0.out.trans (hb1.mono hb0.out.size); have q1 := (hb1.cell (p := ⟨w.heap.size, 1, none⟩) (by simp; omega)).trans (show _ = some (.int .i64 m.stage) from by simp [go_sem]); have q2 := (hb1.cell (p := ⟨w.heap.size + 1, 0, none⟩) (by simp)).trans (show _ = some (.string b) from by simp [go_sem]); have q3 := (hb1.cell (p := ⟨w.heap.size + 1, 1, none⟩) (by simp)).trans (show _ = some (.string s) from by simp [go_sem]); have hws : w.heap.size + 2 ≤ w1.heap.size := by have := hb1.size; simpa using this) | (go_at_call 144; refine (l2Change_any _ _ _ (by omega)).mono ?_; rintro e w' ⟨rfl, rfl⟩))
    go_ret
    exact ⟨ret_f (fun h => C1.out h.1), hw1⟩
theorem sGoodCalls_any (m : Mth) (b s : ByteArray) (w : World) (h : RdL w w.heap.size m.A 1 encString m.x) (hn : m.name.size ≤ 1048576) (hl : m.x.length ≤ 1048576) (hs : ∀ x ∈ m.x, String_small 1048576 x) (hb : b.size ≤ 1048576) (hss : s.size ≤ 1048576) :
    Calls Tryz.prog 74 #[.agg #[.string m.name, .int .i64 m.stage, .slice m.A m.x.length m.c], .agg #[.string b, .string s]] w fun e w' => e = .returned (.bool (B (callsP m b s))) ∧ Below w.heap.size w w' := by
  have hb0 : Hid (Below w.heap.size w ((w.alloc (.cells #[.string m.name, .int .i64 m.stage, .slice m.A m.x.length m.c] 26)).alloc (.cells #[.string b, .string s] 28))) := Lib.hid (((Below.refl _ _).alloc (Nat.le_refl _) _).alloc (by simp) _)
  have h2 : Hid (RdL ((w.alloc (.cells #[.string m.name, .int .i64 m.stage, .slice m.A m.x.length m.c] 26)).alloc (.cells #[.string b, .string s] 28)) (((w.alloc (.cells #[.string m.name, .int .i64 m.stage, .slice m.A m.x.length m.c] 26)).alloc (.cells #[.string b, .string s] 28))).heap.size m.A 1 encString m.x) := Lib.hid ((h.below hb0.out (Nat.le_refl _)).more hb0.out.size)
  have Hs := Lib.hid hs
  clear h hs
  go_enter Tryz.func74, Tryz.ntmps74
  go_wp2_with (go_at_call 146; refine (l8Good_any m b s _ h2.out hn hl Hs.out hb hss).mono ?_; rintro e w1 ⟨rfl, hb1⟩)
  go_ret
  exact ⟨rfl, hb0.out.trans (hb1.mono hb0.out.size)⟩
end Go.Proofs.YtbfhfnejppfehaaGreatDoor
