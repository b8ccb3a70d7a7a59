/-
  Contracts of the helper functions that the laws use for lists of Ringer.
-/
import Derived.Test.YtdecjijldcbnjaaRows
import Derived.Test.YtdecjijldcbnjaaMark
import Derived.Test.YtdecjijldcbnjaaOpen
import Derived.StillTailTactics
import Derived.Deep.RegionHeld3
namespace Go.Proofs.Ytdecjijldcbnjaa
open Go.RowKit Go.ChangeShapes Go.WideShapes
set_option linter.unusedVariables false
set_option linter.unusedSimpArgs false
set_option maxRecDepth 100000


structure Rgr where
  place : Int
  deaf : Bool

def Rgr.enc (x : Rgr) : List Value := [.int .i64 x.place, .bool x.deaf]
theorem Rgr_enc_len (x : Rgr) : (Rgr.enc x).length = 2 := rfl
def Ringer_small (lim : Int) (x : Rgr) : Prop := True
theorem Ringer_info : (Try.prog.info? 196).map (fun i => (i.zero, i.size, i.bytes)) = some (some (.agg #[.int .i64 0, .bool false]), 2, 16) := by kernel_rfl

theorem Ringer_el {H : Type} {en : TypeId × Value → H} {w : World} {base : Nat} {spare : Nat → Bool} {held : Bool} (n : Nat) (cs : List Value) (y : DataW H × List MemPlace) (h : DataW.trod en Try.prog w base spare held n 200 cs = some y) : ∃ x : Rgr, cs = Rgr.enc x ∧ Ringer_small 9223372036854775807 x := by
  obtain ⟨xs, m, _, _, hlen, hxl, hg⟩ := DataW.trod_struct Try.underlying200 h
  have hC : Try.prog.cellsOf 200 = 2 := by kernel_rfl
  have hC_bool : Try.prog.cellsOf 4 = 1 := by kernel_rfl
  have hC_int : Try.prog.cellsOf 3 = 1 := by kernel_rfl
  rw [hC] at hlen
  match cs, hlen, xs, hxl with
  | [c0, c1], _, [x0, x1], _ =>
    have g0 := hg 0 _ rfl
    simp only [hC_int, List.drop_zero, List.drop_succ_cons, List.take_succ_cons, List.take_zero, List.getElem?_cons_zero, List.getElem?_cons_succ] at g0
    obtain ⟨a0, e0, _, _⟩ := DataW.trod_int Try.underlying3 g0
    injection e0 with e0 _
    subst e0
    have g1 := hg 1 _ rfl
    simp only [hC_bool, List.drop_zero, List.drop_succ_cons, List.take_succ_cons, List.take_zero, List.getElem?_cons_zero, List.getElem?_cons_succ] at g1
    obtain ⟨a1, e1, _⟩ := DataW.trod_bool Try.underlying4 g1
    injection e1 with e1 _
    subst e1
    exact ⟨⟨a0, a1⟩, rfl, trivial⟩

theorem szRingerS_any (l : List Rgr) (A : Option Addr) (c : Nat) (left : Int) (w : World) (hl : l.length ≤ 9223372036854775807) (h1 : 0 ≤ left) (h2 : left ≤ 1048576) :
    Calls Try.prog 161 #[.slice A l.length c, .int .i64 left] w fun e w' => ∃ r, e = .returned (.int .i64 r) ∧ SzOk r left l.length (∀ x ∈ l, Ringer_small left x) ∧ Below w.heap.size w w' := by
  by_cases hn : left < l.length
  · go_enter Try.func161, Try.ntmps161
    go_wp2
    go_ret
    exact ⟨_, rfl, .inl (by omega), Below.refl _ _⟩
  · go_enter Try.func161, Try.ntmps161
    go_wp2
    go_ret
    exact ⟨_, rfl, .inr ⟨by omega, by omega, by omega, fun _ _ => trivial⟩, Below.refl _ _⟩

theorem toRinger_any (x : Rgr) (w : World) :
    Calls Try.prog 207 #[.agg #[.int .i64 x.place, .bool x.deaf]] w fun e w' => e = .returned (.agg #[.int .i64 x.place, .bool x.deaf]) ∧ Below w.heap.size w w' := by
  go_enter Try.func207, Try.ntmps207
  go_wp2
  refine bodyPost_ret (v := .agg #[.int .i64 x.place, .bool x.deaf]) (by simp [results, Try.results207, go_sem]) rfl ⟨rfl, ?_⟩
  exact (((Below.refl _ _).alloc (Nat.le_refl _) _).alloc (by simp) _).alloc (by simp <;> omega) _

set_option maxHeartbeats 800000 in
theorem toRingerS_any (l : List Rgr) (A : Option Addr) (c : Nat) (w : World) (h : RdL w w.heap.size A 2 Rgr.enc l) (hl : l.length ≤ 1048576) :
    Calls Try.prog 164 #[.slice A l.length c] w fun e w' => ∃ A', e = .returned (.slice A' l.length l.length) ∧ OwnL w' w.heap.size w'.heap.size A' 2 Rgr.enc l ∧ Below w.heap.size w w' := by
  go_enter Try.func164, Try.ntmps164
  go_wp2_with (refine wpList_make_cellsN rfl 104 _ rfl 196 _ 2 16 rfl Ringer_info rfl .i64 l.length rfl (by omega) (by omega) ?_; intro w1 hc1 hb1)
  go_loopw [4] (fun i wr => ∃ k : Nat, k ≤ l.length ∧ i = .int .i64 k ∧ Cells wr w.heap.size (l.length * 2) (fill Rgr.enc 2 l (fun i => (Value.agg #[.int .i64 0, .bool false]).cells.getD (i % 2) undef) k) ∧ Below w.heap.size w wr) (fun i _ => l.length - (intOf i).toNat)
  case atStart => exact ⟨0, by omega, by rfl, by rw [fill_zero]; exact hc1, hb1⟩
  case round =>
    obtain ⟨k, hk, rfl, hc, hbl⟩ := hrel
    have Hc := Lib.hid hc
    have Hbl := Lib.hid hbl
    have hgs : w.heap.size < wr.heap.size := hc.lt
    clear hc hbl hc1 hb1
    by_cases hlt : k < l.length
    · obtain ⟨g, off, hA, hg, hcell⟩ := h.at hlt
      subst hA
      have r0 := (Hbl.out.cell (p := ⟨g, off + k * 2, none⟩) hg).trans (hcell 0 _ rfl)
      have r1 := (Hbl.out.cell (p := ⟨g, off + k * 2 + 1, none⟩) hg).trans (hcell 1 _ rfl)
      obtain ⟨x, hx⟩ : ∃ x, Hid (l[k] = x) := ⟨l[k], Lib.hid rfl⟩
      rw [hx.out] at r0 r1
      clear hcell h
      go_wp2_with (go_at_call 207; refine (toRinger_any x _).mono ?_; rintro e w' ⟨rfl, hb2⟩; have q0 := (Hc.out.later hb2).cell (i := k * 2) (by omega); have f0 := (Hc.out.later hb2).free (i := k * 2) (by omega); have q1 := (Hc.out.later hb2).cell (i := k * 2 + 1) (by omega); have f1 := (Hc.out.later hb2).free (i := k * 2 + 1) (by omega))
      go_roundw
      case rel => exact ⟨k + 1, by omega, by go_num, (Hc.out.later hb2).fillN (by omega) Rgr_enc_len hlt rfl [_, _] (by rw [hx.out]; rfl), Below.setN (Nat.le_refl _) [_, _] (Hbl.out.trans (hb2.mono (by omega)))⟩
      case measure => simp [intOf]; omega
    · go_wp2
      go_ret
      exact ⟨_, rfl, OwnL.of_fill Hc.out (by omega) (Nat.le_refl _) Hc.out.lt Rgr_enc_len, Hbl.out⟩

theorem eqRinger_t (x : Rgr) (w : World) :
    Calls Try.prog 211 #[.agg #[.int .i64 x.place, .bool x.deaf], .agg #[.int .i64 x.place, .bool x.deaf]] w fun e w' => e = .returned (.bool true) ∧ Below w.heap.size w w' := by
  go_enter Try.func211, Try.ntmps211
  go_wp2
  go_ret
  exact ⟨rfl, ((Below.refl _ _).alloc (Nat.le_refl _) _).alloc (by simp) _⟩

set_option maxHeartbeats 800000 in
theorem eqRingerS_t (l : List Rgr) (A A' : Option Addr) (c c' : Nat) (w : World) (h : RdL w w.heap.size A 2 Rgr.enc l) (h' : RdL w w.heap.size A' 2 Rgr.enc l) (hl : l.length ≤ 4611686018427387904) :
    Calls Try.prog 168 #[.slice A l.length c, .slice A' l.length c'] w fun e w' => e = .returned (.bool true) ∧ Below w.heap.size w w' := by
  go_enter Try.func168, Try.ntmps168
  go_wp2
  go_loopw [5] (fun i wr => ∃ k : Nat, k ≤ l.length ∧ i = .int .i64 k ∧ Below w.heap.size w wr) (fun i _ => l.length - (intOf i).toNat)
  case atStart => exact ⟨0, by omega, by rfl, Below.refl _ _⟩
  case round =>
    obtain ⟨k, hk, rfl, hbl⟩ := hrel
    have Hbl := Lib.hid hbl
    clear hbl
    by_cases hlt : k < l.length
    · obtain ⟨g, off, hA, hg, hcell⟩ := h.at hlt
      obtain ⟨g', off', hA', hg', hcell'⟩ := h'.at hlt
      subst hA hA'
      have r0 := (Hbl.out.cell (p := ⟨g, off + k * 2, none⟩) hg).trans (hcell 0 _ rfl)
      have r1 := (Hbl.out.cell (p := ⟨g, off + k * 2 + 1, none⟩) hg).trans (hcell 1 _ rfl)
      have q0 := (Hbl.out.cell (p := ⟨g', off' + k * 2, none⟩) hg').trans (hcell' 0 _ rfl)
      have q1 := (Hbl.out.cell (p := ⟨g', off' + k * 2 + 1, none⟩) hg').trans (hcell' 1 _ rfl)
      clear hcell hcell' h h'
      generalize l[k] = x at r0 q0 r1 q1
      go_wp2
      go_still_tail 8, (by kernel_rfl)
      change wpList _ _ _ _ _ wr.drew
      have Hbl2 := Lib.hid Hbl.out.drew
      generalize wr.drew = w2 at *
      have hgs2 := Hbl2.out.size
      go_wp2_with (go_at_call 211; refine (eqRinger_t x _).mono ?_; rintro e w' ⟨rfl, hb2⟩)
      go_roundw
      case rel => exact ⟨k + 1, by omega, by go_num, Hbl2.out.trans (hb2.mono hgs2)⟩
      case measure => simp [intOf]; omega
    · go_wp2
      go_ret
      exact ⟨rfl, Hbl.out⟩

/-- What the marks make of a list of so many elements. -/
def markRingerL (m q : Nat) : List Rgr := (List.range m).map fun i : Nat => (⟨((q + i * 2 : Nat) : Int), (((q + i * 2 + 1) % 3 == 0))⟩ : Rgr)
theorem markRingerL_len (m q : Nat) : (markRingerL m q).length = m := by simp [markRingerL]
theorem markRingerL_at (m q i : Nat) (hi : i < (markRingerL m q).length) : (markRingerL m q)[i] = (⟨((q + i * 2 : Nat) : Int), (((q + i * 2 + 1) % 3 == 0))⟩ : Rgr) := by simp [markRingerL]
theorem markRinger_enc (q k : Nat) : Rgr.enc (⟨((q + k * 2 : Nat) : Int), (((q + k * 2 + 1) % 3 == 0))⟩ : Rgr) = [.int .i64 ((q : Int) + (k : Int) * 2), .bool (((q : Int) + (k : Int) * 2 + 1) % 3 == 0)] := by
  have e1 : ((q + k * 2 : Nat) : Int) = (q : Int) + (k : Int) * 2 := by omega
  have e2 : ((q + k * 2 + 1) % 3 == 0) = (((q : Int) + (k : Int) * 2 + 1) % 3 == 0) := by
    rw [Bool.eq_iff_iff, beq_iff_eq, beq_iff_eq]; omega
  simp only [Rgr.enc, e1, e2]
set_option maxHeartbeats 1600000 in
theorem markRingerS_any (l : List Rgr) (b d : Nat) (A : Option Addr) (c q : Nat) (w : World) (h : OwnL w b d A 2 Rgr.enc l) (hl : l.length ≤ 1048576) (hq0 : 0 < q) (hq : q ≤ 100000000000) :
    Calls Try.prog 169 #[.slice A l.length c, .int .i64 q] w fun e w' => e = .returned (.int .i64 ((q + l.length * 2 : Nat) : Int)) ∧ OwnL w' b d A 2 Rgr.enc (markRingerL l.length q) ∧ Chg b d w w' := by
  rcases Nat.eq_zero_or_pos l.length with h0 | hpos
  · have e0 : l = [] := List.eq_nil_of_length_eq_zero h0
    subst e0
    go_enter Try.func169, Try.ntmps169
    go_wp2
    go_loop [1, 5] (fun v i => v = .int .i64 q ∧ i = .int .i64 0) (fun _ _ => 0)
    case atStart => exact ⟨rfl, rfl⟩
    case round =>
      obtain ⟨rfl, rfl⟩ := hrel
      go_wp2
      go_ret
      exact ⟨by simp, .inl rfl, Chg.refl _ _ _⟩
  · obtain ⟨g, f, hA, hgb, hgc, hc0⟩ := h.cells hpos
    subst hA
    have HC0 := Lib.hid hc0
    clear hc0
    have em : (markRingerL l.length q).length = l.length := markRingerL_len _ _
    have Em := Lib.hid em
    clear em
    go_enter Try.func169, Try.ntmps169
    go_wp2
    go_loopw [1, 5] (fun v i wr => ∃ k : Nat, k ≤ l.length ∧ i = .int .i64 k ∧ v = .int .i64 ((q + k * 2 : Nat) : Int) ∧ Cells wr g (l.length * 2) (fill Rgr.enc 2 (markRingerL l.length q) f k) ∧ Chg b d w wr) (fun _ i _ => l.length - (intOf i).toNat)
    case atStart => exact ⟨0, by omega, by rfl, by simp, by rw [fill_zero]; exact HC0.out, Chg.refl _ _ _⟩
    case round =>
      obtain ⟨k, hk, rfl, rfl, hc, hch⟩ := hrel
      have Hc := Lib.hid hc
      have Hch := Lib.hid hch
      clear hc hch h
      by_cases hlt : k < l.length
      · have q0 := Hc.out.cell (i := k * 2) (by omega)
        have f0 := Hc.out.free (i := k * 2) (by omega)
        have q1 := Hc.out.cell (i := k * 2 + 1) (by omega)
        have f1 := Hc.out.free (i := k * 2 + 1) (by omega)
        go_wp2
        go_roundw
        case rel =>
          refine ⟨k + 1, by omega, by go_num, by first | rfl | (congr 1; simp; done) | (congr 1; simp; omega) | (congr 1; omega), ?_, ?_⟩
          · have hC := ((Hc.out.set (i := k * 2) (by omega) (.int .i64 ((q : Int) + (k : Int) * 2))).set (i := k * 2 + 1) (by omega) (.bool (((q : Int) + (k : Int) * 2 + 1) % 3 == 0)))
            refine hC.as_fill (l := markRingerL l.length q) (p := k * 2) [.int .i64 ((q : Int) + (k : Int) * 2), .bool (((q : Int) + (k : Int) * 2 + 1) % 3 == 0)] ?_ (by omega) Rgr_enc_len (by rw [Em.out]; exact hlt) (by omega) (by rw [markRingerL_at]; exact markRinger_enc q k)
            rw [← updN_cons, ← updN_cons, updN_nil]
          · exact ((Hch.out.setCell (p := ⟨g, k * 2, none⟩) hgb hgc (.int .i64 ((q : Int) + (k : Int) * 2))).setCell (p := ⟨g, k * 2 + 1, none⟩) hgb hgc (.bool (((q : Int) + (k : Int) * 2 + 1) % 3 == 0)))
        case measure => simp [intOf]; omega
      · go_wp2
        go_ret
        obtain rfl : k = l.length := by omega
        refine ⟨rfl, OwnL.of_fill (l := markRingerL l.length q) (k := l.length) (by rw [Em.out]; exact Hc.out) (by rw [Em.out]; exact Nat.le_refl _) hgb hgc Rgr_enc_len, Hch.out⟩

set_option maxHeartbeats 1600000 in
theorem heldRingerS_any (m : Nat) (A : Option Addr) (c q : Nat) (w : World) (h : RdL w w.heap.size A 2 Rgr.enc (markRingerL m q)) (hl : m ≤ 1048576) (hq0 : 0 < q) (hq : q ≤ 100000000000) :
    Calls Try.prog 171 #[.slice A m c, .int .i64 q] w fun e w' => e = .returned (.int .i64 ((q + m * 2 : Nat) : Int)) ∧ Below w.heap.size w w' := by
  have em : (markRingerL m q).length = m := markRingerL_len _ _
  have Em := Lib.hid em
  clear em
  go_enter Try.func171, Try.ntmps171
  go_wp2
  go_loopw [1, 5] (fun v i wr => ∃ k : Nat, k ≤ m ∧ i = .int .i64 k ∧ v = .int .i64 ((q : Int) + (k : Int) * 2) ∧ Below w.heap.size w wr) (fun _ i _ => m - (intOf i).toNat)
  case atStart => exact ⟨0, by omega, by rfl, by simp, Below.refl _ _⟩
  case round =>
    obtain ⟨k, hk, rfl, rfl, hbl⟩ := hrel
    have Hbl := Lib.hid hbl
    clear hbl
    by_cases hlt : k < m
    · obtain ⟨g, off, hA, hg, hcell⟩ := h.at (k := k) (by rw [Em.out]; exact hlt)
      subst hA
      have r0 : wr.cell? ⟨g, off + k * 2, none⟩ = some (.int .i64 ((q : Int) + (k : Int) * 2)) := by
          refine (Hbl.out.cell (p := ⟨g, off + k * 2, none⟩) hg).trans ?_
          have := hcell 0 _ (by rw [markRingerL_at, markRinger_enc]; rfl)
          exact this
      have r1 : wr.cell? ⟨g, off + k * 2 + 1, none⟩ = some (.bool (((q : Int) + (k : Int) * 2 + 1) % 3 == 0)) := by
          refine (Hbl.out.cell (p := ⟨g, off + k * 2 + 1, none⟩) hg).trans ?_
          have := hcell 1 _ (by rw [markRingerL_at, markRinger_enc]; rfl)
          exact this
      have hgw1 : g < wr.heap.size := Nat.lt_of_lt_of_le hg Hbl.out.size
      have hbz1 : w.heap.size ≤ wr.heap.size := Hbl.out.size
      clear hcell h
      go_wp2
      go_roundw
      case rel =>
        exact ⟨k + 1, by omega, by go_num, by congr 1; omega, Hbl.out⟩
      case measure => simp [intOf]; omega
    · go_wp2
      go_ret
      obtain rfl : k = m := by omega
      exact ⟨ret_int (by omega), Hbl.out⟩

end Go.Proofs.Ytdecjijldcbnjaa