import Derived.Test.YtbfhfnejppfehaaGreatRows
import Derived.Test.YtbfhfnejppfehaaGreatMRowsSaidL03
import Derived.StillTailTactics
import Derived.Deep.RegionHeld3
/-
  Contracts of the helper functions that the laws use for lists of Spoken.
-/
namespace Go.Proofs.YtbfhfnejppfehaaGreat
open Go.RowKit Go.ChangeShapes Go.WideShapes
set_option linter.unusedVariables false
set_option linter.unusedSimpArgs false
set_option maxRecDepth 100000


structure Spk where
  row : Int
  word : ByteArray

def Spk.enc (x : Spk) : List Value := [.int .i64 x.row, .string x.word]
theorem Spk_enc_len (x : Spk) : (Spk.enc x).length = 2 := rfl
def Spoken_small (lim : Int) (x : Spk) : Prop := (x.word.size : Int) ≤ lim
theorem Spoken_info : (Tryz.prog.info? 115).map (fun i => (i.zero, i.size, i.bytes)) = some (some (.agg #[.int .i64 0, .string ⟨#[]⟩]), 2, 24) := by kernel_rfl

theorem Spoken_el {H : Type} {en : TypeId × Value → H} {w : World} {base : Nat} {spare : Nat → Bool} {held : Bool} (n : Nat) (cs : List Value) (y : DataW H × List MemPlace) (h : DataW.trod en Tryz.prog w base spare held n 111 cs = some y) : ∃ x : Spk, cs = Spk.enc x ∧ Spoken_small 9223372036854775807 x := by
  obtain ⟨xs, m, _, _, hlen, hxl, hg⟩ := DataW.trod_struct Tryz.underlying111 h
  have hC : Tryz.prog.cellsOf 111 = 2 := by kernel_rfl
  have hC_int : Tryz.prog.cellsOf 3 = 1 := by kernel_rfl
  have hC_string : Tryz.prog.cellsOf 9 = 1 := by kernel_rfl
  rw [hC] at hlen
  match cs, hlen, xs, hxl with
  | [c0, c1], _, [x0, x1], _ =>
    have g0 := hg 0 _ rfl
    simp only [hC_int, List.drop_zero, List.drop_succ_cons, List.take_succ_cons, List.take_zero, List.getElem?_cons_zero, List.getElem?_cons_succ] at g0
    obtain ⟨a0, e0, _, _⟩ := DataW.trod_int Tryz.underlying3 g0
    injection e0 with e0 _
    subst e0
    have g1 := hg 1 _ rfl
    simp only [hC_string, List.drop_zero, List.drop_succ_cons, List.take_succ_cons, List.take_zero, List.getElem?_cons_zero, List.getElem?_cons_succ] at g1
    obtain ⟨a1, e1, _, s1⟩ := DataW.trod_string Tryz.underlying9 g1
    injection e1 with e1 _
    subst e1
    exact ⟨⟨a0, a1⟩, rfl, by simp only [Spoken_small]; unfold maxLen at s1; omega⟩

theorem szSpoken_any (x : Spk) (left : Int) (w : World) (h1 : 0 ≤ left) (h2 : left ≤ 1048576) (hs : Spoken_small 9223372036854775807 x) :
    Calls Tryz.prog 75 #[.agg #[.int .i64 x.row, .string x.word], .int .i64 left] w fun e w' => ∃ r, e = .returned (.int .i64 r) ∧ (r = -1 ∨ (0 ≤ r ∧ r ≤ left ∧ Spoken_small left x)) ∧ Below w.heap.size w w' := by
  simp only [Spoken_small] at hs
  have s0 := hs
  go_enter Tryz.func75, Tryz.ntmps75
  go_wp2
  all_goals
    go_ret
    refine ⟨_, rfl, ?_, (by repeat (first | exact Below.refl _ _ | (refine Below.alloc ?_ (by simp <;> omega) _) | (refine Below.drew ?_) | (refine below_drewN ?_ _)))⟩
    first
      | exact .inl rfl
      | (refine .inr ⟨by omega, by omega, ?_⟩; simp only [Spoken_small]; (repeat' apply And.intro) <;> omega)

set_option maxHeartbeats 800000 in
theorem szSpokenS_any (l : List Spk) (A : Option Addr) (c : Nat) (left : Int) (w : World) (h : RdL w w.heap.size A 2 Spk.enc l) (hl : l.length ≤ 9223372036854775807) (h1 : 0 ≤ left) (h2 : left ≤ 1048576) (hs : ∀ x ∈ l, Spoken_small 9223372036854775807 x) :
    Calls Tryz.prog 19 #[.slice A l.length c, .int .i64 left] w fun e w' => ∃ r, e = .returned (.int .i64 r) ∧ SzOk r left l.length (∀ x ∈ l, Spoken_small left x) ∧ Below w.heap.size w w' := by
  have Hs := Lib.hid hs
  clear hs
  by_cases hn : left < l.length
  · go_enter Tryz.func19, Tryz.ntmps19
    go_wp2
    go_ret
    exact ⟨_, rfl, .inl (by omega), Below.refl _ _⟩
  · go_enter Tryz.func19, Tryz.ntmps19
    go_wp2
    go_loopw [1, 5] (fun v i wr => ∃ (k : Nat) (r : Int), k ≤ l.length ∧ i = .int .i64 k ∧ v = .int .i64 r ∧ 0 ≤ r ∧ r ≤ left ∧ (∀ (j : Nat) (hj : j < l.length), j < k → Spoken_small left l[j]) ∧ Below w.heap.size w wr) (fun _ i _ => l.length - (intOf i).toNat)
    case atStart => exact ⟨0, left - l.length, by omega, by rfl, rfl, by omega, by omega, fun j _ hj => by omega, Below.refl _ _⟩
    case round =>
      obtain ⟨k, r, hk, rfl, rfl, hr0, hr1, hsm, hbl⟩ := hrel
      have Hbl := Lib.hid hbl
      have Hsm := Lib.hid hsm
      clear hbl hsm
      by_cases hlt : k < l.length
      · obtain ⟨g, off, hA, hg, hcell⟩ := h.at hlt
        subst hA
        have r0 := (Hbl.out.cell (p := ⟨g, off + k * 2, none⟩) hg).trans (hcell 0 _ rfl)
        have r1 := (Hbl.out.cell (p := ⟨g, off + k * 2 + 1, none⟩) hg).trans (hcell 1 _ rfl)
        have hgs := Hbl.out.size
        obtain ⟨x, hx⟩ : ∃ x, Hid (l[k] = x) := ⟨l[k], Lib.hid rfl⟩
        have hxs : Spoken_small 9223372036854775807 x := by have := Hs.out _ (List.getElem_mem hlt); rw [hx.out] at this; exact this
        rw [hx.out] at r0 r1
        clear hcell h

        have Hxs := Lib.hid hxs
        clear hxs
        go_wp2_with (go_at_call 75; refine (szSpoken_any x r _ hr0 (by omega) Hxs.out).mono ?_; rintro e w' ⟨q, rfl, hq, hb2⟩; have Hq := Lib.hid hq; clear hq)
        all_goals
          first
            | (go_ret
               exact ⟨-1, rfl, .inl (by omega), Hbl.out.trans (hb2.mono hgs)⟩)
            | (have hq := Hq.out.resolve_left (by omega)
               go_roundw
               case rel =>
                 refine ⟨k + 1, _, by omega, by go_num, rfl, by omega, by omega, fun j hj hj1 => ?_, Hbl.out.trans (hb2.mono hgs)⟩
                 rcases Nat.lt_or_eq_of_le (Nat.le_of_lt_succ hj1) with h' | rfl
                 · exact Hsm.out j hj h'
                 · rw [hx.out]; have := hq.2.2; simp only [Spoken_small] at this ⊢; omega
               case measure => simp [intOf]; omega)
      · go_wp2
        go_ret
        refine ⟨_, rfl, .inr ⟨hr0, hr1, by omega, fun x hx => ?_⟩, Hbl.out⟩
        obtain ⟨j, hj, rfl⟩ := List.getElem_of_mem hx
        exact Hsm.out j hj (by omega)

theorem toSpoken_any (x : Spk) (w : World) :
    Calls Tryz.prog 79 #[.agg #[.int .i64 x.row, .string x.word]] w fun e w' => e = .returned (.agg #[.int .i64 x.row, .string x.word]) ∧ Below w.heap.size w w' := by
  go_enter Tryz.func79, Tryz.ntmps79
  go_wp2
  refine bodyPost_ret (v := .agg #[.int .i64 x.row, .string x.word]) (by simp [results, Tryz.results79, go_sem]) rfl ⟨rfl, ?_⟩
  exact (((Below.refl _ _).alloc (Nat.le_refl _) _).alloc (by simp) _).alloc (by simp <;> omega) _

set_option maxHeartbeats 800000 in
theorem toSpokenS_any (l : List Spk) (A : Option Addr) (c : Nat) (w : World) (h : RdL w w.heap.size A 2 Spk.enc l) (hl : l.length ≤ 1048576) :
    Calls Tryz.prog 23 #[.slice A l.length c] w fun e w' => ∃ A', e = .returned (.slice A' l.length l.length) ∧ OwnL w' w.heap.size w'.heap.size A' 2 Spk.enc l ∧ Below w.heap.size w w' := by
  go_enter Tryz.func23, Tryz.ntmps23
  go_wp2_with (refine wpList_make_cellsN rfl 58 _ rfl 115 _ 2 24 rfl Spoken_info rfl .i64 l.length rfl (by omega) (by omega) ?_; intro w1 hc1 hb1)
  go_loopw [4] (fun i wr => ∃ k : Nat, k ≤ l.length ∧ i = .int .i64 k ∧ Cells wr w.heap.size (l.length * 2) (fill Spk.enc 2 l (fun i => (Value.agg #[.int .i64 0, .string ⟨#[]⟩]).cells.getD (i % 2) undef) k) ∧ Below w.heap.size w wr) (fun i _ => l.length - (intOf i).toNat)
  case atStart => exact ⟨0, by omega, by rfl, by rw [fill_zero]; exact hc1, hb1⟩
  case round =>
    obtain ⟨k, hk, rfl, hc, hbl⟩ := hrel
    have Hc := Lib.hid hc
    have Hbl := Lib.hid hbl
    have hgs : w.heap.size < wr.heap.size := hc.lt
    clear hc hbl hc1 hb1
    by_cases hlt : k < l.length
    · obtain ⟨g, off, hA, hg, hcell⟩ := h.at hlt
      subst hA
      have r0 := (Hbl.out.cell (p := ⟨g, off + k * 2, none⟩) hg).trans (hcell 0 _ rfl)
      have r1 := (Hbl.out.cell (p := ⟨g, off + k * 2 + 1, none⟩) hg).trans (hcell 1 _ rfl)
      obtain ⟨x, hx⟩ : ∃ x, Hid (l[k] = x) := ⟨l[k], Lib.hid rfl⟩
      rw [hx.out] at r0 r1
      clear hcell h
      go_wp2_with (go_at_call 79; refine (toSpoken_any x _).mono ?_; rintro e w' ⟨rfl, hb2⟩; have q0 := (Hc.out.later hb2).cell (i := k * 2) (by omega); have f0 := (Hc.out.later hb2).free (i := k * 2) (by omega); have q1 := (Hc.out.later hb2).cell (i := k * 2 + 1) (by omega); have f1 := (Hc.out.later hb2).free (i := k * 2 + 1) (by omega))
      go_roundw
      case rel => exact ⟨k + 1, by omega, by go_num, (Hc.out.later hb2).fillN (by omega) Spk_enc_len hlt rfl [_, _] (by rw [hx.out]; rfl), Below.setN (Nat.le_refl _) [_, _] (Hbl.out.trans (hb2.mono (by omega)))⟩
      case measure => simp [intOf]; omega
    · go_wp2
      go_ret
      exact ⟨_, rfl, OwnL.of_fill Hc.out (by omega) (Nat.le_refl _) Hc.out.lt Spk_enc_len, Hbl.out⟩

theorem eqSpoken_t (x : Spk) (w : World) :
    Calls Tryz.prog 84 #[.agg #[.int .i64 x.row, .string x.word], .agg #[.int .i64 x.row, .string x.word]] w fun e w' => e = .returned (.bool true) ∧ Below w.heap.size w w' := by
  go_enter Tryz.func84, Tryz.ntmps84
  go_wp2
  go_ret
  exact ⟨rfl, ((Below.refl _ _).alloc (Nat.le_refl _) _).alloc (by simp) _⟩

set_option maxHeartbeats 800000 in
theorem eqSpokenS_t (l : List Spk) (A A' : Option Addr) (c c' : Nat) (w : World) (h : RdL w w.heap.size A 2 Spk.enc l) (h' : RdL w w.heap.size A' 2 Spk.enc l) (hl : l.length ≤ 4611686018427387904) :
    Calls Tryz.prog 27 #[.slice A l.length c, .slice A' l.length c'] w fun e w' => e = .returned (.bool true) ∧ Below w.heap.size w w' := by
  go_enter Tryz.func27, Tryz.ntmps27
  go_wp2
  go_loopw [5] (fun i wr => ∃ k : Nat, k ≤ l.length ∧ i = .int .i64 k ∧ Below w.heap.size w wr) (fun i _ => l.length - (intOf i).toNat)
  case atStart => exact ⟨0, by omega, by rfl, Below.refl _ _⟩
  case round =>
    obtain ⟨k, hk, rfl, hbl⟩ := hrel
    have Hbl := Lib.hid hbl
    clear hbl
    by_cases hlt : k < l.length
    · obtain ⟨g, off, hA, hg, hcell⟩ := h.at hlt
      obtain ⟨g', off', hA', hg', hcell'⟩ := h'.at hlt
      subst hA hA'
      have r0 := (Hbl.out.cell (p := ⟨g, off + k * 2, none⟩) hg).trans (hcell 0 _ rfl)
      have r1 := (Hbl.out.cell (p := ⟨g, off + k * 2 + 1, none⟩) hg).trans (hcell 1 _ rfl)
      have q0 := (Hbl.out.cell (p := ⟨g', off' + k * 2, none⟩) hg').trans (hcell' 0 _ rfl)
      have q1 := (Hbl.out.cell (p := ⟨g', off' + k * 2 + 1, none⟩) hg').trans (hcell' 1 _ rfl)
      clear hcell hcell' h h'
      generalize l[k] = x at r0 q0 r1 q1
      go_wp2
      go_still_tail 8, (by kernel_rfl)
      change wpList _ _ _ _ _ wr.drew
      have Hbl2 := Lib.hid Hbl.out.drew
      generalize wr.drew = w2 at *
      have hgs2 := Hbl2.out.size
      go_wp2_with (go_at_call 84; refine (eqSpoken_t x _).mono ?_; rintro e w' ⟨rfl, hb2⟩)
      go_roundw
      case rel => exact ⟨k + 1, by omega, by go_num, Hbl2.out.trans (hb2.mono hgs2)⟩
      case measure => simp [intOf]; omega
    · go_wp2
      go_ret
      exact ⟨rfl, Hbl.out⟩

/-- What the marks make of a list of so many elements. -/
def markSpokenL (m q : Nat) : List Spk := (List.range m).map fun i : Nat => (⟨((q + i * 2 : Nat) : Int), (markT (q + i * 2 + 1))⟩ : Spk)
theorem markSpokenL_len (m q : Nat) : (markSpokenL m q).length = m := by simp [markSpokenL]
theorem markSpokenL_at (m q i : Nat) (hi : i < (markSpokenL m q).length) : (markSpokenL m q)[i] = (⟨((q + i * 2 : Nat) : Int), (markT (q + i * 2 + 1))⟩ : Spk) := by simp [markSpokenL]
set_option maxHeartbeats 1600000 in
theorem markSpokenS_any (l : List Spk) (b d : Nat) (A : Option Addr) (c q : Nat) (w : World) (h : OwnL w b d A 2 Spk.enc l) (hl : l.length ≤ 1048576) (hq0 : 0 < q) (hq : q ≤ 100000000000) :
    Calls Tryz.prog 29 #[.slice A l.length c, .int .i64 q] w fun e w' => e = .returned (.int .i64 ((q + l.length * 2 : Nat) : Int)) ∧ OwnL w' b d A 2 Spk.enc (markSpokenL l.length q) ∧ Chg b d w w' := by
  rcases Nat.eq_zero_or_pos l.length with h0 | hpos
  · have e0 : l = [] := List.eq_nil_of_length_eq_zero h0
    subst e0
    go_enter Tryz.func29, Tryz.ntmps29
    go_wp2
    go_loop [1, 5] (fun v i => v = .int .i64 q ∧ i = .int .i64 0) (fun _ _ => 0)
    case atStart => exact ⟨rfl, rfl⟩
    case round =>
      obtain ⟨rfl, rfl⟩ := hrel
      go_wp2
      go_ret
      exact ⟨by simp, .inl rfl, Chg.refl _ _ _⟩
  · obtain ⟨g, f, hA, hgb, hgc, hc0⟩ := h.cells hpos
    subst hA
    have HC0 := Lib.hid hc0
    clear hc0
    have em : (markSpokenL l.length q).length = l.length := markSpokenL_len _ _
    have Em := Lib.hid em
    clear em
    go_enter Tryz.func29, Tryz.ntmps29
    go_wp2
    go_loopw [1, 5] (fun v i wr => ∃ k : Nat, k ≤ l.length ∧ i = .int .i64 k ∧ v = .int .i64 ((q + k * 2 : Nat) : Int) ∧ Cells wr g (l.length * 2) (fill Spk.enc 2 (markSpokenL l.length q) f k) ∧ Chg b d w wr) (fun _ i _ => l.length - (intOf i).toNat)
    case atStart => exact ⟨0, by omega, by rfl, by simp, by rw [fill_zero]; exact HC0.out, Chg.refl _ _ _⟩
    case round =>
      obtain ⟨k, hk, rfl, rfl, hc, hch⟩ := hrel
      have Hc := Lib.hid hc
      have Hch := Lib.hid hch
      clear hc hch h
      by_cases hlt : k < l.length
      · have q0 := Hc.out.cell (i := k * 2) (by omega)
        have f0 := Hc.out.free (i := k * 2) (by omega)
        have q1 := Hc.out.cell (i := k * 2 + 1) (by omega)
        have f1 := Hc.out.free (i := k * 2 + 1) (by omega)
        go_wp2_with (go_at_call 85; refine (markText_any (q + k * 2 + 1) _ (by omega) (by omega)).mono ?_; rintro e w' ⟨rfl, hm1⟩; have t1_1 := ((Hc.out.set (i := k * 2) (by omega) (.int .i64 ((q + k * 2 : Nat) : Int))).later hm1).cell (i := k * 2 + 1) (by omega); have u1_1 := ((Hc.out.set (i := k * 2) (by omega) (.int .i64 ((q + k * 2 : Nat) : Int))).later hm1).free (i := k * 2 + 1) (by omega))
        go_roundw
        case rel =>
          refine ⟨k + 1, by omega, by go_num, by first | rfl | (congr 1; simp; done) | (congr 1; simp; omega) | (congr 1; omega), ?_, ?_⟩
          · have hC := (((Hc.out.set (i := k * 2) (by omega) (.int .i64 ((q + k * 2 : Nat) : Int))).later hm1).set (i := k * 2 + 1) (by omega) (.string (markT (q + k * 2 + 1))))
            refine hC.as_fill (l := markSpokenL l.length q) (p := k * 2) [.int .i64 ((q + k * 2 : Nat) : Int), .string (markT (q + k * 2 + 1))] ?_ (by omega) Spk_enc_len (by rw [Em.out]; exact hlt) (by omega) (by rw [markSpokenL_at]; rfl)
            rw [← updN_cons, ← updN_cons, updN_nil]
          · exact (((Hch.out.setCell (p := ⟨g, k * 2, none⟩) hgb hgc (.int .i64 ((q + k * 2 : Nat) : Int))).below hm1).setCell (p := ⟨g, k * 2 + 1, none⟩) hgb hgc (.string (markT (q + k * 2 + 1))))
        case measure => simp [intOf]; omega
      · go_wp2
        go_ret
        obtain rfl : k = l.length := by omega
        refine ⟨rfl, OwnL.of_fill (l := markSpokenL l.length q) (k := l.length) (by rw [Em.out]; exact Hc.out) (by rw [Em.out]; exact Nat.le_refl _) hgb hgc Spk_enc_len, Hch.out⟩

end Go.Proofs.YtbfhfnejppfehaaGreat