/-
  Contracts of the helper functions that the laws use for lists of Blow.
-/
import Derived.Test.YtebmlcollanfhaaRows
import Derived.Test.YtebmlcollanfhaaMark
import Derived.Test.YtebmlcollanfhaaOpen
import Derived.StillTailTactics
import Derived.Deep.RegionHeld3
namespace Go.Proofs.Ytebmlcollanfhaa
open Go.RowKit Go.ChangeShapes Go.WideShapes
set_option linter.unusedVariables false
set_option linter.unusedSimpArgs false
set_option maxRecDepth 100000


structure Blw where
  row : Int
  place : Int
  at_ : Int

def Blw.enc (x : Blw) : List Value := [.int .i64 x.row, .int .i64 x.place, .int .i64 x.at_]
theorem Blw_enc_len (x : Blw) : (Blw.enc x).length = 3 := rfl
def Blow_small (lim : Int) (x : Blw) : Prop := True
theorem Blow_info : (Try.prog.info? 156).map (fun i => (i.zero, i.size, i.bytes)) = some (some (.agg #[.int .i64 0, .int .i64 0, .int .i64 0]), 3, 24) := by kernel_rfl

theorem Blow_el {H : Type} {en : TypeId × Value → H} {w : World} {base : Nat} {spare : Nat → Bool} {held : Bool} (n : Nat) (cs : List Value) (y : DataW H × List MemPlace) (h : DataW.trod en Try.prog w base spare held n 158 cs = some y) : ∃ x : Blw, cs = Blw.enc x ∧ Blow_small 9223372036854775807 x := by
  obtain ⟨xs, m, _, _, hlen, hxl, hg⟩ := DataW.trod_struct Try.underlying158 h
  have hC : Try.prog.cellsOf 158 = 3 := by kernel_rfl
  have hC_int : Try.prog.cellsOf 3 = 1 := by kernel_rfl
  rw [hC] at hlen
  match cs, hlen, xs, hxl with
  | [c0, c1, c2], _, [x0, x1, x2], _ =>
    have g0 := hg 0 _ rfl
    simp only [hC_int, List.drop_zero, List.drop_succ_cons, List.take_succ_cons, List.take_zero, List.getElem?_cons_zero, List.getElem?_cons_succ] at g0
    obtain ⟨a0, e0, _, _⟩ := DataW.trod_int Try.underlying3 g0
    injection e0 with e0 _
    subst e0
    have g1 := hg 1 _ rfl
    simp only [hC_int, List.drop_zero, List.drop_succ_cons, List.take_succ_cons, List.take_zero, List.getElem?_cons_zero, List.getElem?_cons_succ] at g1
    obtain ⟨a1, e1, _, _⟩ := DataW.trod_int Try.underlying3 g1
    injection e1 with e1 _
    subst e1
    have g2 := hg 2 _ rfl
    simp only [hC_int, List.drop_zero, List.drop_succ_cons, List.take_succ_cons, List.take_zero, List.getElem?_cons_zero, List.getElem?_cons_succ] at g2
    obtain ⟨a2, e2, _, _⟩ := DataW.trod_int Try.underlying3 g2
    injection e2 with e2 _
    subst e2
    exact ⟨⟨a0, a1, a2⟩, rfl, trivial⟩

theorem szBlowS_any (l : List Blw) (A : Option Addr) (c : Nat) (left : Int) (w : World) (hl : l.length ≤ 9223372036854775807) (h1 : 0 ≤ left) (h2 : left ≤ 1048576) :
    Calls Try.prog 57 #[.slice A l.length c, .int .i64 left] w fun e w' => ∃ r, e = .returned (.int .i64 r) ∧ SzOk r left l.length (∀ x ∈ l, Blow_small left x) ∧ Below w.heap.size w w' := by
  by_cases hn : left < l.length
  · go_enter Try.func57, Try.ntmps57
    go_wp2
    go_ret
    exact ⟨_, rfl, .inl (by omega), Below.refl _ _⟩
  · go_enter Try.func57, Try.ntmps57
    go_wp2
    go_ret
    exact ⟨_, rfl, .inr ⟨by omega, by omega, by omega, fun _ _ => trivial⟩, Below.refl _ _⟩

theorem toBlow_any (x : Blw) (w : World) :
    Calls Try.prog 135 #[.agg #[.int .i64 x.row, .int .i64 x.place, .int .i64 x.at_]] w fun e w' => e = .returned (.agg #[.int .i64 x.row, .int .i64 x.place, .int .i64 x.at_]) ∧ Below w.heap.size w w' := by
  go_enter Try.func135, Try.ntmps135
  go_wp2
  refine bodyPost_ret (v := .agg #[.int .i64 x.row, .int .i64 x.place, .int .i64 x.at_]) (by simp [results, Try.results135, go_sem]) rfl ⟨rfl, ?_⟩
  exact (((Below.refl _ _).alloc (Nat.le_refl _) _).alloc (by simp) _).alloc (by simp <;> omega) _

set_option maxHeartbeats 800000 in
theorem toBlowS_any (l : List Blw) (A : Option Addr) (c : Nat) (w : World) (h : RdL w w.heap.size A 3 Blw.enc l) (hl : l.length ≤ 1048576) :
    Calls Try.prog 59 #[.slice A l.length c] w fun e w' => ∃ A', e = .returned (.slice A' l.length l.length) ∧ OwnL w' w.heap.size w'.heap.size A' 3 Blw.enc l ∧ Below w.heap.size w w' := by
  go_enter Try.func59, Try.ntmps59
  go_wp2_with (refine wpList_make_cellsN rfl 81 _ rfl 156 _ 3 24 rfl Blow_info rfl .i64 l.length rfl (by omega) (by omega) ?_; intro w1 hc1 hb1)
  go_loopw [4] (fun i wr => ∃ k : Nat, k ≤ l.length ∧ i = .int .i64 k ∧ Cells wr w.heap.size (l.length * 3) (fill Blw.enc 3 l (fun i => (Value.agg #[.int .i64 0, .int .i64 0, .int .i64 0]).cells.getD (i % 3) undef) k) ∧ Below w.heap.size w wr) (fun i _ => l.length - (intOf i).toNat)
  case atStart => exact ⟨0, by omega, by rfl, by rw [fill_zero]; exact hc1, hb1⟩
  case round =>
    obtain ⟨k, hk, rfl, hc, hbl⟩ := hrel
    have Hc := Lib.hid hc
    have Hbl := Lib.hid hbl
    have hgs : w.heap.size < wr.heap.size := hc.lt
    clear hc hbl hc1 hb1
    by_cases hlt : k < l.length
    · obtain ⟨g, off, hA, hg, hcell⟩ := h.at hlt
      subst hA
      have r0 := (Hbl.out.cell (p := ⟨g, off + k * 3, none⟩) hg).trans (hcell 0 _ rfl)
      have r1 := (Hbl.out.cell (p := ⟨g, off + k * 3 + 1, none⟩) hg).trans (hcell 1 _ rfl)
      have r2 := (Hbl.out.cell (p := ⟨g, off + k * 3 + 2, none⟩) hg).trans (hcell 2 _ rfl)
      obtain ⟨x, hx⟩ : ∃ x, Hid (l[k] = x) := ⟨l[k], Lib.hid rfl⟩
      rw [hx.out] at r0 r1 r2
      clear hcell h
      go_wp2_with (go_at_call 135; refine (toBlow_any x _).mono ?_; rintro e w' ⟨rfl, hb2⟩; have q0 := (Hc.out.later hb2).cell (i := k * 3) (by omega); have f0 := (Hc.out.later hb2).free (i := k * 3) (by omega); have q1 := (Hc.out.later hb2).cell (i := k * 3 + 1) (by omega); have f1 := (Hc.out.later hb2).free (i := k * 3 + 1) (by omega); have q2 := (Hc.out.later hb2).cell (i := k * 3 + 2) (by omega); have f2 := (Hc.out.later hb2).free (i := k * 3 + 2) (by omega))
      go_roundw
      case rel => exact ⟨k + 1, by omega, by go_num, (Hc.out.later hb2).fillN (by omega) Blw_enc_len hlt rfl [_, _, _] (by rw [hx.out]; rfl), Below.setN (Nat.le_refl _) [_, _, _] (Hbl.out.trans (hb2.mono (by omega)))⟩
      case measure => simp [intOf]; omega
    · go_wp2
      go_ret
      exact ⟨_, rfl, OwnL.of_fill Hc.out (by omega) (Nat.le_refl _) Hc.out.lt Blw_enc_len, Hbl.out⟩

theorem eqBlow_t (x : Blw) (w : World) :
    Calls Try.prog 138 #[.agg #[.int .i64 x.row, .int .i64 x.place, .int .i64 x.at_], .agg #[.int .i64 x.row, .int .i64 x.place, .int .i64 x.at_]] w fun e w' => e = .returned (.bool true) ∧ Below w.heap.size w w' := by
  go_enter Try.func138, Try.ntmps138
  go_wp2
  go_ret
  exact ⟨rfl, ((Below.refl _ _).alloc (Nat.le_refl _) _).alloc (by simp) _⟩

set_option maxHeartbeats 800000 in
theorem eqBlowS_t (l : List Blw) (A A' : Option Addr) (c c' : Nat) (w : World) (h : RdL w w.heap.size A 3 Blw.enc l) (h' : RdL w w.heap.size A' 3 Blw.enc l) (hl : l.length ≤ 4611686018427387904) :
    Calls Try.prog 61 #[.slice A l.length c, .slice A' l.length c'] w fun e w' => e = .returned (.bool true) ∧ Below w.heap.size w w' := by
  go_enter Try.func61, Try.ntmps61
  go_wp2
  go_loopw [5] (fun i wr => ∃ k : Nat, k ≤ l.length ∧ i = .int .i64 k ∧ Below w.heap.size w wr) (fun i _ => l.length - (intOf i).toNat)
  case atStart => exact ⟨0, by omega, by rfl, Below.refl _ _⟩
  case round =>
    obtain ⟨k, hk, rfl, hbl⟩ := hrel
    have Hbl := Lib.hid hbl
    clear hbl
    by_cases hlt : k < l.length
    · obtain ⟨g, off, hA, hg, hcell⟩ := h.at hlt
      obtain ⟨g', off', hA', hg', hcell'⟩ := h'.at hlt
      subst hA hA'
      have r0 := (Hbl.out.cell (p := ⟨g, off + k * 3, none⟩) hg).trans (hcell 0 _ rfl)
      have r1 := (Hbl.out.cell (p := ⟨g, off + k * 3 + 1, none⟩) hg).trans (hcell 1 _ rfl)
      have r2 := (Hbl.out.cell (p := ⟨g, off + k * 3 + 2, none⟩) hg).trans (hcell 2 _ rfl)
      have q0 := (Hbl.out.cell (p := ⟨g', off' + k * 3, none⟩) hg').trans (hcell' 0 _ rfl)
      have q1 := (Hbl.out.cell (p := ⟨g', off' + k * 3 + 1, none⟩) hg').trans (hcell' 1 _ rfl)
      have q2 := (Hbl.out.cell (p := ⟨g', off' + k * 3 + 2, none⟩) hg').trans (hcell' 2 _ rfl)
      clear hcell hcell' h h'
      generalize l[k] = x at r0 q0 r1 q1 r2 q2
      go_wp2
      go_still_tail 8, (by kernel_rfl)
      change wpList _ _ _ _ _ wr.drew
      have Hbl2 := Lib.hid Hbl.out.drew
      generalize wr.drew = w2 at *
      have hgs2 := Hbl2.out.size
      go_wp2_with (go_at_call 138; refine (eqBlow_t x _).mono ?_; rintro e w' ⟨rfl, hb2⟩)
      go_roundw
      case rel => exact ⟨k + 1, by omega, by go_num, Hbl2.out.trans (hb2.mono hgs2)⟩
      case measure => simp [intOf]; omega
    · go_wp2
      go_ret
      exact ⟨rfl, Hbl.out⟩

/-- What the marks make of a list of so many elements. -/
def markBlowL (m q : Nat) : List Blw := (List.range m).map fun i : Nat => (⟨((q + i * 3 : Nat) : Int), ((q + i * 3 + 1 : Nat) : Int), ((q + i * 3 + 2 : Nat) : Int)⟩ : Blw)
theorem markBlowL_len (m q : Nat) : (markBlowL m q).length = m := by simp [markBlowL]
theorem markBlowL_at (m q i : Nat) (hi : i < (markBlowL m q).length) : (markBlowL m q)[i] = (⟨((q + i * 3 : Nat) : Int), ((q + i * 3 + 1 : Nat) : Int), ((q + i * 3 + 2 : Nat) : Int)⟩ : Blw) := by simp [markBlowL]
end Go.Proofs.Ytebmlcollanfhaa