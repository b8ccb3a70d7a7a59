import Derived.Test.YtbfhfnejppfehaaMSlipsL24
import Derived.Test.YtbfhfnejppfehaaMSlipsL22
import Derived.Test.YtbfhfnejppfehaaMSlipsL07
/-
  Contracts: good slips (both sides).
-/
namespace Go.Proofs.Ytbfhfnejppfehaa
open Go.RowKit
set_option linter.unusedVariables false
set_option linter.unusedSimpArgs false
set_option maxRecDepth 100000

/-- A slip among so many rows of such a stage. -/
def slipP (n sz : Nat) (x : Slp) : Prop := inB x.row 0 (n - 1) ∧ inB x.a 1 sz ∧ inB x.b (x.a + 1) sz
/-- Good slips. -/
def slipsP (rows : List ByteArray) (l : List Slp) : Prop := rows1 rows ∧ l.length ≤ 20 ∧ ∀ (i : Nat) (hi : i < l.length), slipP rows.length (sz0 rows) l[i] ∧ (∀ (h0 : 0 < i), l[i - 1].row ≤ l[i].row)




set_option maxHeartbeats 6400000 in
theorem sGoodSlips_any (rows : List ByteArray) (l : List Slp) (A A' : Option Addr) (c c' : Nat) (w : World) (h : RdL w w.heap.size A 1 encString rows) (h' : RdL w w.heap.size A' 3 Slp.enc l) (hl : rows.length ≤ 1048576) (hl' : l.length ≤ 1048576)
    (hs : ∀ x ∈ rows, String_small 1048576 x) :
    Calls Try.prog 60 #[.slice A rows.length c, .slice A' l.length c'] w fun e w' => e = .returned (.bool (B (slipsP rows l))) ∧ Below w.heap.size w w' := by
  have Hs := Lib.hid hs
  have Hh := Lib.hid h
  have Hh' := Lib.hid h'
  clear hs h h'
  by_cases h1 : rows1 rows
  rotate_left
  · have e1 := B_f h1
    have H1 := Lib.hid h1
    clear h1
    go_enter Try.func60, Try.ntmps60
    go_wp2_with (go_at_call 100; refine (l25Rows_any rows _ _ _ Hh.out hl Hs.out).mono ?_; rintro e w' ⟨rfl, n, rfl⟩)
    go_ret
    exact ⟨ret_f (fun x => H1.out x.1), below_drewN (Below.refl _ _) _⟩
  have e1 := B_t h1
  have H1 := Lib.hid h1
  clear h1
  by_cases h2 : l.length ≤ 20
  rotate_left
  · go_enter Try.func60, Try.ntmps60
    go_wp2_with (go_at_call 100; refine (l25Rows_any rows _ _ _ Hh.out hl Hs.out).mono ?_; rintro e w' ⟨rfl, n, rfl⟩)
    go_ret
    exact ⟨ret_f (fun x => h2 x.2.1), below_drewN (Below.refl _ _) _⟩
  have H2 := Lib.hid h2
  go_enter Try.func60, Try.ntmps60
  go_wp2_with (go_at_call 100; refine (l25Rows_any rows _ _ _ Hh.out hl Hs.out).mono ?_; rintro e w' ⟨rfl, n, rfl⟩)
  have hpos := H1.out.2
  obtain ⟨g0, off0, s, hA, hg0, hc0, hsz, hmem⟩ := head_rd Hh.out hpos
  subst hA
  have z1 : (s.size : Int) ≤ 1048576 := Hs.out s hmem
  have Hz := Lib.hid hsz
  clear hsz hmem
  go_loopw [17] (fun i wr => ∃ k : Nat, k ≤ l.length ∧ i = .int .i64 k ∧ (∀ (j : Nat) (hj : j < l.length), j < k → slipP rows.length s.size l[j] ∧ (∀ (h0 : 0 < j), l[j - 1].row ≤ l[j].row)) ∧ Below w.heap.size w wr) (fun i _ => l.length - (intOf i).toNat)
  case atStart => exact ⟨0, by omega, by rfl, by omega, below_drewN (Below.refl _ _) _⟩
  case round =>
    obtain ⟨k, hk, rfl, hp, hbl⟩ := hrel
    have Hp := Lib.hid hp
    have Hbl := Lib.hid hbl
    have hgs := hbl.size
    clear hp hbl
    by_cases hlt : k < l.length
    · obtain ⟨g, off, hA, hg, hcell⟩ := Hh'.out.at hlt
      have r0 := (Hbl.out.cell (p := ⟨g, off + k * 3, none⟩) hg).trans (hcell 0 _ rfl)
      have r1 := (Hbl.out.cell (p := ⟨g, off + k * 3 + 1, none⟩) hg).trans (hcell 1 _ rfl)
      have r2 := (Hbl.out.cell (p := ⟨g, off + k * 3 + 2, none⟩) hg).trans (hcell 2 _ rfl)
      obtain ⟨x, hx⟩ : ∃ x, Hid (l[k] = x) := ⟨l[k], Lib.hid rfl⟩
      rw [hx.out] at r0 r1 r2
      have hprev : 0 < k → ∃ p : Slp, Hid (l[k - 1] = p) ∧ wr.cell? ⟨g, off + (k - 1) * 3, none⟩ = some (.int .i64 p.row) := fun h0 => by
        obtain ⟨g', off', hA', hg', hcell'⟩ := Hh'.out.at (k := k - 1) (by omega)
        rw [hA] at hA'
        simp only [Option.some.injEq, Addr.mk.injEq, and_true] at hA'
        obtain ⟨rfl, rfl⟩ := hA'
        exact ⟨_, Lib.hid rfl, (Hbl.out.cell (p := ⟨g, off + (k - 1) * 3, none⟩) hg).trans (hcell' 0 _ rfl)⟩
      subst hA
      clear hcell
      have hgw : g < wr.heap.size := Nat.lt_of_lt_of_le hg hgs
      have hgw0 : g0 < wr.heap.size := Nat.lt_of_lt_of_le hg0 hgs
      have hW : ∃ W : World, Hid (wr.alloc (.cells #[.int .i64 x.row, .int .i64 x.a, .int .i64 x.b] 43) = W) ∧ (∀ y : Later W, y.W.cell? ⟨wr.heap.size, 0, none⟩ = some (.int .i64 x.row)) ∧ (∀ y : Later W, y.W.cell? ⟨wr.heap.size, 1, none⟩ = some (.int .i64 x.a)) ∧ (∀ y : Later W, y.W.cell? ⟨wr.heap.size, 2, none⟩ = some (.int .i64 x.b)) ∧
          (∀ y : Later W, ∀ (o : Nat) (u : Value), wr.cell? ⟨g, o, none⟩ = some u → y.W.cell? ⟨g, o, none⟩ = some u) ∧ (∀ y : Later W, y.W.cell? ⟨g0, off0, none⟩ = some (.string s)) ∧ (∀ y : Later W, Hid (Below w.heap.size w y.W)) := by
        refine ⟨_, Lib.hid rfl, fun y => ?_, fun y => ?_, fun y => ?_, fun y o u hu => ?_, fun y => ?_, fun y => Lib.hid ((Hbl.out.alloc hgs _).trans (y.hb.mono (by simp; omega)))⟩
        · exact (y.hb.cell (p := ⟨wr.heap.size, 0, none⟩) (by simp)).trans (by simp [go_sem])
        · exact (y.hb.cell (p := ⟨wr.heap.size, 1, none⟩) (by simp)).trans (by simp [go_sem])
        · exact (y.hb.cell (p := ⟨wr.heap.size, 2, none⟩) (by simp)).trans (by simp [go_sem])
        · refine (y.hb.cell (p := ⟨g, o, none⟩) (by simp; omega)).trans ?_
          rw [World.cell?_alloc_lt _ _ _ hgw]
          exact hu
        · refine (y.hb.cell (p := ⟨g0, off0, none⟩) (by simp; omega)).trans ?_
          rw [World.cell?_alloc_lt _ _ _ hgw0]
          exact (Hbl.out.cell (p := ⟨g0, off0, none⟩) hg0).trans hc0
      obtain ⟨W, hWe, u0, u1, u2, hold, u4, hbw⟩ := hW
      have Hold := Lib.hid hold
      have Hbw := Lib.hid hbw
      have Hprev := Lib.hid hprev
      clear hold hbw hprev
      by_cases d1 : inB x.row 0 (rows.length - 1)
      rotate_left
      · have f1 := B_f d1
        have D1 := Lib.hid d1
        clear d1
        go_wp2
        rw [hWe.out]
        (refine wp_region_later (by kernel_rfl) (by kernel_rfl) ?_; (repeat (go_big_quiet_step ((first | (go_at_call 90; refine Later.same (l1In_any _ _ _ _)) | (go_at_call 90; refine Later.same (l1In_any _ _ _)))))); refine wpQuiet_nil ?_; intro _ hw'; obtain ⟨y, hw''⟩ := hw'; subst hw'')
        go_wp2
        go_ret
        refine ⟨ret_f (fun h => D1.out ?_), (Hbw.out y).out⟩
        have := (h.2.2 k hlt).1
        rw [hx.out] at this
        exact this.1
      have f1 := B_t d1
      have D1 := Lib.hid d1
      clear d1
      by_cases d2 : inB x.a 1 s.size
      rotate_left
      · have f2 := B_f d2
        have D2 := Lib.hid d2
        clear d2
        go_wp2
        rw [hWe.out]
        (refine wp_region_later (by kernel_rfl) (by kernel_rfl) ?_; (repeat (go_big_quiet_step ((first | (go_at_call 90; refine Later.same (l1In_any _ _ _ _)) | (go_at_call 90; refine Later.same (l1In_any _ _ _)))))); refine wpQuiet_nil ?_; intro _ hw'; obtain ⟨y, hw''⟩ := hw'; subst hw'')
        go_wp2
        go_ret
        refine ⟨ret_f (fun h => D2.out ?_), (Hbw.out y).out⟩
        have := (h.2.2 k hlt).1
        rw [hx.out] at this
        (rw [Hz.out]; exact this.2.1)
      have f2 := B_t d2
      have a1 := d2.1
      have a2 := d2.2
      have D2 := Lib.hid d2
      clear d2
      by_cases d3 : inB x.b (x.a + 1) s.size
      rotate_left
      · have f3 := B_f d3
        have D3 := Lib.hid d3
        clear d3
        go_wp2
        rw [hWe.out]
        (refine wp_region_later (by kernel_rfl) (by kernel_rfl) ?_; (repeat (go_big_quiet_step ((first | (go_at_call 90; refine Later.same (l1In_any _ _ _ _)) | (go_at_call 90; refine Later.same (l1In_any _ _ _)))))); refine wpQuiet_nil ?_; intro _ hw'; obtain ⟨y, hw''⟩ := hw'; subst hw'')
        go_wp2
        go_ret
        refine ⟨ret_f (fun h => D3.out ?_), (Hbw.out y).out⟩
        have := (h.2.2 k hlt).1
        rw [hx.out] at this
        (rw [Hz.out]; exact this.2.2)
      have f3 := B_t d3
      have D3 := Lib.hid d3
      clear d3
      rcases Nat.eq_zero_or_pos k with h0 | hpos
      · subst h0
        simp only [Nat.zero_mul, Nat.add_zero, Nat.zero_add] at r0 r1 r2
        go_wp2
        rw [hWe.out]
        (refine wp_region_later (by kernel_rfl) (by kernel_rfl) ?_; (repeat (go_big_quiet_step ((first | (go_at_call 90; refine Later.same (l1In_any _ _ _ _)) | (go_at_call 90; refine Later.same (l1In_any _ _ _)))))); refine wpQuiet_nil ?_; intro _ hw'; obtain ⟨y, hw''⟩ := hw'; subst hw'')
        go_wp2
        go_roundw
        case rel =>
          refine ⟨1, by omega, by go_num, fun j hj hj1 => ?_, (Hbw.out y).out⟩
          obtain rfl : j = 0 := by omega
          rw [hx.out]
          exact ⟨⟨D1.out, D2.out, D3.out⟩, fun h0 => by omega⟩
        case measure => simp [intOf]; omega
      · obtain ⟨p, hp, rp⟩ := Hprev.out hpos
        obtain ⟨m, rfl⟩ : ∃ m, k = m + 1 := ⟨k - 1, by omega⟩
        have u5 := fun y => Hold.out y _ _ rp
        rw [show m + 1 - 1 = m from rfl] at u5
        clear rp
        by_cases c6 : p.row ≤ x.row
        · go_wp2
          rw [hWe.out]
          (refine wp_region_later (by kernel_rfl) (by kernel_rfl) ?_; (repeat (go_big_quiet_step ((first | (go_at_call 90; refine Later.same (l1In_any _ _ _ _)) | (go_at_call 90; refine Later.same (l1In_any _ _ _)))))); refine wpQuiet_nil ?_; intro _ hw'; obtain ⟨y, hw''⟩ := hw'; subst hw'')
          go_wp2
          go_roundw
          case rel =>
            refine ⟨m + 1 + 1, by omega, by go_num, fun j hj hj1 => ?_, (Hbw.out y).out⟩
            rcases Nat.lt_or_eq_of_le (Nat.le_of_lt_succ hj1) with h' | rfl
            · exact Hp.out j hj h'
            · have := hp.out
              simp only [hx.out]
              exact ⟨⟨D1.out, D2.out, D3.out⟩, fun h0 => by rw [this]; exact c6⟩
          case measure => simp [intOf]; omega
        · go_wp2
          rw [hWe.out]
          (refine wp_region_later (by kernel_rfl) (by kernel_rfl) ?_; (repeat (go_big_quiet_step ((first | (go_at_call 90; refine Later.same (l1In_any _ _ _ _)) | (go_at_call 90; refine Later.same (l1In_any _ _ _)))))); refine wpQuiet_nil ?_; intro _ hw'; obtain ⟨y, hw''⟩ := hw'; subst hw'')
          go_wp2
          go_ret
          refine ⟨ret_f (fun h => ?_), (Hbw.out y).out⟩
          have := (h.2.2 (m + 1) hlt).2 (by omega)
          rw [hx.out, hp.out] at this
          omega
    · obtain rfl : k = l.length := by omega
      go_wp2
      go_ret
      exact ⟨ret_t ⟨H1.out, H2.out, fun i hi => by rw [← Hz.out]; exact Hp.out i hi hi⟩, Hbl.out⟩

set_option maxHeartbeats 6400000 in
theorem iGoodSlips_any (rows : List ByteArray) (l : List Slp) (A A' : Option Addr) (c c' : Nat) (w : World) (h : RdL w w.heap.size A 1 encString rows) (h' : RdL w w.heap.size A' 3 Slp.enc l) (hl : rows.length ≤ 1048576) (hl' : l.length ≤ 1048576)
    (hs : ∀ x ∈ rows, String_small 1048576 x) :
    Calls Try.prog 20 #[.slice A rows.length c, .slice A' l.length c'] w fun e w' => e = .returned (.bool (B (slipsP rows l))) ∧ Below w.heap.size w w' := by
  have Hs := Lib.hid hs
  have Hh := Lib.hid h
  have Hh' := Lib.hid h'
  clear hs h h'
  by_cases h1 : rowsP rows
  rotate_left
  · have e1 := B_f h1
    have H1 := Lib.hid h1
    clear h1
    go_enter Try.func20, Try.ntmps20
    go_wp2_with (go_at_call 64; refine (goodRows_any rows _ _ _ Hh.out hl Hs.out).mono ?_; rintro e w' ⟨rfl, rfl⟩)
    go_ret
    exact ⟨ret_f (fun x => H1.out x.1.1), Below.refl _ _⟩
  have e1 := B_t h1
  by_cases h0 : rows.length = 0
  · have e0 : ((rows.length : Int) == 0) = true := (by rw [beq_iff_eq]; omega)
    have H0 := Lib.hid h0
    clear h0 h1
    go_enter Try.func20, Try.ntmps20
    go_wp2_with (go_at_call 64; refine (goodRows_any rows _ _ _ Hh.out hl Hs.out).mono ?_; rintro e w' ⟨rfl, rfl⟩)
    go_ret
    exact ⟨ret_f (fun x => by have := x.1.2; have := H0.out; omega), Below.refl _ _⟩
  have e0 : ((rows.length : Int) == 0) = false := (by rw [beq_eq_false_iff_ne]; omega)
  have H1 : Hid (rows1 rows) := Lib.hid ⟨h1, by omega⟩
  clear h0 h1
  by_cases h2 : l.length ≤ 20
  rotate_left
  · go_enter Try.func20, Try.ntmps20
    go_wp2_with (go_at_call 64; refine (goodRows_any rows _ _ _ Hh.out hl Hs.out).mono ?_; rintro e w' ⟨rfl, rfl⟩)
    go_ret
    exact ⟨ret_f (fun x => h2 x.2.1), Below.refl _ _⟩
  have H2 := Lib.hid h2
  go_enter Try.func20, Try.ntmps20
  go_wp2_with (go_at_call 64; refine (goodRows_any rows _ _ _ Hh.out hl Hs.out).mono ?_; rintro e w' ⟨rfl, rfl⟩)
  have hpos := H1.out.2
  obtain ⟨g0, off0, s, hA, hg0, hc0, hsz, hmem⟩ := head_rd Hh.out hpos
  subst hA
  have z1 : (s.size : Int) ≤ 1048576 := Hs.out s hmem
  have Hz := Lib.hid hsz
  clear hsz hmem
  go_loopw [22] (fun i wr => ∃ k : Nat, k ≤ l.length ∧ i = .int .i64 k ∧ (∀ (j : Nat) (hj : j < l.length), j < k → slipP rows.length s.size l[j] ∧ (∀ (h0 : 0 < j), l[j - 1].row ≤ l[j].row)) ∧ Below w.heap.size w wr) (fun i _ => l.length - (intOf i).toNat)
  case atStart => exact ⟨0, by omega, by rfl, by omega, Below.refl _ _⟩
  case round =>
    obtain ⟨k, hk, rfl, hp, hbl⟩ := hrel
    have Hp := Lib.hid hp
    have Hbl := Lib.hid hbl
    have hgs := hbl.size
    clear hp hbl
    by_cases hlt : k < l.length
    · obtain ⟨g, off, hA, hg, hcell⟩ := Hh'.out.at hlt
      have r0 := (Hbl.out.cell (p := ⟨g, off + k * 3, none⟩) hg).trans (hcell 0 _ rfl)
      have r1 := (Hbl.out.cell (p := ⟨g, off + k * 3 + 1, none⟩) hg).trans (hcell 1 _ rfl)
      have r2 := (Hbl.out.cell (p := ⟨g, off + k * 3 + 2, none⟩) hg).trans (hcell 2 _ rfl)
      obtain ⟨x, hx⟩ : ∃ x, Hid (l[k] = x) := ⟨l[k], Lib.hid rfl⟩
      rw [hx.out] at r0 r1 r2
      have hprev : 0 < k → ∃ p : Slp, Hid (l[k - 1] = p) ∧ wr.cell? ⟨g, off + (k - 1) * 3, none⟩ = some (.int .i64 p.row) := fun h0 => by
        obtain ⟨g', off', hA', hg', hcell'⟩ := Hh'.out.at (k := k - 1) (by omega)
        rw [hA] at hA'
        simp only [Option.some.injEq, Addr.mk.injEq, and_true] at hA'
        obtain ⟨rfl, rfl⟩ := hA'
        exact ⟨_, Lib.hid rfl, (Hbl.out.cell (p := ⟨g, off + (k - 1) * 3, none⟩) hg).trans (hcell' 0 _ rfl)⟩
      subst hA
      clear hcell
      have hgw : g < wr.heap.size := Nat.lt_of_lt_of_le hg hgs
      have hgw0 : g0 < wr.heap.size := Nat.lt_of_lt_of_le hg0 hgs
      have hW : ∃ W : World, Hid (wr.alloc (.cells #[.int .i64 x.row, .int .i64 x.a, .int .i64 x.b] 43) = W) ∧ (∀ y : Later W, y.W.cell? ⟨wr.heap.size, 0, none⟩ = some (.int .i64 x.row)) ∧ (∀ y : Later W, y.W.cell? ⟨wr.heap.size, 1, none⟩ = some (.int .i64 x.a)) ∧ (∀ y : Later W, y.W.cell? ⟨wr.heap.size, 2, none⟩ = some (.int .i64 x.b)) ∧
          (∀ y : Later W, ∀ (o : Nat) (u : Value), wr.cell? ⟨g, o, none⟩ = some u → y.W.cell? ⟨g, o, none⟩ = some u) ∧ (∀ y : Later W, y.W.cell? ⟨g0, off0, none⟩ = some (.string s)) ∧ (∀ y : Later W, Hid (Below w.heap.size w y.W)) := by
        refine ⟨_, Lib.hid rfl, fun y => ?_, fun y => ?_, fun y => ?_, fun y o u hu => ?_, fun y => ?_, fun y => Lib.hid ((Hbl.out.alloc hgs _).trans (y.hb.mono (by simp; omega)))⟩
        · exact (y.hb.cell (p := ⟨wr.heap.size, 0, none⟩) (by simp)).trans (by simp [go_sem])
        · exact (y.hb.cell (p := ⟨wr.heap.size, 1, none⟩) (by simp)).trans (by simp [go_sem])
        · exact (y.hb.cell (p := ⟨wr.heap.size, 2, none⟩) (by simp)).trans (by simp [go_sem])
        · refine (y.hb.cell (p := ⟨g, o, none⟩) (by simp; omega)).trans ?_
          rw [World.cell?_alloc_lt _ _ _ hgw]
          exact hu
        · refine (y.hb.cell (p := ⟨g0, off0, none⟩) (by simp; omega)).trans ?_
          rw [World.cell?_alloc_lt _ _ _ hgw0]
          exact (Hbl.out.cell (p := ⟨g0, off0, none⟩) hg0).trans hc0
      obtain ⟨W, hWe, u0, u1, u2, hold, u4, hbw⟩ := hW
      have Hold := Lib.hid hold
      have Hbw := Lib.hid hbw
      have Hprev := Lib.hid hprev
      clear hold hbw hprev
      by_cases d2 : inB x.a 1 s.size
      rotate_left
      · have f2 := B_f d2
        have D2 := Lib.hid d2
        clear d2
        go_wp2
        rw [hWe.out]
        (refine wp_region_later (by kernel_rfl) (by kernel_rfl) ?_; (repeat (go_big_quiet_step ((first | (go_at_call 66; refine Later.same (within_any _ _ _ _)) | (go_at_call 65; refine Later.same (isBell_any _ _ _)))))); refine wpQuiet_nil ?_; intro _ hw'; obtain ⟨y, hw''⟩ := hw'; subst hw'')
        go_wp2
        go_ret
        refine ⟨ret_f (fun h => D2.out ?_), (Hbw.out y).out⟩
        have := (h.2.2 k hlt).1
        rw [hx.out] at this
        (rw [Hz.out]; exact this.2.1)
      have f2 := B_t d2
      have D2 := Lib.hid d2
      by_cases d3 : inB x.b 1 s.size
      rotate_left
      · have f3 := B_f d3
        have a1 := d2.1
        have D3 := Lib.hid d3
        clear d2 d3
        go_wp2
        rw [hWe.out]
        (refine wp_region_later (by kernel_rfl) (by kernel_rfl) ?_; (repeat (go_big_quiet_step ((first | (go_at_call 66; refine Later.same (within_any _ _ _ _)) | (go_at_call 65; refine Later.same (isBell_any _ _ _)))))); refine wpQuiet_nil ?_; intro _ hw'; obtain ⟨y, hw''⟩ := hw'; subst hw'')
        go_wp2
        go_ret
        refine ⟨ret_f (fun h => D3.out ?_), (Hbw.out y).out⟩
        have := (h.2.2 k hlt).1
        rw [hx.out] at this
        (rw [Hz.out]; exact ⟨by have := this.2.2.1; omega, this.2.2.2⟩)
      have f3 := B_t d3
      by_cases d4 : x.a < x.b
      rotate_left
      · have D4 := Lib.hid d4
        have g4 : decide (x.b ≤ x.a) = true := (by rw [decide_eq_true_eq]; omega)
        clear d2 d3
        go_wp2
        rw [hWe.out]
        (refine wp_region_later (by kernel_rfl) (by kernel_rfl) ?_; (repeat (go_big_quiet_step ((first | (go_at_call 66; refine Later.same (within_any _ _ _ _)) | (go_at_call 65; refine Later.same (isBell_any _ _ _)))))); refine wpQuiet_nil ?_; intro _ hw'; obtain ⟨y, hw''⟩ := hw'; subst hw'')
        go_wp2
        go_ret
        refine ⟨ret_f (fun h => ?_), (Hbw.out y).out⟩
        have := (h.2.2 k hlt).1
        rw [hx.out] at this
        have := this.2.2.1
        omega
      have D3 : Hid (inB x.b (x.a + 1) s.size) := Lib.hid ⟨by omega, d3.2⟩
      have g4 : decide (x.b ≤ x.a) = false := (by rw [decide_eq_false_iff_not]; omega)
      clear d2 d3
      by_cases d1 : inB x.row 0 (rows.length - 1)
      rotate_left
      · have f1 := B_f d1
        have D1 := Lib.hid d1
        clear d1
        go_wp2
        rw [hWe.out]
        (refine wp_region_later (by kernel_rfl) (by kernel_rfl) ?_; (repeat (go_big_quiet_step ((first | (go_at_call 66; refine Later.same (within_any _ _ _ _)) | (go_at_call 65; refine Later.same (isBell_any _ _ _)))))); refine wpQuiet_nil ?_; intro _ hw'; obtain ⟨y, hw''⟩ := hw'; subst hw'')
        go_wp2
        go_ret
        refine ⟨ret_f (fun h => D1.out ?_), (Hbw.out y).out⟩
        have := (h.2.2 k hlt).1
        rw [hx.out] at this
        exact this.1
      have f1 := B_t d1
      have D1 := Lib.hid d1
      clear d1
      rcases Nat.eq_zero_or_pos k with h0 | hpos
      · subst h0
        simp only [Nat.zero_mul, Nat.add_zero, Nat.zero_add] at r0 r1 r2
        go_wp2
        rw [hWe.out]
        (refine wp_region_later (by kernel_rfl) (by kernel_rfl) ?_; (repeat (go_big_quiet_step ((first | (go_at_call 66; refine Later.same (within_any _ _ _ _)) | (go_at_call 65; refine Later.same (isBell_any _ _ _)))))); refine wpQuiet_nil ?_; intro _ hw'; obtain ⟨y, hw''⟩ := hw'; subst hw'')
        go_wp2
        go_roundw
        case rel =>
          refine ⟨1, by omega, by go_num, fun j hj hj1 => ?_, (Hbw.out y).out⟩
          obtain rfl : j = 0 := by omega
          rw [hx.out]
          exact ⟨⟨D1.out, D2.out, D3.out⟩, fun h0 => by omega⟩
        case measure => simp [intOf]; omega
      · obtain ⟨p, hp, rp⟩ := Hprev.out hpos
        obtain ⟨m, rfl⟩ : ∃ m, k = m + 1 := ⟨k - 1, by omega⟩
        have u5 := fun y => Hold.out y _ _ rp
        rw [show m + 1 - 1 = m from rfl] at u5
        clear rp
        by_cases c6 : p.row ≤ x.row
        · go_wp2
          rw [hWe.out]
          (refine wp_region_later (by kernel_rfl) (by kernel_rfl) ?_; (repeat (go_big_quiet_step ((first | (go_at_call 66; refine Later.same (within_any _ _ _ _)) | (go_at_call 65; refine Later.same (isBell_any _ _ _)))))); refine wpQuiet_nil ?_; intro _ hw'; obtain ⟨y, hw''⟩ := hw'; subst hw'')
          go_wp2
          go_roundw
          case rel =>
            refine ⟨m + 1 + 1, by omega, by go_num, fun j hj hj1 => ?_, (Hbw.out y).out⟩
            rcases Nat.lt_or_eq_of_le (Nat.le_of_lt_succ hj1) with h' | rfl
            · exact Hp.out j hj h'
            · have := hp.out
              simp only [hx.out]
              exact ⟨⟨D1.out, D2.out, D3.out⟩, fun h0 => by rw [this]; exact c6⟩
          case measure => simp [intOf]; omega
        · go_wp2
          rw [hWe.out]
          (refine wp_region_later (by kernel_rfl) (by kernel_rfl) ?_; (repeat (go_big_quiet_step ((first | (go_at_call 66; refine Later.same (within_any _ _ _ _)) | (go_at_call 65; refine Later.same (isBell_any _ _ _)))))); refine wpQuiet_nil ?_; intro _ hw'; obtain ⟨y, hw''⟩ := hw'; subst hw'')
          go_wp2
          go_ret
          refine ⟨ret_f (fun h => ?_), (Hbw.out y).out⟩
          have := (h.2.2 (m + 1) hlt).2 (by omega)
          rw [hx.out, hp.out] at this
          omega
    · obtain rfl : k = l.length := by omega
      go_wp2
      go_ret
      exact ⟨ret_t ⟨H1.out, H2.out, fun i hi => by rw [← Hz.out]; exact Hp.out i hi hi⟩, Hbl.out⟩
end Go.Proofs.Ytbfhfnejppfehaa
