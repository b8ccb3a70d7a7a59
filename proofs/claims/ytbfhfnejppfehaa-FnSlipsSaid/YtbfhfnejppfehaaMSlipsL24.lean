import Derived.Test.YtbfhfnejppfehaaMSlipsL23
import Derived.Test.YtbfhfnejppfehaaMSlipsL05
/-
  Contracts: two lists of rows of one length and stage (both sides).
-/
namespace Go.Proofs.Ytbfhfnejppfehaa
open Go.RowKit
set_option linter.unusedVariables false
set_option linter.unusedSimpArgs false
set_option maxRecDepth 100000

theorem Later.rd {α : Type} {w : World} (x : Later w) {A : Option Addr} {size : Nat} {enc : α → List Value} {l : List α} (h : RdL w w.heap.size A size enc l) : RdL x.W x.W.heap.size A size enc l :=
  (h.below x.hb (Nat.le_refl _)).more x.hb.size
/-- The head of a list that is not empty. -/
theorem head_rd {w : World} {b : Nat} {A : Option Addr} {l : List ByteArray} (h : RdL w b A 1 encString l) (hl : 0 < l.length) : ∃ g off s, A = some ⟨g, off, none⟩ ∧ g < b ∧ w.cell? ⟨g, off, none⟩ = some (.string s) ∧ s.size = sz0 l ∧ s ∈ l := by
  obtain ⟨g, off, rfl, hg, hc⟩ := h.at hl
  exact ⟨g, off, l[0], rfl, hg, hc 0 _ rfl, (sz0_eq l hl).symm, List.getElem_mem _⟩

/-- Two lists of rows of one length and stage. -/
def twoRows (a b : List ByteArray) : Prop := rowsP a ∧ rowsP b ∧ 0 < a.length ∧ a.length = b.length ∧ sz0 a = sz0 b
def rows1 (l : List ByteArray) : Prop := rowsP l ∧ 0 < l.length
def twoRows' (a b : List ByteArray) : Prop := rows1 a ∧ rows1 b ∧ a.length = b.length ∧ sz0 a = sz0 b
theorem twoRows_iff (a b : List ByteArray) : twoRows' a b ↔ twoRows a b :=
  ⟨fun h => ⟨h.1.1, h.2.1.1, h.1.2, h.2.2⟩, fun h => ⟨⟨h.1, h.2.2.1⟩, ⟨h.2.1, by have := h.2.2.1; have := h.2.2.2.1; omega⟩, h.2.2.2⟩⟩




set_option maxHeartbeats 1600000 in
theorem comparable2_any (a b : List ByteArray) (A A' : Option Addr) (c c' : Nat) (w : World) (h : RdL w w.heap.size A 1 encString a) (h' : RdL w w.heap.size A' 1 encString b) (hl : a.length ≤ 1048576) (hl' : b.length ≤ 1048576)
    (hs : ∀ x ∈ a, String_small 1048576 x) (hs' : ∀ x ∈ b, String_small 1048576 x) :
    Calls Try.prog 52 #[.slice A a.length c, .slice A' b.length c'] w fun e w' => e = .returned (.bool (B (twoRows a b))) ∧ Below w.heap.size w w' := by
  have Hs := Lib.hid hs
  have Hs' := Lib.hid hs'
  have Hh := Lib.hid h
  have Hh' := Lib.hid h'
  clear hs hs' h h'
  by_cases h1 : rowsP a
  rotate_left
  · have e1 := B_f h1
    have H1 := Lib.hid h1
    clear h1
    go_enter Try.func52, Try.ntmps52
    go_wp2
    (refine wp_region_later (by kernel_rfl) (by kernel_rfl) ?_; (repeat (go_big_quiet_step ((go_at_call 64; refine Later.same (calls_bool (goodRows_any _ _ _ _ (Later.rd _ (by first | exact Hh.out | exact Hh'.out)) (by omega) (by first | exact Hs.out | exact Hs'.out)) (by assumption)))))); refine wpQuiet_nil ?_; intro _ hw'; obtain ⟨y, hw''⟩ := hw'; subst hw'')
    go_wp2
    go_ret
    exact ⟨ret_f (fun x => H1.out x.1), y.hb⟩
  have e1 := B_t h1
  have H1 := Lib.hid h1
  clear h1
  by_cases h2 : rowsP b
  rotate_left
  · have e2 := B_f h2
    have H2 := Lib.hid h2
    clear h2
    go_enter Try.func52, Try.ntmps52
    go_wp2
    (refine wp_region_later (by kernel_rfl) (by kernel_rfl) ?_; (repeat (go_big_quiet_step ((go_at_call 64; refine Later.same (calls_bool (goodRows_any _ _ _ _ (Later.rd _ (by first | exact Hh.out | exact Hh'.out)) (by omega) (by first | exact Hs.out | exact Hs'.out)) (by assumption)))))); refine wpQuiet_nil ?_; intro _ hw'; obtain ⟨y, hw''⟩ := hw'; subst hw'')
    go_wp2
    go_ret
    exact ⟨ret_f (fun x => H2.out x.2.1), y.hb⟩
  have e2 := B_t h2
  have H2 := Lib.hid h2
  clear h2
  by_cases hpos : 0 < a.length
  rotate_left
  · have e3 : decide (0 < a.length) = false := by rw [decide_eq_false_iff_not]; exact hpos
    go_enter Try.func52, Try.ntmps52
    go_wp2
    (refine wp_region_later (by kernel_rfl) (by kernel_rfl) ?_; (repeat (go_big_quiet_step ((go_at_call 64; refine Later.same (calls_bool (goodRows_any _ _ _ _ (Later.rd _ (by first | exact Hh.out | exact Hh'.out)) (by omega) (by first | exact Hs.out | exact Hs'.out)) (by assumption)))))); refine wpQuiet_nil ?_; intro _ hw'; obtain ⟨y, hw''⟩ := hw'; subst hw'')
    go_wp2
    go_ret
    exact ⟨ret_f (fun x => hpos x.2.2.1), y.hb⟩
  have e3 : decide (0 < a.length) = true := decide_eq_true hpos
  by_cases h4 : a.length = b.length
  rotate_left
  · have e4 : ((a.length : Int) == b.length) = false := by rw [beq_eq_false_iff_ne]; omega
    have H4 := Lib.hid h4
    clear h4
    go_enter Try.func52, Try.ntmps52
    go_wp2
    (refine wp_region_later (by kernel_rfl) (by kernel_rfl) ?_; (repeat (go_big_quiet_step ((go_at_call 64; refine Later.same (calls_bool (goodRows_any _ _ _ _ (Later.rd _ (by first | exact Hh.out | exact Hh'.out)) (by omega) (by first | exact Hs.out | exact Hs'.out)) (by assumption)))))); refine wpQuiet_nil ?_; intro _ hw'; obtain ⟨y, hw''⟩ := hw'; subst hw'')
    go_wp2
    go_ret
    exact ⟨ret_f (fun x => H4.out x.2.2.2.1), y.hb⟩
  have e4 : ((a.length : Int) == b.length) = true := by rw [beq_iff_eq]; omega
  have H4 := Lib.hid h4
  have hpos' : 0 < b.length := by omega
  clear h4
  obtain ⟨g, off, s, hA, hg, hc, hsz, hmem⟩ := head_rd Hh.out hpos
  obtain ⟨g', off', s', hA', hg', hc', hsz', hmem'⟩ := head_rd Hh'.out hpos'
  subst hA hA'
  have u0 : ∀ x : Later w, x.W.cell? ⟨g, off, none⟩ = some (.string s) := fun x => (x.hb.cell (p := ⟨g, off, none⟩) hg).trans hc
  have u1 : ∀ x : Later w, x.W.cell? ⟨g', off', none⟩ = some (.string s') := fun x => (x.hb.cell (p := ⟨g', off', none⟩) hg').trans hc'
  have z1 : (s.size : Int) ≤ 1048576 := Hs.out s hmem
  have z2 : (s'.size : Int) ≤ 1048576 := Hs'.out s' hmem'
  have Hz := Lib.hid hsz
  have Hz' := Lib.hid hsz'
  clear hsz hsz' hmem hmem' hc hc'
  by_cases h5 : s.size = s'.size
  · have e5 : ((s.size : Int) == s'.size) = true := by rw [beq_iff_eq]; omega
    have H5 := Lib.hid h5
    clear h5
    go_enter Try.func52, Try.ntmps52
    go_wp2
    (refine wp_region_later (by kernel_rfl) (by kernel_rfl) ?_; (repeat (go_big_quiet_step ((go_at_call 64; refine Later.same (calls_bool (goodRows_any _ _ _ _ (Later.rd _ (by first | exact Hh.out | exact Hh'.out)) (by omega) (by first | exact Hs.out | exact Hs'.out)) (by assumption)))))); refine wpQuiet_nil ?_; intro _ hw'; obtain ⟨y, hw''⟩ := hw'; subst hw'')
    go_wp2
    go_ret
    exact ⟨ret_t ⟨H1.out, H2.out, hpos, H4.out, by rw [← Hz.out, ← Hz'.out]; exact H5.out⟩, y.hb⟩
  · have e5 : ((s.size : Int) == s'.size) = false := by rw [beq_eq_false_iff_ne]; omega
    have H5 := Lib.hid h5
    clear h5
    go_enter Try.func52, Try.ntmps52
    go_wp2
    (refine wp_region_later (by kernel_rfl) (by kernel_rfl) ?_; (repeat (go_big_quiet_step ((go_at_call 64; refine Later.same (calls_bool (goodRows_any _ _ _ _ (Later.rd _ (by first | exact Hh.out | exact Hh'.out)) (by omega) (by first | exact Hs.out | exact Hs'.out)) (by assumption)))))); refine wpQuiet_nil ?_; intro _ hw'; obtain ⟨y, hw''⟩ := hw'; subst hw'')
    go_wp2
    go_ret
    exact ⟨ret_f (fun x => H5.out (by rw [Hz.out, Hz'.out]; exact x.2.2.2.2)), y.hb⟩
theorem l25Rows_any (l : List ByteArray) (A : Option Addr) (c : Nat) (w : World) (h : RdL w w.heap.size A 1 encString l) (hl : l.length ≤ 1048576) (hs : ∀ x ∈ l, String_small 1048576 x) :
    Calls Try.prog 100 #[.slice A l.length c] w fun e w' => e = .returned (.bool (B (rows1 l))) ∧ ∃ n, w' = w.drewN n := by
  by_cases h1 : rowsP l
  rotate_left
  · have e1 := B_f h1
    have H1 := Lib.hid h1
    clear h1
    go_enter Try.func100, Try.ntmps100
    go_wp2_with (go_at_call 68; refine (l6Rows_any l _ _ _ h hl hs).mono ?_; rintro e w' ⟨rfl, n, rfl⟩)
    go_ret
    exact ⟨ret_f (fun x => H1.out x.1), _, rfl⟩
  have e1 := B_t h1
  have H1 := Lib.hid h1
  clear h1
  by_cases hpos : 0 < l.length
  · go_enter Try.func100, Try.ntmps100
    go_wp2_with (go_at_call 68; refine (l6Rows_any l _ _ _ h hl hs).mono ?_; rintro e w' ⟨rfl, n, rfl⟩)
    go_ret
    exact ⟨by rw [B_t (show rows1 l from ⟨H1.out, hpos⟩)]; first | rfl | (simp; done) | (simp; omega), _, rfl⟩
  · go_enter Try.func100, Try.ntmps100
    go_wp2_with (go_at_call 68; refine (l6Rows_any l _ _ _ h hl hs).mono ?_; rintro e w' ⟨rfl, n, rfl⟩)
    go_ret
    exact ⟨by rw [B_f (show ¬ rows1 l from fun x => hpos x.2)]; first | rfl | (simp; done) | (simp; omega), _, rfl⟩
set_option maxHeartbeats 1600000 in
theorem l25Two_any (a b : List ByteArray) (A A' : Option Addr) (c c' : Nat) (w : World) (h : RdL w w.heap.size A 1 encString a) (h' : RdL w w.heap.size A' 1 encString b) (hl : a.length ≤ 1048576) (hl' : b.length ≤ 1048576)
    (hs : ∀ x ∈ a, String_small 1048576 x) (hs' : ∀ x ∈ b, String_small 1048576 x) :
    Calls Try.prog 55 #[.slice A a.length c, .slice A' b.length c'] w fun e w' => e = .returned (.bool (B (twoRows a b))) ∧ Below w.heap.size w w' := by
  have Hs := Lib.hid hs
  have Hs' := Lib.hid hs'
  have Hh := Lib.hid h
  have Hh' := Lib.hid h'
  clear hs hs' h h'
  by_cases h1 : rows1 a
  rotate_left
  · have e1 := B_f h1
    have H1 := Lib.hid h1
    clear h1
    go_enter Try.func55, Try.ntmps55
    go_wp2
    (refine wp_region_later (by kernel_rfl) (by kernel_rfl) ?_; (repeat (go_big_quiet_step ((go_at_call 100; refine Later.drew (calls_bool (l25Rows_any _ _ _ _ (Later.rd _ (by first | exact Hh.out | exact Hh'.out)) (by omega) (by first | exact Hs.out | exact Hs'.out)) (by assumption)))))); refine wpQuiet_nil ?_; intro _ hw'; obtain ⟨y, hw''⟩ := hw'; subst hw'')
    go_wp2
    go_ret
    exact ⟨ret_f (fun x => H1.out ⟨x.1, x.2.2.1⟩), y.hb⟩
  have e1 := B_t h1
  have hpos := h1.2
  have H1 := Lib.hid h1.1
  clear h1
  by_cases h2 : rows1 b
  rotate_left
  · have e2 := B_f h2
    have H2 := Lib.hid h2
    clear h2
    go_enter Try.func55, Try.ntmps55
    go_wp2
    (refine wp_region_later (by kernel_rfl) (by kernel_rfl) ?_; (repeat (go_big_quiet_step ((go_at_call 100; refine Later.drew (calls_bool (l25Rows_any _ _ _ _ (Later.rd _ (by first | exact Hh.out | exact Hh'.out)) (by omega) (by first | exact Hs.out | exact Hs'.out)) (by assumption)))))); refine wpQuiet_nil ?_; intro _ hw'; obtain ⟨y, hw''⟩ := hw'; subst hw'')
    go_wp2
    go_ret
    exact ⟨ret_f (fun x => H2.out ⟨x.2.1, by have := x.2.2.1; have := x.2.2.2.1; omega⟩), y.hb⟩
  have e2 := B_t h2
  have H2 := Lib.hid h2.1
  clear h2
  by_cases h4 : a.length = b.length
  rotate_left
  · have e4 : ((a.length : Int) == b.length) = false := by rw [beq_eq_false_iff_ne]; omega
    have H4 := Lib.hid h4
    clear h4
    go_enter Try.func55, Try.ntmps55
    go_wp2
    (refine wp_region_later (by kernel_rfl) (by kernel_rfl) ?_; (repeat (go_big_quiet_step ((go_at_call 100; refine Later.drew (calls_bool (l25Rows_any _ _ _ _ (Later.rd _ (by first | exact Hh.out | exact Hh'.out)) (by omega) (by first | exact Hs.out | exact Hs'.out)) (by assumption)))))); refine wpQuiet_nil ?_; intro _ hw'; obtain ⟨y, hw''⟩ := hw'; subst hw'')
    go_wp2
    go_ret
    exact ⟨ret_f (fun x => H4.out x.2.2.2.1), y.hb⟩
  have e4 : ((a.length : Int) == b.length) = true := by rw [beq_iff_eq]; omega
  have H4 := Lib.hid h4
  have hpos' : 0 < b.length := by omega
  clear h4
  obtain ⟨g, off, s, hA, hg, hc, hsz, hmem⟩ := head_rd Hh.out hpos
  obtain ⟨g', off', s', hA', hg', hc', hsz', hmem'⟩ := head_rd Hh'.out hpos'
  subst hA hA'
  have u0 : ∀ x : Later w, x.W.cell? ⟨g, off, none⟩ = some (.string s) := fun x => (x.hb.cell (p := ⟨g, off, none⟩) hg).trans hc
  have u1 : ∀ x : Later w, x.W.cell? ⟨g', off', none⟩ = some (.string s') := fun x => (x.hb.cell (p := ⟨g', off', none⟩) hg').trans hc'
  have z1 : (s.size : Int) ≤ 1048576 := Hs.out s hmem
  have z2 : (s'.size : Int) ≤ 1048576 := Hs'.out s' hmem'
  have Hz := Lib.hid hsz
  have Hz' := Lib.hid hsz'
  clear hsz hsz' hmem hmem' hc hc'
  by_cases h5 : s.size = s'.size
  · have e5 : ((s.size : Int) == s'.size) = true := by rw [beq_iff_eq]; omega
    have H5 := Lib.hid h5
    clear h5
    go_enter Try.func55, Try.ntmps55
    go_wp2
    (refine wp_region_later (by kernel_rfl) (by kernel_rfl) ?_; (repeat (go_big_quiet_step ((go_at_call 100; refine Later.drew (calls_bool (l25Rows_any _ _ _ _ (Later.rd _ (by first | exact Hh.out | exact Hh'.out)) (by omega) (by first | exact Hs.out | exact Hs'.out)) (by assumption)))))); refine wpQuiet_nil ?_; intro _ hw'; obtain ⟨y, hw''⟩ := hw'; subst hw'')
    go_wp2
    go_ret
    exact ⟨ret_t ⟨H1.out, H2.out, hpos, H4.out, by rw [← Hz.out, ← Hz'.out]; exact H5.out⟩, y.hb⟩
  · have e5 : ((s.size : Int) == s'.size) = false := by rw [beq_eq_false_iff_ne]; omega
    have H5 := Lib.hid h5
    clear h5
    go_enter Try.func55, Try.ntmps55
    go_wp2
    (refine wp_region_later (by kernel_rfl) (by kernel_rfl) ?_; (repeat (go_big_quiet_step ((go_at_call 100; refine Later.drew (calls_bool (l25Rows_any _ _ _ _ (Later.rd _ (by first | exact Hh.out | exact Hh'.out)) (by omega) (by first | exact Hs.out | exact Hs'.out)) (by assumption)))))); refine wpQuiet_nil ?_; intro _ hw'; obtain ⟨y, hw''⟩ := hw'; subst hw'')
    go_wp2
    go_ret
    exact ⟨ret_f (fun x => H5.out (by rw [Hz.out, Hz'.out]; exact x.2.2.2.2)), y.hb⟩
end Go.Proofs.Ytbfhfnejppfehaa
