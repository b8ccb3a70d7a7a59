import Derived.Test.YtbfhfnejppfehaaMSlipsL12
import Derived.RegionTactic
import Derived.ChangeAlike
import Derived.Test.YtbfhfnejppfehaaMSlipsL07
import Derived.Test.YtbfhfnejppfehaaMSlipsL08
/-
  Contracts: a row with two bells exchanged (both sides).
-/
namespace Go.Proofs.Ytbfhfnejppfehaa
open Go.RowKit
set_option linter.unusedVariables false
set_option linter.unusedSimpArgs false
set_option maxRecDepth 100000

/-- A byte of a row, two bells exchanged. -/
def swapV (a b v : Int) : Int := if v = 48 + a then 48 + b else if v = 48 + b then 48 + a else v
def swapL (r : ByteArray) (a b : Int) : List Int := (List.range r.size).map fun i : Nat => swapV a b (bat r i)
/-- A row with two bells exchanged. -/
def swapS (r : ByteArray) (a b : Int) : ByteArray := mkS (swapL r a b)
theorem size_swap (r : ByteArray) (a b : Int) : (swapS r a b).size = r.size := by unfold swapS swapL; rw [size_mkS]; simp
theorem swapV_byte (a b v : Int) (ha : 0 ≤ a ∧ a ≤ 200) (hb : 0 ≤ b ∧ b ≤ 200) (hv : 0 ≤ v ∧ v < 256) : 0 ≤ swapV a b v ∧ swapV a b v < 256 := by
  unfold swapV; split <;> (try split) <;> omega
theorem bat_swap (r : ByteArray) (a b : Int) (ha : 0 ≤ a ∧ a ≤ 200) (hb : 0 ≤ b ∧ b ≤ 200) (i : Nat) (h : i < r.size) : bat (swapS r a b) i = swapV a b (bat r i) := by
  unfold swapS
  have hl : i < (swapL r a b).length := by simpa [swapL] using h
  have e : (swapL r a b)[i] = swapV a b (bat r i) := by simp [swapL]
  have := swapV_byte a b (bat r i) ha hb ⟨bat_lo _ _, bat_hi _ _⟩
  rw [bat_mkS _ i hl (by rw [e]; omega) (by rw [e]; omega), e]
theorem swapV_inj (a b u v : Int) (h : swapV a b u = swapV a b v) : u = v := by
  unfold swapV at h; split at h <;> split at h <;> (try split at h) <;> (try split at h) <;> omega
/-- The bells of a row of that size. -/
def bellP (r : ByteArray) (a : Int) : Prop := 1 ≤ a ∧ a ≤ r.size
theorem isRow.swap {r : ByteArray} (h : isRow r) {a b : Int} (ha : bellP r a) (hb : bellP r b) : isRow (swapS r a b) := by
  obtain ⟨h1, h2, h3, h4⟩ := h
  unfold bellP at ha hb
  have hbat : ∀ i : Nat, i < r.size → bat (swapS r a b) i = swapV a b (bat r i) := fun i hi => bat_swap r a b (by omega) (by omega) i hi
  refine ⟨by rw [size_swap]; exact h1, by rw [size_swap]; exact h2, fun i hi => ?_, fun i j hij hj => ?_⟩
  · rw [size_swap] at hi ⊢
    rw [hbat i hi]
    have := h3 i hi
    unfold swapV; split <;> (try split) <;> omega
  · rw [size_swap] at hj
    rw [hbat i (by omega), hbat j hj]
    exact fun e => h4 i j hij hj (swapV_inj a b _ _ e)

set_option maxHeartbeats 800000 in
theorem l25Swap_any (r : ByteArray) (a b : Int) (w : World) (hr : isRow r) (ha : 1 ≤ a ∧ a ≤ 8) (hb : 1 ≤ b ∧ b ≤ 8) :
    Calls Try.prog 101 #[.string r, .int .i64 a, .int .i64 b] w fun e w' => e = .returned (.string (swapS r a b)) ∧ Below w.heap.size w w' := by
  have h8 := hr.2.1
  have H := Lib.hid hr
  clear hr
  obtain ⟨a1, a8⟩ := ha
  obtain ⟨b1, b8⟩ := hb
  go_enter Try.func101, Try.ntmps101
  go_wp2_with (refine wpList_bytes rfl _ 9 22 5 rfl rfl rfl rfl r rfl ?_; intro c w1 hc1 hb1)
  go_loopw [13] (fun i wr => ∃ k : Nat, k ≤ r.size ∧ i = .int .i64 k ∧ Cells wr w.heap.size r.size (fun p => .int .u8 (if p < k then swapV a b (bat r p) else bat r p)) ∧ Below w.heap.size w wr) (fun i _ => r.size - (intOf i).toNat)
  case atStart => exact ⟨0, by omega, by rfl, hc1.congr (fun i _ => by simp), hb1⟩
  case round =>
    obtain ⟨k, hk, rfl, hc, hbl⟩ := hrel
    by_cases hlt : k < r.size
    · obtain ⟨h1, h2⟩ := H.out.2.2.1 k hlt
      have hy := bat_hi r k
      have hcell := hc.cell hlt
      have hfree := hc.free hlt
      have Hc := Lib.hid hc
      have Hbl := Lib.hid hbl
      clear hc hbl hc1 hb1
      by_cases c1 : bat r k - 48 = a
      · have c1b : (bat r k - 48 == a) = true := by simpa using c1
        have C1 := Lib.hid c1
        clear c1
        go_wp2
        go_roundw
        case rel =>
          have c1 := C1.out
          refine ⟨k + 1, by omega, by go_num, (Hc.out.set hlt _).congr fun j _ => ?_, Hbl.out.setCell (p := ⟨w.heap.size, k, none⟩) (Nat.le_refl _) _⟩
          by_cases e : j = k
          · subst e; rw [upd_same, if_pos (by omega)]; unfold swapV; rw [if_pos (by omega)]
          · rw [upd_other _ _ _ _ e]
            by_cases hj : j < k
            · rw [if_pos hj, if_pos (by omega)]
            · rw [if_neg hj, if_neg (by omega)]
        case measure => simp [intOf]; omega
      · have c1b : (bat r k - 48 == a) = false := by simpa using c1
        have C1 := Lib.hid c1
        clear c1
        by_cases c2 : bat r k - 48 = b
        · have c2b : (bat r k - 48 == b) = true := by simpa using c2
          have C2 := Lib.hid c2
          clear c2
          go_wp2
          go_roundw
          case rel =>
            have c1 := C1.out
            have c2 := C2.out
            refine ⟨k + 1, by omega, by go_num, (Hc.out.set hlt _).congr fun j _ => ?_, Hbl.out.setCell (p := ⟨w.heap.size, k, none⟩) (Nat.le_refl _) _⟩
            by_cases e : j = k
            · subst e; rw [upd_same, if_pos (by omega)]; unfold swapV; rw [if_neg (by omega), if_pos (by omega)]
            · rw [upd_other _ _ _ _ e]
              by_cases hj : j < k
              · rw [if_pos hj, if_pos (by omega)]
              · rw [if_neg hj, if_neg (by omega)]
          case measure => simp [intOf]; omega
        · have c2b : (bat r k - 48 == b) = false := by simpa using c2
          have C2 := Lib.hid c2
          clear c2
          go_wp2
          go_roundw
          case rel =>
            have c1 := C1.out
            have c2 := C2.out
            refine ⟨k + 1, by omega, by go_num, Hc.out.congr fun j _ => ?_, Hbl.out⟩
            by_cases e : j = k
            · subst e; rw [if_neg (by omega), if_pos (by omega)]; unfold swapV; rw [if_neg (by omega), if_neg (by omega)]
            · by_cases hj : j < k
              · rw [if_pos hj, if_pos (by omega)]
              · rw [if_neg hj, if_neg (by omega)]
          case measure => simp [intOf]; omega
    · obtain rfl : k = r.size := by omega
      have hs := hc.str (P := Try.prog) (swapL r a b) (by simp [swapL]) (fun i hi => by rw [if_pos hi]; simp [swapL]) 22 5 9 c rfl rfl rfl
      have Hbl := Lib.hid hbl
      clear hc hbl hc1 hb1
      go_wp2
      go_ret
      exact ⟨rfl, Hbl.out⟩
set_option maxHeartbeats 1600000 in
theorem exchanged_any (r : ByteArray) (a b : Int) (w : World) (hr : isRow r) (ha : bellP r a) (hb : bellP r b) (hab : a ≠ b) :
    Calls Try.prog 99 #[.string r, .int .i64 a, .int .i64 b] w fun e w' => e = .returned (.string (swapS r a b)) ∧ Below w.heap.size w w' := by
  have h8 := hr.2.1
  obtain ⟨i, hi, ei⟩ := hr.hit (v := 48 + a) (by have := ha.1; omega) (by have := ha.2; omega)
  obtain ⟨k, hk, ek⟩ := hr.hit (v := 48 + b) (by have := hb.1; omega) (by have := hb.2; omega)
  have hik : i ≠ k := fun e => hab (by subst e; omega)
  have H := Lib.hid hr
  have Ei := Lib.hid ei
  have Ek := Lib.hid ek
  have pa : placeS r a = (i : Int) + 1 := by have := hr.place hi; rw [ei] at this; rw [← this]; congr 1; omega
  have pb : placeS r b = (k : Int) + 1 := by have := hr.place hk; rw [ek] at this; rw [← this]; congr 1; omega
  obtain ⟨a1, a2⟩ := ha
  obtain ⟨b1, b2⟩ := hb
  clear hr ei ek hab
  go_enter Try.func99, Try.ntmps99
  go_wp2_with (first | (refine wpList_bytes rfl _ 9 22 5 rfl rfl rfl rfl r rfl ?_; intro c w1 hc1 hb1) | (go_at_call 78; refine (placeOf_any r _ _ H.out (by omega) (by omega)).mono ?_; rintro e w' ⟨rfl, rfl⟩))
  have c1 := hc1.cell hi
  have c2 := hc1.cell hk
  have f1 := hc1.free hi
  have f2 := hc1.free hk
  have Hc := Lib.hid hc1
  have Hbl := Lib.hid hb1
  clear hc1 hb1
  go_region
  have hf : Cells (((w1.setCell ⟨w.heap.size, i, none⟩ (.int .u8 (bat r k))).setCell ⟨w.heap.size, k, none⟩ (.int .u8 (bat r i))).drew) w.heap.size r.size (fun p => .int .u8 (swapV a b (bat r p))) := by
    refine (((Hc.out.set hi _).set hk _).drewN 1).congr fun p hp => ?_
    have ei := Ei.out
    have ek := Ek.out
    by_cases e1 : p = k
    · subst e1; rw [upd_same]; unfold swapV; rw [if_neg (fun e => hik (H.out.inj hi hk (by rw [ei, e]))), if_pos ek, ei]
    · rw [upd_other _ _ _ _ e1]
      by_cases e2 : p = i
      · subst e2; rw [upd_same]; unfold swapV; rw [if_pos ei, ek]
      · rw [upd_other _ _ _ _ e2]
        have n1 : bat r p ≠ 48 + a := fun e => e2 (H.out.inj hp hi (by rw [e, ei]))
        have n2 : bat r p ≠ 48 + b := fun e => e1 (H.out.inj hp hk (by rw [e, ek]))
        show _ = Value.int .u8 (swapV a b (bat r p))
        unfold swapV; rw [if_neg n1, if_neg n2]
  have hbl : Below w.heap.size w (((w1.setCell ⟨w.heap.size, i, none⟩ (.int .u8 (bat r k))).setCell ⟨w.heap.size, k, none⟩ (.int .u8 (bat r i))).drew) :=
    ((Hbl.out.setCell (p := ⟨w.heap.size, i, none⟩) (Nat.le_refl _) _).setCell (p := ⟨w.heap.size, k, none⟩) (Nat.le_refl _) _).drew
  generalize (((w1.setCell ⟨w.heap.size, i, none⟩ (.int .u8 (bat r k))).setCell ⟨w.heap.size, k, none⟩ (.int .u8 (bat r i))).drew) = w2 at *
  have hs := hf.str (P := Try.prog) (swapL r a b) (by simp [swapL]) (fun i hi => by simp [swapL]) 22 5 9 c rfl rfl rfl
  have HB := Lib.hid hbl
  clear hf hbl c1 c2 f1 f2
  go_wp2
  go_ret
  exact ⟨rfl, HB.out⟩
end Go.Proofs.Ytbfhfnejppfehaa

/-
  Contracts: lists of rows (both sides); two lists of rows of one length and stage.
-/
namespace Go.Proofs.Ytbfhfnejppfehaa
open Go.RowKit
set_option linter.unusedVariables false
set_option linter.unusedSimpArgs false
set_option maxRecDepth 100000

/-- The size of a list's first row. -/
def sz0 (l : List ByteArray) : Nat := match l with | [] => 0 | x :: _ => x.size
theorem sz0_eq (l : List ByteArray) (h : 0 < l.length) : sz0 l = l[0].size := by
  cases l with
  | nil => simp at h
  | cons x l => rfl
/-- A list of rows of one stage. -/
def rowsP (l : List ByteArray) : Prop := l.length ≤ 800 ∧ ∀ (i : Nat) (hi : i < l.length), isRow l[i] ∧ l[i].size = sz0 l


set_option maxHeartbeats 800000 in
theorem goodRows_any (l : List ByteArray) (A : Option Addr) (c : Nat) (w : World) (h : RdL w w.heap.size A 1 encString l) (hl : l.length ≤ 1048576) (hs : ∀ x ∈ l, String_small 1048576 x) :
    Calls Try.prog 64 #[.slice A l.length c] w fun e w' => e = .returned (.bool (B (rowsP l))) ∧ w = w' := by
  by_cases hn : 800 < l.length
  · go_enter Try.func64, Try.ntmps64
    go_wp2
    go_ret
    exact ⟨ret_f (fun x => by have := x.1; omega), rfl⟩
  go_enter Try.func64, Try.ntmps64
  go_wp2
  go_loop [10] (fun i => ∃ k : Nat, k ≤ l.length ∧ i = .int .i64 k ∧ (∀ (j : Nat) (hj : j < l.length), j < k → isRow l[j] ∧ l[j].size = sz0 l)) (fun i => l.length - (intOf i).toNat)
  case atStart => exact ⟨0, by omega, by rfl, by omega⟩
  case round =>
    obtain ⟨k, hk, rfl, hp⟩ := hrel
    have Hp := Lib.hid hp
    clear hp
    by_cases hlt : k < l.length
    · obtain ⟨g, off, hA, hg, hcell⟩ := h.at hlt
      obtain ⟨g', off', hA', hg', hcell'⟩ := h.at (k := 0) (by omega)
      subst hA
      simp only [Option.some.injEq, Addr.mk.injEq, and_true] at hA'
      obtain ⟨rfl, rfl⟩ := hA'
      have r0 : w.cell? ⟨g, off + k, none⟩ = some (.string l[k]) := by have := hcell 0 _ rfl; rw [Nat.mul_one] at this; exact this
      have q0 : w.cell? ⟨g, off, none⟩ = some (.string l[0]) := hcell' 0 _ rfl
      have es := sz0_eq l (by omega)
      clear hcell hcell' h
      obtain ⟨x, hx⟩ : ∃ x, Hid (l[k] = x) := ⟨l[k], Lib.hid rfl⟩
      obtain ⟨y, hy⟩ : ∃ y, Hid (l[0] = y) := ⟨l[0], Lib.hid rfl⟩
      rw [hx.out] at r0
      rw [hy.out] at q0 es
      have Es := Lib.hid es
      clear es
      have hxy : (x.size : Int) ≤ 1048576 ∧ (y.size : Int) ≤ 1048576 := ⟨by rw [← hx.out]; exact hs _ (List.getElem_mem _), by rw [← hy.out]; exact hs _ (List.getElem_mem _)⟩
      by_cases hc : isRowOf y.size x
      · have e1 := B_t hc
        have Hc := Lib.hid hc
        clear hc hs
        go_wp2_with (go_at_call 106; refine (isRowOf_any _ _ _).mono ?_; rintro e w' ⟨rfl, rfl⟩)
        go_round
        case rel =>
          refine ⟨k + 1, by omega, by go_num, fun j hj hj1 => ?_⟩
          rcases Nat.lt_or_eq_of_le (Nat.le_of_lt_succ hj1) with h' | rfl
          · exact Hp.out j hj h'
          · rw [hx.out, Es.out]; exact ⟨Hc.out.2, by have := Hc.out.1; omega⟩
        case measure => simp [intOf]; omega
      · have e1 := B_f hc
        have Hc := Lib.hid hc
        clear hc hs
        go_wp2_with (go_at_call 106; refine (isRowOf_any _ _ _).mono ?_; rintro e w' ⟨rfl, rfl⟩)
        go_ret
        refine ⟨ret_f (fun h => Hc.out ?_), rfl⟩
        have := h.2 k hlt
        rw [hx.out, Es.out] at this
        exact ⟨by omega, this.1⟩
    · obtain rfl : k = l.length := by omega
      go_wp2
      go_ret
      exact ⟨ret_t ⟨by omega, fun i hi => Hp.out i hi hi⟩, rfl⟩
set_option maxHeartbeats 1600000 in
theorem l6Rows_any (l : List ByteArray) (A : Option Addr) (c : Nat) (w : World) (h : RdL w w.heap.size A 1 encString l) (hl : l.length ≤ 1048576) (hs : ∀ x ∈ l, String_small 1048576 x) :
    Calls Try.prog 68 #[.slice A l.length c] w fun e w' => e = .returned (.bool (B (rowsP l))) ∧ ∃ n, w' = w.drewN n := by
  go_enter Try.func68, Try.ntmps68
  go_wp2
  go_loopw [7] (fun i wr => ∃ k : Nat, k ≤ l.length ∧ i = .int .i64 k ∧ (∀ (j : Nat) (hj : j < l.length), j < k → isRow l[j] ∧ l[j].size = sz0 l) ∧ ∃ n, wr = w.drewN n) (fun i _ => l.length - (intOf i).toNat)
  case atStart => exact ⟨0, by omega, by rfl, by omega, 0, rfl⟩
  case round =>
    obtain ⟨k, hk, rfl, hp, n, rfl⟩ := hrel
    have Hp := Lib.hid hp
    clear hp
    by_cases hlt : k < l.length
    · obtain ⟨g, off, hA, hg, hcell⟩ := h.at hlt
      obtain ⟨g', off', hA', hg', hcell'⟩ := h.at (k := 0) (by omega)
      subst hA
      simp only [Option.some.injEq, Addr.mk.injEq, and_true] at hA'
      obtain ⟨rfl, rfl⟩ := hA'
      have r0 : w.cell? ⟨g, off + k, none⟩ = some (.string l[k]) := by have := hcell 0 _ rfl; rw [Nat.mul_one] at this; exact this
      have q0 : w.cell? ⟨g, off, none⟩ = some (.string l[0]) := hcell' 0 _ rfl
      have es := sz0_eq l (by omega)
      clear hcell hcell' h
      obtain ⟨x, hx⟩ : ∃ x, Hid (l[k] = x) := ⟨l[k], Lib.hid rfl⟩
      obtain ⟨y, hy⟩ : ∃ y, Hid (l[0] = y) := ⟨l[0], Lib.hid rfl⟩
      rw [hx.out] at r0
      rw [hy.out] at q0 es
      have Es := Lib.hid es
      clear es
      have hxy : (x.size : Int) ≤ 1048576 ∧ (y.size : Int) ≤ 1048576 := ⟨by rw [← hx.out]; exact hs _ (List.getElem_mem _), by rw [← hy.out]; exact hs _ (List.getElem_mem _)⟩
      obtain ⟨hx1, hy1⟩ := hxy
      by_cases hc : isRow x
      · have e1 := B_t hc
        have Hc := Lib.hid hc
        clear hc hs
        by_cases hz : x.size = y.size
        · have hzb : ((x.size : Int) != y.size) = false := by simp [hz]
          have Hz := Lib.hid hz
          clear hz
          go_wp2_with (go_at_call 107; refine (l1Row_any _ _).mono ?_; rintro e w' ⟨rfl, m, rfl⟩)
          go_roundw
          case rel =>
            refine ⟨k + 1, by omega, by go_num, fun j hj hj1 => ?_, _, rfl⟩
            rcases Nat.lt_or_eq_of_le (Nat.le_of_lt_succ hj1) with h' | rfl
            · exact Hp.out j hj h'
            · rw [hx.out, Es.out]; exact ⟨Hc.out, Hz.out⟩
          case measure => simp [intOf]; omega
        · have hzb : ((x.size : Int) != y.size) = true := by rw [bne_iff_ne]; omega
          have Hz := Lib.hid hz
          clear hz
          go_wp2_with (go_at_call 107; refine (l1Row_any _ _).mono ?_; rintro e w' ⟨rfl, m, rfl⟩)
          go_ret
          refine ⟨ret_f (fun h => Hz.out ?_), _, rfl⟩
          have := h.2 k hlt
          rw [hx.out, Es.out] at this
          exact this.2
      · have e1 := B_f hc
        have Hc := Lib.hid hc
        clear hc hs
        go_wp2_with (go_at_call 107; refine (l1Row_any _ _).mono ?_; rintro e w' ⟨rfl, m, rfl⟩)
        go_ret
        refine ⟨ret_f (fun h => Hc.out ?_), _, rfl⟩
        have := h.2 k hlt
        rw [hx.out] at this
        exact this.1
    · obtain rfl : k = l.length := by omega
      by_cases hn : l.length ≤ 800
      · go_wp2
        go_ret
        exact ⟨by rw [B_t (show rowsP l from ⟨hn, fun i hi => Hp.out i hi hi⟩)]; simp; omega, _, rfl⟩
      · go_wp2
        go_ret
        exact ⟨by rw [B_f (show ¬ rowsP l from fun x => hn x.1)]; simp; omega, _, rfl⟩
end Go.Proofs.Ytbfhfnejppfehaa
