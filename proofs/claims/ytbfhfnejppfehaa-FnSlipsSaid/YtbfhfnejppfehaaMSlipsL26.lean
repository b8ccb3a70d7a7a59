import Derived.Test.YtbfhfnejppfehaaMSlipsL23
import Derived.Test.YtbfhfnejppfehaaMSlipsL25
import Derived.Test.YtbfhfnejppfehaaMSlipsL02
import Derived.Test.YtbfhfnejppfehaaMSlipsL08
import Derived.Test.YtbfhfnejppfehaaMSlipsL03
/-
  Contracts: rows with slips (both sides).
-/
namespace Go.Proofs.Ytbfhfnejppfehaa
open Go.RowKit
set_option linter.unusedVariables false
set_option linter.unusedSimpArgs false
set_option maxRecDepth 100000

/-- A row behind the first k slips, those up to row i. -/
def slpTo (r : ByteArray) (i : Int) (l : List Slp) : Nat → ByteArray
  | 0 => r
  | k + 1 => match l[k]? with
    | some x => if x.row ≤ i then swapS (slpTo r i l k) x.a x.b else slpTo r i l k
    | none => slpTo r i l k
def slpAll (r : ByteArray) (i : Int) (l : List Slp) : ByteArray := slpTo r i l l.length
theorem slpTo_y {r : ByteArray} {i : Int} {l : List Slp} {k : Nat} {x : Slp} (h : l[k]? = some x) (hi : x.row ≤ i) : slpTo r i l (k + 1) = swapS (slpTo r i l k) x.a x.b := by
  simp only [slpTo, h]; rw [if_pos hi]
theorem slpTo_n {r : ByteArray} {i : Int} {l : List Slp} {k : Nat} {x : Slp} (h : l[k]? = some x) (hi : ¬ x.row ≤ i) : slpTo r i l (k + 1) = slpTo r i l k := by
  simp only [slpTo, h]; rw [if_neg hi]
/-- The bells of all slips are bells of a stage. -/
def swapsOK (sz : Nat) (l : List Slp) : Prop := ∀ x ∈ l, inB x.a 1 sz ∧ inB x.b (x.a + 1) sz
theorem slpTo_row {r : ByteArray} (i : Int) {l : List Slp} (hr : isRow r) (hok : swapsOK r.size l) : ∀ k, isRow (slpTo r i l k) ∧ (slpTo r i l k).size = r.size
  | 0 => ⟨hr, rfl⟩
  | k + 1 => by
    have ih := slpTo_row i hr hok k
    rcases hx : l[k]? with _ | x
    · simp only [slpTo, hx]; exact ih
    · have hm := hok x (List.mem_of_getElem? hx)
      by_cases hi : x.row ≤ i
      · rw [slpTo_y hx hi]
        exact ⟨ih.1.swap ⟨hm.1.1, by rw [ih.2]; exact hm.1.2⟩ ⟨by have := hm.1.1; have := hm.2.1; omega, by rw [ih.2]; exact hm.2.2⟩, by rw [size_swap]; exact ih.2⟩
      · rw [slpTo_n hx hi]; exact ih
theorem slpAll_row {r : ByteArray} (i : Int) {l : List Slp} (hr : isRow r) (hok : swapsOK r.size l) : isRow (slpAll r i l) ∧ (slpAll r i l).size = r.size := slpTo_row i hr hok _
theorem slipsP.ok {rows : List ByteArray} {l : List Slp} (h : slipsP rows l) : swapsOK (sz0 rows) l := fun x hx => by
  obtain ⟨i, hi, rfl⟩ := List.getElem_of_mem hx
  exact (h.2.2 i hi).1.2
/-- The rows rung, up to the first k. -/
def rungTo (rows : List ByteArray) (l : List Slp) (k : Nat) : List ByteArray := (List.range k).map fun i : Nat => slpAll (rows.getD i ⟨#[]⟩) i l
theorem rungTo_succ (rows : List ByteArray) (l : List Slp) (k : Nat) (hk : k < rows.length) : rungTo rows l (k + 1) = rungTo rows l k ++ [slpAll rows[k] k l] := by
  unfold rungTo; rw [List.range_succ, List.map_append]; simp [hk]
theorem rungTo_len (rows : List ByteArray) (l : List Slp) (k : Nat) : (rungTo rows l k).length = k := by simp [rungTo]

set_option maxHeartbeats 1600000 in
theorem slipped_any (r : ByteArray) (i : Int) (l : List Slp) (A : Option Addr) (c : Nat) (w : World) (h : RdL w w.heap.size A 3 Slp.enc l) (hl : l.length ≤ 1048576) (hrow : isRow r) (hok : swapsOK r.size l) :
    Calls Try.prog 54 #[.string r, .int .i64 i, .slice A l.length c] w fun e w' => e = .returned (.string (slpAll r i l)) ∧ Below w.heap.size w w' := by
  have Hh := Lib.hid h
  have Hrow := Lib.hid (slpTo_row i hrow hok)
  have Hok := Lib.hid hok
  clear h hrow hok
  go_enter Try.func54, Try.ntmps54
  go_wp2
  go_loopw [0, 11] (fun v j wr => ∃ k : Nat, k ≤ l.length ∧ j = .int .i64 k ∧ v = .string (slpTo r i l k) ∧ Below w.heap.size w wr) (fun _ j _ => l.length - (intOf j).toNat)
  case atStart => exact ⟨0, by omega, by rfl, rfl, Below.refl _ _⟩
  case round =>
    obtain ⟨k, hk, rfl, rfl, hbl⟩ := hrel
    have Hbl := Lib.hid hbl
    have hgs := hbl.size
    clear hbl
    by_cases hlt : k < l.length
    · obtain ⟨g, off, hA, hg, hcell⟩ := Hh.out.at hlt
      subst hA
      have r0 := (Hbl.out.cell (p := ⟨g, off + k * 3, none⟩) hg).trans (hcell 0 _ rfl)
      have r1 := (Hbl.out.cell (p := ⟨g, off + k * 3 + 1, none⟩) hg).trans (hcell 1 _ rfl)
      have r2 := (Hbl.out.cell (p := ⟨g, off + k * 3 + 2, none⟩) hg).trans (hcell 2 _ rfl)
      obtain ⟨x, hx⟩ : ∃ x, Hid (l[k] = x) := ⟨l[k], Lib.hid rfl⟩
      rw [hx.out] at r0 r1 r2
      have hx2 : Hid (l[k]? = some x) := Lib.hid (by rw [List.getElem?_eq_getElem hlt, hx.out])
      have hm := Hok.out x (hx.out ▸ List.getElem_mem hlt)
      clear hcell
      obtain ⟨hrw, hsz⟩ := Hrow.out k
      obtain ⟨T, hT⟩ : ∃ T, Hid (slpTo r i l k = T) := ⟨_, Lib.hid rfl⟩
      rw [hT.out] at hrw hsz ⊢
      have Hrw := Lib.hid hrw
      have hba : Hid (bellP T x.a) := Lib.hid ⟨hm.1.1, by rw [hsz]; exact hm.1.2⟩
      have hbb : Hid (bellP T x.b) := Lib.hid ⟨by have := hm.1.1; have := hm.2.1; omega, by rw [hsz]; exact hm.2.2⟩
      have hab : Hid (x.a ≠ x.b) := Lib.hid (by have := hm.2.1; omega)
      have h8 : Hid ((1 ≤ x.a ∧ x.a ≤ 8) ∧ 1 ≤ x.b ∧ x.b ≤ 8) := Lib.hid (by have := hrw.2.1; have h1 := hba.out.1; have h2 := hba.out.2; have h3 := hbb.out.1; have h4 := hbb.out.2; omega)
      clear hm hrw hsz
      by_cases hi : x.row ≤ i
      · have hy := Lib.hid (slpTo_y (r := r) hx2.out hi)
        go_wp2_with (go_at_call 99; refine (exchanged_any T x.a x.b _ Hrw.out hba.out hbb.out hab.out).mono ?_; rintro e w' ⟨rfl, hb2⟩)
        go_roundw
        case rel => exact ⟨k + 1, by omega, by go_num, by rw [hy.out, hT.out], (Hbl.out.alloc hgs _).trans (hb2.mono (by simp; omega))⟩
        case measure => simp [intOf]; omega
      · have hy := Lib.hid (slpTo_n (r := r) hx2.out hi)
        go_wp2
        go_roundw
        case rel => exact ⟨k + 1, by omega, by go_num, by rw [hy.out, hT.out], Hbl.out.alloc hgs _⟩
        case measure => simp [intOf]; omega
    · obtain rfl : k = l.length := by omega
      go_wp2
      go_ret
      exact ⟨rfl, Hbl.out⟩
/-- All rows are rows, and all slips are of their bells. -/
def rungOK (rows : List ByteArray) (l : List Slp) : Prop := ∀ (i : Nat) (hi : i < rows.length), isRow rows[i] ∧ swapsOK rows[i].size l
theorem slipsP.rung {rows : List ByteArray} {l : List Slp} (h : slipsP rows l) : rungOK rows l := fun i hi => by
  have := h.1.1.2 i hi
  exact ⟨this.1, by rw [this.2]; exact h.ok⟩

set_option maxHeartbeats 3200000 in
theorem l25Rung_any (rows : List ByteArray) (l : List Slp) (A A' : Option Addr) (c c' : Nat) (w : World) (h : RdL w w.heap.size A 1 encString rows) (h' : RdL w w.heap.size A' 3 Slp.enc l) (hl : rows.length ≤ 1048576) (hl' : l.length ≤ 1048576) (hok : rungOK rows l) :
    Calls Try.prog 56 #[.slice A rows.length c, .slice A' l.length c'] w fun e w' => ∃ A2 c2, e = .returned (.slice A2 (rungTo rows l rows.length).length c2) ∧ OwnL w' w.heap.size w'.heap.size A2 1 encString (rungTo rows l rows.length) ∧ Below w.heap.size w w' := by
  have Hro := Lib.hid h
  have Hh := Lib.hid h'
  have HOK := Lib.hid hok
  clear h h' hok
  go_enter Try.func56, Try.ntmps56
  go_wp2
  go_loopw [5, 12] (fun v j wr => ∃ k : Nat, k ≤ rows.length ∧ j = .int .i64 k ∧ Grow wr w.heap.size 9 1 encString v (rungTo rows l k) ∧ Below w.heap.size w wr) (fun _ j _ => rows.length - (intOf j).toNat)
  case atStart => exact ⟨0, by omega, by rfl, Grow.nil, Below.refl _ _⟩
  case round =>
    obtain ⟨k0, hk, rfl, hg, hbl⟩ := hrel
    have Hg := Lib.hid hg
    have Hb0 := Lib.hid hbl
    have hg0 := hbl.size
    have hlen := rungTo_len rows l k0
    clear hg hbl
    by_cases hlt0 : k0 < rows.length
    · obtain ⟨gr, offr, hAr, hgr, hcr⟩ := Hro.out.at hlt0
      subst hAr
      have s0 : wr.cell? ⟨gr, offr + k0, none⟩ = some (.string rows[k0]) := (Hb0.out.cell (p := ⟨gr, offr + k0, none⟩) hgr).trans (by have := hcr 0 _ rfl; rw [Nat.mul_one] at this; exact this)
      have hsu := Lib.hid (rungTo_succ rows l k0 hlt0)
      have ho := HOK.out k0 hlt0
      obtain ⟨r, hr⟩ : ∃ r, Hid (rows[k0] = r) := ⟨_, Lib.hid rfl⟩
      rw [hr.out] at s0 ho hsu
      obtain ⟨i, hi0⟩ : ∃ i : Int, Hid (i = k0) := ⟨_, Lib.hid rfl⟩
      have Hrow := Lib.hid (slpTo_row i ho.1 ho.2)
      have Hok := Lib.hid ho.2
      clear hcr ho
      obtain ⟨wo, rfl⟩ : ∃ wo, wo = wr := ⟨wr, rfl⟩
      go_wp2
      go_loopw [7, 19] (fun v j wr => ∃ k : Nat, k ≤ l.length ∧ j = .int .i64 k ∧ v = .string (slpTo r i l k) ∧ Below wo.heap.size wo wr) (fun _ j _ => l.length - (intOf j).toNat)
      case atStart => exact ⟨0, by omega, by rfl, rfl, Below.refl _ _⟩
      case round =>
        obtain ⟨k, hk2, rfl, rfl, hbi⟩ := hrel
        have Hbi := Lib.hid hbi
        have hgi := hbi.size
        have Hbl : Hid (Below w.heap.size w wr) := Lib.hid (Hb0.out.trans (hbi.mono hg0))
        clear hbi
        by_cases hlt : k < l.length
        · obtain ⟨g, off, hA, hg, hcell⟩ := Hh.out.at hlt
          subst hA
          have r0 := (Hbl.out.cell (p := ⟨g, off + k * 3, none⟩) hg).trans (hcell 0 _ rfl)
          have r1 := (Hbl.out.cell (p := ⟨g, off + k * 3 + 1, none⟩) hg).trans (hcell 1 _ rfl)
          have r2 := (Hbl.out.cell (p := ⟨g, off + k * 3 + 2, none⟩) hg).trans (hcell 2 _ rfl)
          obtain ⟨x, hx⟩ : ∃ x, Hid (l[k] = x) := ⟨l[k], Lib.hid rfl⟩
          rw [hx.out] at r0 r1 r2
          have hx2 : Hid (l[k]? = some x) := Lib.hid (by rw [List.getElem?_eq_getElem hlt, hx.out])
          have hm := Hok.out x (hx.out ▸ List.getElem_mem hlt)
          clear hcell
          obtain ⟨hrw, hsz⟩ := Hrow.out k
          obtain ⟨T, hT⟩ : ∃ T, Hid (slpTo r i l k = T) := ⟨_, Lib.hid rfl⟩
          rw [hT.out] at hrw hsz ⊢
          have Hrw := Lib.hid hrw
          have hba : Hid (bellP T x.a) := Lib.hid ⟨hm.1.1, by rw [hsz]; exact hm.1.2⟩
          have hbb : Hid (bellP T x.b) := Lib.hid ⟨by have := hm.1.1; have := hm.2.1; omega, by rw [hsz]; exact hm.2.2⟩
          have hab : Hid (x.a ≠ x.b) := Lib.hid (by have := hm.2.1; omega)
          have h8 : Hid ((1 ≤ x.a ∧ x.a ≤ 8) ∧ 1 ≤ x.b ∧ x.b ≤ 8) := Lib.hid (by have := hrw.2.1; have h1 := hba.out.1; have h2 := hba.out.2; have h3 := hbb.out.1; have h4 := hbb.out.2; omega)
          clear hm hrw hsz
          by_cases hi : x.row ≤ (k0 : Int)
          · have hy := Lib.hid (slpTo_y (r := r) hx2.out (show x.row ≤ i by rw [hi0.out]; exact hi))
            go_wp2_with (go_at_call 101; refine (l25Swap_any T x.a x.b _ Hrw.out h8.out.1 h8.out.2).mono ?_; rintro e w' ⟨rfl, hb2⟩)
            go_roundw
            case rel => exact ⟨k + 1, by omega, by go_num, by rw [hy.out, hT.out], (Hbi.out.alloc hgi _).trans (hb2.mono (by simp; omega))⟩
            case measure => simp [intOf]; omega
          · have hy := Lib.hid (slpTo_n (r := r) hx2.out (show ¬ x.row ≤ i by rw [hi0.out]; exact hi))
            go_wp2
            go_roundw
            case rel => exact ⟨k + 1, by omega, by go_num, by rw [hy.out, hT.out], Hbi.out.alloc hgi _⟩
            case measure => simp [intOf]; omega
        · obtain rfl : k = l.length := by omega
          obtain ⟨T, hT⟩ : ∃ T, Hid (slpTo r i l l.length = T) := ⟨_, Lib.hid rfl⟩
          rw [hT.out]
          have hone : (∀ u ∈ [Value.string T], u.oneCell' = true) := by simp [Value.oneCell']
          have Hone := Lib.hid hone
          clear hone
          have hgw : w.heap.size ≤ wr.heap.size := by omega
          have Hg2 := Lib.hid (Hg.out.later Hbi.out)
          go_wp2_with (at_builtin; go_loud (refine wpList_push rfl (.tmp 34) (.tmp 36) 23 rfl w.heap.size 9 _ 1 16 encString rfl String_info rfl (by omega) u5 (rungTo rows l k0) [T] 1 rfl rfl (by simp) Hg2.out rfl encString_len Hone.out (by first | omega | (simp; omega)) (by omega) (by first | omega | (simp; omega)) ?_; intro v' w2 hg2 hb2 _))
          go_roundw
          case rel => exact ⟨k0 + 1, by omega, by go_num, by rw [hsu.out, ← hi0.out]; unfold slpAll; rw [hT.out]; exact hg2, Hbl.out.trans hb2⟩
          case measure => simp [intOf]; omega
    · obtain rfl : k0 = rows.length := by omega
      go_wp2
      go_ret
      obtain ⟨A2, c2, hv, ho⟩ := Hg.out.own encString_len
      exact ⟨A2, c2, by rw [hv]; rfl, ho, Hb0.out⟩
set_option maxHeartbeats 3200000 in
theorem iRung_t (rows : List ByteArray) (l : List Slp) (A A' : Option Addr) (c c' : Nat) (w : World) (h : RdL w w.heap.size A 1 encString rows) (h' : RdL w w.heap.size A' 3 Slp.enc l) (hl : rows.length ≤ 1048576) (hl' : l.length ≤ 1048576) (hs : ∀ x ∈ rows, String_small 1048576 x) (hp : slipsP rows l) :
    Calls Try.prog 10 #[.slice A rows.length c, .slice A' l.length c'] w fun e w' => ∃ A2 c2, e = .returned (.tuple #[.slice A2 (rungTo rows l rows.length).length c2, .bool true]) ∧ OwnL w' w.heap.size w'.heap.size A2 1 encString (rungTo rows l rows.length) ∧ Below w.heap.size w w' := by
  have Hro := Lib.hid h
  have Hh := Lib.hid h'
  have Hs := Lib.hid hs
  have e1 := B_t hp
  have HOK := Lib.hid hp.rung
  clear h h' hs hp
  go_enter Try.func10, Try.ntmps10
  go_wp2_with (go_at_call 20; refine (iGoodSlips_any rows l _ _ _ _ _ Hro.out Hh.out hl hl' Hs.out).mono ?_; rintro e w' ⟨rfl, hb1⟩; have t1 := hb1.size)
  go_loopw [6, 16] (fun v j wr => ∃ k : Nat, k ≤ rows.length ∧ j = .int .i64 k ∧ Grow wr w.heap.size 9 1 encString v (rungTo rows l k) ∧ Below w.heap.size w wr) (fun _ j _ => rows.length - (intOf j).toNat)
  case atStart => exact ⟨0, by omega, by rfl, Grow.empty t1, hb1.alloc t1 _⟩
  case round =>
    obtain ⟨k0, hk, rfl, hg, hbl⟩ := hrel
    have Hg := Lib.hid hg
    have Hb0 := Lib.hid hbl
    have hg0 := hbl.size
    have hlen := rungTo_len rows l k0
    clear hg hbl hb1
    by_cases hlt0 : k0 < rows.length
    · obtain ⟨gr, offr, hAr, hgr, hcr⟩ := Hro.out.at hlt0
      subst hAr
      have s0 : wr.cell? ⟨gr, offr + k0, none⟩ = some (.string rows[k0]) := (Hb0.out.cell (p := ⟨gr, offr + k0, none⟩) hgr).trans (by have := hcr 0 _ rfl; rw [Nat.mul_one] at this; exact this)
      have hsu := Lib.hid (rungTo_succ rows l k0 hlt0)
      have ho := HOK.out k0 hlt0
      obtain ⟨r, hr⟩ : ∃ r, Hid (rows[k0] = r) := ⟨_, Lib.hid rfl⟩
      rw [hr.out] at s0 ho hsu
      have Ho := Lib.hid ho
      clear hcr ho
      obtain ⟨T, hT⟩ : ∃ T, Hid (slpAll r k0 l = T) := ⟨_, Lib.hid rfl⟩
      have hsl : Hid (∀ (W : World), Below w.heap.size w W → Calls Try.prog 54 #[.string r, .int .i64 k0, .slice A' l.length c'] W fun e w' => e = .returned (.string T) ∧ Below W.heap.size W w') := Lib.hid (fun W hb => by rw [← hT.out]; exact slipped_any r k0 l _ _ W ((Hh.out.below hb (Nat.le_refl _)).more hb.size) hl' Ho.out.1 Ho.out.2)
      have hone : (∀ u ∈ [Value.string T], u.oneCell' = true) := by simp [Value.oneCell']
      have Hone := Lib.hid hone
      clear hone
      go_wp2_with (first | (go_at_call 54; refine (hsl.out _ Hb0.out).mono ?_; rintro e w3 ⟨rfl, hb3⟩; have hg3 := hb3.size; have hgw : w.heap.size ≤ w3.heap.size := by omega) | (at_builtin; go_loud (refine wpList_push rfl (.tmp 21) (.tmp 26) 23 rfl w.heap.size 9 _ 1 16 encString rfl String_info rfl (by omega) u6 (rungTo rows l k0) [T] 1 rfl rfl (by simp) (Hg.out.later hb3) rfl encString_len Hone.out (by first | omega | (simp; omega)) (by omega) (by first | omega | (simp; omega)) ?_; intro v' w2 hg2 hb2 _)))
      go_roundw
      case rel => exact ⟨k0 + 1, by omega, by go_num, by rw [hsu.out, hT.out]; exact hg2, (Hb0.out.trans (hb3.mono hg0)).trans hb2⟩
      case measure => simp [intOf]; omega
    · obtain rfl : k0 = rows.length := by omega
      go_wp2
      go_ret2
      obtain ⟨A2, c2, hv, ho⟩ := Hg.out.own encString_len
      exact ⟨A2, c2, by rw [hv]; rfl, ho, Hb0.out⟩
end Go.Proofs.Ytbfhfnejppfehaa

/-
  RungRows of the program returns what the reference's returns, for all arguments: no condition.
-/
namespace Go.Proofs.Ytbfhfnejppfehaa
open Go.RowKit
set_option linter.unusedVariables false
set_option linter.unusedSimpArgs false
set_option maxRecDepth 100000

theorem sRung_t (rows : List ByteArray) (l : List Slp) (A A' : Option Addr) (c c' : Nat) (w : World) (h : RdL w w.heap.size A 1 encString rows) (h' : RdL w w.heap.size A' 3 Slp.enc l) (hl : rows.length ≤ 1048576) (hl' : l.length ≤ 1048576) (hs : ∀ x ∈ rows, String_small 1048576 x) (hp : slipsP rows l) :
    Calls Try.prog 11 #[.slice A rows.length c, .slice A' l.length c'] w fun e w' => ∃ A2 c2, e = .returned (.tuple #[.slice A2 (rungTo rows l rows.length).length c2, .bool true]) ∧ OwnL w' w.heap.size w'.heap.size A2 1 encString (rungTo rows l rows.length) ∧ Below w.heap.size w w' := by
  have Hro := Lib.hid h
  have Hh := Lib.hid h'
  have Hs := Lib.hid hs
  have e1 := B_t hp
  have HOK := Lib.hid hp.rung
  clear h h' hs hp
  go_enter Try.func11, Try.ntmps11
  go_wp2_with (first | (go_at_call 60; refine (sGoodSlips_any rows l _ _ _ _ _ Hro.out Hh.out hl hl' Hs.out).mono ?_; rintro e w' ⟨rfl, hb1⟩) | (go_at_call 56; refine (l25Rung_any rows l _ _ _ _ _ ((Hro.out.below hb1 (Nat.le_refl _)).more hb1.size) ((Hh.out.below hb1 (Nat.le_refl _)).more hb1.size) hl hl' HOK.out).mono ?_; rintro e w2 ⟨A2, c2, rfl, ho, hb2⟩; have Ho := Lib.hid ho; clear ho))
  go_ret2
  exact ⟨A2, c2, rfl, Ho.out.mono hb1.size (Nat.le_refl _), hb1.trans (hb2.mono hb1.size)⟩

theorem sRung_f (rows : List ByteArray) (l : List Slp) (A A' : Option Addr) (c c' : Nat) (w : World) (h : RdL w w.heap.size A 1 encString rows) (h' : RdL w w.heap.size A' 3 Slp.enc l) (hl : rows.length ≤ 1048576) (hl' : l.length ≤ 1048576) (hs : ∀ x ∈ rows, String_small 1048576 x) (hp : ¬ slipsP rows l) :
    Calls Try.prog 11 #[.slice A rows.length c, .slice A' l.length c'] w fun e w' => e = .returned (.tuple #[.slice none 0 0, .bool false]) ∧ Below w.heap.size w w' := by
  have Hro := Lib.hid h
  have Hh := Lib.hid h'
  have Hs := Lib.hid hs
  have e1 := B_f hp
  clear h h' hs hp
  go_enter Try.func11, Try.ntmps11
  go_wp2_with (go_at_call 60; refine (sGoodSlips_any rows l _ _ _ _ _ Hro.out Hh.out hl hl' Hs.out).mono ?_; rintro e w' ⟨rfl, hb1⟩)
  go_ret2
  exact ⟨rfl, hb1⟩
theorem iRung_f (rows : List ByteArray) (l : List Slp) (A A' : Option Addr) (c c' : Nat) (w : World) (h : RdL w w.heap.size A 1 encString rows) (h' : RdL w w.heap.size A' 3 Slp.enc l) (hl : rows.length ≤ 1048576) (hl' : l.length ≤ 1048576) (hs : ∀ x ∈ rows, String_small 1048576 x) (hp : ¬ slipsP rows l) :
    Calls Try.prog 10 #[.slice A rows.length c, .slice A' l.length c'] w fun e w' => e = .returned (.tuple #[.slice none 0 0, .bool false]) ∧ Below w.heap.size w w' := by
  have Hro := Lib.hid h
  have Hh := Lib.hid h'
  have Hs := Lib.hid hs
  have e1 := B_f hp
  clear h h' hs hp
  go_enter Try.func10, Try.ntmps10
  go_wp2_with (go_at_call 20; refine (iGoodSlips_any rows l _ _ _ _ _ Hro.out Hh.out hl hl' Hs.out).mono ?_; rintro e w' ⟨rfl, hb1⟩)
  go_ret2
  exact ⟨rfl, hb1⟩
end Go.Proofs.Ytbfhfnejppfehaa
