import Derived.Test.YtbfhfnejppfehaaMSlipsL26
import Derived.Test.YtbfhfnejppfehaaMSlipsL30
import Derived.Test.YtbfhfnejppfehaaMSlipsL24
import Derived.Test.YtbfhfnejppfehaaMSlipsL06
import Derived.StillTailTactics
import Derived.RegionTactic
import Derived.Deep.RegionLaw
/-
  SlipsOf of the program returns what the reference's returns, for all arguments: no condition.
-/
namespace Go.Proofs.Ytbfhfnejppfehaa
open Go.RowKit
set_option linter.unusedVariables false
set_option linter.unusedSimpArgs false
set_option maxRecDepth 100000

/-! ### Plain -/
def slpOf (i : Int) (p : List Int) : Slp := ⟨i, p.getD 0 0, p.getD 1 0⟩
/-- The slips of the first k rows. -/
def slipsTo (want rung : List ByteArray) : Nat → List Slp
  | 0 => []
  | k + 1 => slipsTo want rung k ++ (leastL (rung.getD k ⟨#[]⟩) (slpAll (want.getD k ⟨#[]⟩) k (slipsTo want rung k))).map (slpOf k)
theorem slipsTo_mono {want rung : List ByteArray} {j : Nat} : ∀ k, j ≤ k → (slipsTo want rung j).length ≤ (slipsTo want rung k).length
  | 0, h => by obtain rfl : j = 0 := by omega
               exact Nat.le_refl _
  | k + 1, h => by
    by_cases e : j = k + 1
    · subst e; exact Nat.le_refl _
    · have := slipsTo_mono (want := want) (rung := rung) (j := j) k (by omega)
      simp only [slipsTo, List.length_append]; omega
def pairP (n : Nat) (p : List Int) : Prop := ∃ x y : Int, p = [x, y] ∧ 1 ≤ x ∧ x < y ∧ y ≤ n
theorem lsw_pairs {a b : ByteArray} (ha : isRow a) (hb : isRow b) (h : a.size = b.size) : ∀ k, k ≤ a.size → ∀ p ∈ (lsw a k b).2, pairP a.size p
  | 0, _, p, hp => by simp [lsw] at hp
  | k + 1, hk, p, hp => by
    have ih := lsw_pairs ha hb h k (by omega)
    obtain ⟨h1, h2⟩ := lsw_row ha hb h k (by omega)
    have h3 := ha.2.2.1 k (by omega)
    have h4 := h1.2.2.1 k (by omega)
    by_cases e : bat a k = bat (lsw a k b).1 k
    · rw [lsw_y e] at hp; exact ih p hp
    · rw [lsw_n e] at hp
      simp only [List.mem_append, List.mem_singleton] at hp
      rcases hp with hp | rfl
      · exact ih p hp
      · unfold pairOf
        by_cases hlt : bat a k - 48 < bat (lsw a k b).1 k - 48
        · rw [if_pos hlt]; exact ⟨_, _, rfl, by omega, hlt, by omega⟩
        · rw [if_neg hlt]; exact ⟨_, _, rfl, by omega, by omega, by omega⟩
theorem leastL_pairs {a b : ByteArray} (h : two a b) : ∀ p ∈ leastL a b, pairP a.size p := lsw_pairs h.1 h.2.1 h.2.2 _ (Nat.le_refl _)
theorem leastL_8 {a b : ByteArray} (h : two a b) : (leastL a b).length ≤ 8 := by
  have := (lsw_len a b a.size).1
  have := h.1.2.1
  unfold leastL; omega
theorem slipsTo_row {want rung : List ByteArray} (h : twoRows want rung) : ∀ k, k ≤ want.length → swapsOK (sz0 want) (slipsTo want rung k) ∧ (∀ x ∈ slipsTo want rung k, x.row < k)
  | 0, _ => ⟨fun x hx => by simp [slipsTo] at hx, fun x hx => by simp [slipsTo] at hx⟩
  | k + 1, hk => by
    obtain ⟨h1, h2⟩ := slipsTo_row h k (by omega)
    have hw := h.1.2 k (by omega)
    have hr := h.2.1.2 k (by have := h.2.2.2.1; omega)
    have hs := h.2.2.2.2
    have hrow := slpAll_row (k : Int) hw.1 (l := slipsTo want rung k) (by rw [hw.2]; exact h1)
    have e1 : want.getD k ⟨#[]⟩ = want[k] := by rw [List.getD_eq_getElem?_getD, List.getElem?_eq_getElem (by omega)]; rfl
    have e2 : rung.getD k ⟨#[]⟩ = rung[k]'(by have := h.2.2.2.1; omega) := by rw [List.getD_eq_getElem?_getD, List.getElem?_eq_getElem (by have := h.2.2.2.1; omega)]; rfl
    have htwo : two (rung[k]'(by have := h.2.2.2.1; omega)) (slpAll want[k] k (slipsTo want rung k)) := ⟨hr.1, hrow.1, by rw [hrow.2, hr.2, hw.2, hs]⟩
    simp only [slipsTo, e1, e2]
    refine ⟨fun x hx => ?_, fun x hx => ?_⟩
    · rcases List.mem_append.1 hx with hx | hx
      · exact h1 x hx
      · obtain ⟨p, hp, rfl⟩ := List.mem_map.1 hx
        obtain ⟨a, b, rfl, ha, hb, hc⟩ := leastL_pairs htwo p hp
        rw [hr.2, ← hs] at hc
        simp only [slpOf, inB, List.getD_cons_zero, List.getD_cons_succ]
        omega
    · rcases List.mem_append.1 hx with hx | hx
      · have := h2 x hx; omega
      · obtain ⟨p, hp, rfl⟩ := List.mem_map.1 hx
        simp only [slpOf]; omega
/-- Slips as from the first row on. -/
def atL (l : List Slp) : List Slp := l.map fun x => ⟨0, x.a, x.b⟩
theorem slpTo_at {r : ByteArray} {i : Int} {l : List Slp} (h : ∀ x ∈ l, x.row ≤ i) : ∀ k, slpTo r 0 (atL l) k = slpTo r i l k
  | 0 => rfl
  | k + 1 => by
    have ih := slpTo_at (r := r) h k
    rcases hx : l[k]? with _ | x
    · simp only [slpTo, hx, atL, List.getElem?_map, Option.map_none]; exact ih
    · have hm := h x (List.mem_of_getElem? hx)
      rw [slpTo_y hx hm, ← ih]
      exact slpTo_y (x := ⟨0, x.a, x.b⟩) (by simp [atL, hx]) (by simp)
theorem slpAll_at {r : ByteArray} {i : Int} {l : List Slp} (h : ∀ x ∈ l, x.row ≤ i) : slpAll r 0 (atL l) = slpAll r i l := by
  unfold slpAll; rw [slpTo_at h]; simp [atL]
/-- What a round has at hand. -/
theorem slipsTo_step {want rung : List ByteArray} (h : twoRows want rung) {k : Nat} (hk : k < want.length) (hk2 : k < rung.length) :
    isRow want[k] ∧ swapsOK want[k].size (slipsTo want rung k) ∧ two rung[k] (slpAll want[k] k (slipsTo want rung k)) ∧ slipsTo want rung (k + 1) = slipsTo want rung k ++ (leastL rung[k] (slpAll want[k] k (slipsTo want rung k))).map (slpOf k) ∧ (∀ x ∈ slipsTo want rung k, x.row ≤ k) := by
  obtain ⟨h1, h2⟩ := slipsTo_row h k (by omega)
  have hw := h.1.2 k hk
  have hr := h.2.1.2 k hk2
  have hok : swapsOK want[k].size (slipsTo want rung k) := by rw [hw.2]; exact h1
  have hrow := slpAll_row (k : Int) hw.1 hok
  refine ⟨hw.1, hok, ⟨hr.1, hrow.1, by rw [hrow.2, hr.2, hw.2, h.2.2.2.2]⟩, ?_, fun x hx => by have := h2 x hx; omega⟩
  have e1 : want.getD k ⟨#[]⟩ = want[k] := by rw [List.getD_eq_getElem?_getD, List.getElem?_eq_getElem (by omega)]; rfl
  have e2 : rung.getD k ⟨#[]⟩ = rung[k] := by rw [List.getD_eq_getElem?_getD, List.getElem?_eq_getElem hk2]; rfl
  simp only [slipsTo, e1, e2]
/-- The reconstruction succeeds. -/
def slipsOfP (want rung : List ByteArray) : Prop := twoRows want rung ∧ (slipsTo want rung want.length).length ≤ 20
/-! ### Walks -/

set_option maxHeartbeats 1600000 in
theorem l25At_any (l : List Slp) (A : Option Addr) (c : Nat) (w : World) (h : RdL w w.heap.size A 3 Slp.enc l) (hl : l.length ≤ 1048576) :
    Calls Try.prog 57 #[.slice A l.length c] w fun e w' => ∃ A' c', e = .returned (.slice A' (atL l).length c') ∧ OwnL w' w.heap.size w'.heap.size A' 3 Slp.enc (atL l) ∧ Below w.heap.size w w' := by
  have Hh := Lib.hid h
  clear h
  go_enter Try.func57, Try.ntmps57
  go_wp2
  go_loopw [3, 8] (fun v i wr => ∃ k : Nat, k ≤ l.length ∧ i = .int .i64 k ∧ Grow wr w.heap.size 43 3 Slp.enc v (atL (l.take k)) ∧ Below w.heap.size w wr) (fun _ i _ => l.length - (intOf i).toNat)
  case atStart => exact ⟨0, by omega, by rfl, Grow.nil, Below.refl _ _⟩
  case round =>
    obtain ⟨k, hk, rfl, hg, hbl⟩ := hrel
    have Hg := Lib.hid hg
    have Hbl := Lib.hid hbl
    have hgs := hbl.size
    clear hg hbl
    by_cases hlt : k < l.length
    · obtain ⟨g, off, hA, hg, hcell⟩ := Hh.out.at hlt
      have r0 := (Hbl.out.cell (p := ⟨g, off + k * 3, none⟩) hg).trans (hcell 0 _ rfl)
      have r1 := (Hbl.out.cell (p := ⟨g, off + k * 3 + 1, none⟩) hg).trans (hcell 1 _ rfl)
      have r2 := (Hbl.out.cell (p := ⟨g, off + k * 3 + 2, none⟩) hg).trans (hcell 2 _ rfl)
      subst hA
      clear hcell
      have hlen : (atL (l.take k)).length ≤ 1048576 := by unfold atL; rw [List.length_map, List.length_take]; omega
      obtain ⟨x, hx⟩ : ∃ x, Hid (l[k] = x) := ⟨l[k], Lib.hid rfl⟩
      rw [hx.out] at r0 r1 r2
      have Hy : Hid (atL (l.take (k + 1)) = atL (l.take k) ++ [⟨0, x.a, x.b⟩]) := Lib.hid (by unfold atL; rw [List.take_succ_eq_append_getElem hlt, List.map_append, hx.out]; rfl)
      go_wp2_with (at_builtin; refine wpList_pushA rfl _ _ 26 rfl w.heap.size 43 _ 3 24 Slp.enc rfl Slip_info rfl (by omega) _ (atL (l.take k)) [⟨0, x.a, x.b⟩] 1 rfl rfl (by simp) (Hg.out.alloc _) rfl Slp_enc_len (by simp [Value.oneCell']) (by simp only [List.length_singleton]; omega) (by omega) (by simp; omega) ?_; intro v' w2 hg2 hb2 hgwn hblk2)
      go_roundw
      case rel => exact ⟨k + 1, by omega, by go_num, by rw [Hy.out]; exact hg2, (Hbl.out.alloc hgs _).trans hb2⟩
      case measure => simp [intOf]; omega
    · go_wp2
      go_ret
      obtain rfl : k = l.length := by omega
      have hg := Hg.out
      rw [List.take_length] at hg
      obtain ⟨A', c', hv, ho⟩ := hg.own Slp_enc_len
      exact ⟨A', c', by rw [hv]; rfl, ho, Hbl.out⟩










set_option maxHeartbeats 6400000 in
theorem iSlips_t (want rung : List ByteArray) (A A' : Option Addr) (c c' : Nat) (w : World) (h : RdL w w.heap.size A 1 encString want) (h' : RdL w w.heap.size A' 1 encString rung) (hl : want.length ≤ 1048576) (hl' : rung.length ≤ 1048576)
    (hs : ∀ x ∈ want, String_small 1048576 x) (hs' : ∀ x ∈ rung, String_small 1048576 x) (hc : want.length ≤ c) (ht : twoRows want rung) (hf : (slipsTo want rung want.length).length ≤ 20) :
    Calls Try.prog 7 #[.slice A want.length c, .slice A' rung.length c'] w fun e w' => ∃ A2 c2, e = .returned (.tuple #[.slice A2 (slipsTo want rung want.length).length c2, .bool true]) ∧ OwnL w' w.heap.size w'.heap.size A2 3 Slp.enc (slipsTo want rung want.length) ∧ Below w.heap.size w w' := by
  have Hs := Lib.hid hs
  have Hs' := Lib.hid hs'
  have Hh := Lib.hid h
  have Hh' := Lib.hid h'
  have HT := Lib.hid ht
  have e1 := B_t ht
  have hwr : want.length ≤ rung.length := by have := ht.2.2.2.1; omega
  clear hs hs' h h' ht
  go_enter Try.func7, Try.ntmps7
  go_wp2_with (go_at_call 52; refine (comparable2_any want rung A A' c c' _ Hh.out Hh'.out hl hl' Hs.out Hs'.out).mono ?_; rintro e w' ⟨rfl, hb1⟩; have t1 := hb1.size)
  go_loopw [6, 18] (fun v i wr => ∃ k : Nat, k ≤ want.length ∧ i = .int .i64 k ∧ Grow wr w.heap.size 43 3 Slp.enc v (slipsTo want rung k) ∧ Below w.heap.size w wr ∧ (slipsTo want rung k).length ≤ 20) (fun _ i _ => want.length - (intOf i).toNat)
  case atStart => exact ⟨0, by omega, by rfl, Grow.empty hb1.size, hb1.alloc hb1.size _, by simp [slipsTo]⟩
  case round =>
    obtain ⟨k, hk, rfl, hg, hbl, h20⟩ := hrel
    have Hg := Lib.hid hg
    have Hbl := Lib.hid hbl
    have hgs := hbl.size
    clear hg hbl hb1 t1
    by_cases hlt : k < want.length
    · have hlt' : k < rung.length := by omega
      skip
      obtain ⟨gw, ofw, hAw, hgw, hcw⟩ := Hh.out.at hlt
      obtain ⟨gr, ofr, hAr, hgr, hcr⟩ := Hh'.out.at hlt'
      subst hAw hAr
      have s0 : wr.cell? ⟨gw, ofw + k, none⟩ = some (.string want[k]) := (Hbl.out.cell (p := ⟨gw, ofw + k, none⟩) hgw).trans (by have := hcw 0 _ rfl; rw [Nat.mul_one] at this; exact this)
      have r0 : wr.cell? ⟨gr, ofr + k, none⟩ = some (.string rung[k]) := (Hbl.out.cell (p := ⟨gr, ofr + k, none⟩) hgr).trans (by have := hcr 0 _ rfl; rw [Nat.mul_one] at this; exact this)
      have hgww : gw < wr.heap.size := Nat.lt_of_lt_of_le hgw hgs
      have hgrw : gr < wr.heap.size := Nat.lt_of_lt_of_le hgr hgs
      obtain ⟨b1, b2, b3, b4, b5⟩ := slipsTo_step HT.out hlt hlt'
      obtain ⟨x, hx⟩ : ∃ x, Hid (want[k] = x) := ⟨_, Lib.hid rfl⟩
      obtain ⟨R, hR⟩ : ∃ R, Hid (rung[k] = R) := ⟨_, Lib.hid rfl⟩
      rw [hx.out] at s0 b1 b2 b3 b4
      rw [hR.out] at r0 b3 b4
      obtain ⟨T, hT⟩ : ∃ T, Hid (slpAll x k (slipsTo want rung k) = T) := ⟨_, Lib.hid rfl⟩
      rw [hT.out] at b3 b4
      have hP8 := leastL_8 b3
      have hPp := leastL_pairs b3
      have Htw := Lib.hid b3
      obtain ⟨P, hP⟩ : ∃ P, Hid (leastL R T = P) := ⟨_, Lib.hid rfl⟩
      rw [hP.out] at b4 hP8 hPp
      have HP := Lib.hid hPp
      have Hst := Lib.hid b4
      have Hrow := Lib.hid b1
      have Hok := Lib.hid b2
      have Hle := Lib.hid b5
      have Hblk : Hid (∀ g, u6.ownBlock = some g → g < wr.heap.size) := Lib.hid Hg.out.block_lt
      obtain ⟨A6, c6, hv6, ho6⟩ := Hg.out.own Slp_enc_len
      subst hv6
      have H6 := Lib.hid (ho6.rd Slp_enc_len)
      clear hcw hcr b1 b2 b3 b4 b5 hPp ho6
      have hsl : Hid (∀ (W : World), Below wr.heap.size wr W → Calls Try.prog 54 #[.string x, .int .i64 k, .slice A6 (slipsTo want rung k).length c6] W fun e w' => e = .returned (.string T) ∧ Below W.heap.size W w') := Lib.hid (fun W hb => by rw [← hT.out]; exact slipped_any x k _ A6 c6 W ((H6.out.below hb (Nat.le_refl _)).more hb.size) (by omega) Hrow.out Hok.out)
      have hle2 : Hid (∀ W : World, Calls Try.prog 53 #[.string R, .string T] W fun e w' => ∃ A c, e = .returned (.slice A P.length c) ∧ OwnS w' W.heap.size w'.heap.size A P ∧ Below W.heap.size W w') := Lib.hid (fun W => by rw [← hP.out]; exact leastSwaps_any R T W Htw.out)
      have HWD : Hid (Below w.heap.size w wr.drew) := Lib.hid Hbl.out.drew
      go_wp2_with fail
      go_region_with (first | (go_at_call 54; refine (hsl.out _ (Below.refl _ _).drew).mono ?_; rintro e w3 ⟨rfl, hb3⟩; have r3 : w3.cell? ⟨gr, ofr + k, none⟩ = some (.string R) := (hb3.cell (p := ⟨gr, ofr + k, none⟩) (show gr < wr.heap.size from hgrw)).trans r0) | (go_at_call 53; refine (hle2.out _).mono ?_; rintro e w4 ⟨A4, c4, rfl, ho4, hb4⟩))
      all_goals
        have HB3 : Hid (Below w.heap.size w w3) := Lib.hid (HWD.out.trans (hb3.mono Hbl.out.size))
        have Hg3 := Hg.out.later (w' := w3) ((Below.refl _ _).drew.trans hb3)
        have Hblk3 : Hid (∀ g, (Value.slice A6 (slipsTo want rung k).length c6).ownBlock = some g → g < w3.heap.size) := Lib.hid (fun g hg => Nat.lt_of_lt_of_le (Hblk.out g hg) hb3.size)
        clear Hblk
        have Hblk := Hblk3
        skip
        have t4 := hb4.size
        have HB4 : Hid (Below w.heap.size w w4) := Lib.hid (HB3.out.trans (hb4.mono HB3.out.size))
        have G4 : Hid (Grow w4 w.heap.size 43 3 Slp.enc (.slice A6 (slipsTo want rung k).length c6) (slipsTo want rung k)) := Lib.hid (Hg3.later hb4)
        have O4 := Lib.hid ho4
        have hc12 : w.heap.size ≤ w3.heap.size := HB3.out.size
        clear ho4 hb4
        go_wp2_with fail
        try simp only [Act.put, List.getElem_toArray, List.getElem_cons_succ, List.getElem_cons_zero, List.setIfInBounds_toArray, List.set_cons_succ, List.set_cons_zero]
        go_loopw [6, 33] (fun v j wr => ∃ n : Nat, n ≤ P.length ∧ j = .int .i64 n ∧ Grow wr w.heap.size 43 3 Slp.enc v (slipsTo want rung k ++ (P.take n).map (slpOf k)) ∧ OwnS wr w3.heap.size w4.heap.size A4 P ∧ Hid (∀ g, v.ownBlock = some g → g < w3.heap.size ∨ w4.heap.size ≤ g) ∧ Below w.heap.size w wr ∧ w4.heap.size ≤ wr.heap.size) (fun _ j _ => P.length - (intOf j).toNat)
        case atStart => exact ⟨0, by omega, by rfl, by simpa using G4.out, O4.out, Lib.hid (fun g hg => .inl (Hblk.out g hg)), HB4.out, Nat.le_refl _⟩
        case' round =>
          obtain ⟨n, hn, rfl, hg, ho, hv, hbl, hz4⟩ := hrel
          have Hg := Lib.hid hg
          have Ho := Lib.hid ho
          have Hbl := Lib.hid hbl
          have hgs := hbl.size
          clear hg ho hbl
          by_cases hln : n < P.length
          · obtain ⟨D, hD, hRd, hRi⟩ := Ho.out.rd trivial
            have hlD : n < D.length := by have e : (D.map Sl.x).length = P.length := by rw [hD]
                                          rw [List.length_map] at e; omega
            obtain ⟨g, off, hA, hgl, hcell⟩ := hRd.at hlD
            have hxD : D[n].x = P[n] := by
              have e : (D.map Sl.x)[n]? = P[n]? := by rw [hD]
              simpa [hlD, hln] using e
            obtain ⟨x, y, hxy, hx1, hx2, hx3⟩ := HP.out P[n] (List.getElem_mem hln)
            have r0 : wr.cell? ⟨g, off + n, none⟩ = some (.slice D[n].A D[n].x.length D[n].c) := by have := hcell 0 _ rfl; rw [Nat.mul_one] at this; exact this
            have hi := hRi _ (List.getElem_mem hlD)
            rw [hxD, hxy] at r0 hi
            have Hxy := Lib.hid hxy
            generalize D[n].A = Ai at r0 hi
            generalize D[n].c = ci at r0
            obtain ⟨g2, off2, hA2, hg2l, hcell2⟩ := hi.at (k := 0) (by simp)
            obtain ⟨g3, off3, hA3, _, hcell3⟩ := hi.at (k := 1) (by simp)
            rw [hA2] at hA3
            simp only [Option.some.injEq, Addr.mk.injEq, and_true] at hA3
            obtain ⟨rfl, rfl⟩ := hA3
            subst hA2
            subst hA
            have q0 : wr.cell? ⟨g2, off2, none⟩ = some (.int .i64 x) := hcell2 0 _ rfl
            have q1 : wr.cell? ⟨g2, off2 + 1, none⟩ = some (.int .i64 y) := hcell3 0 _ rfl
            clear hcell hcell2 hcell3 hi hRi hRd hxD hxy hD
            have hlen : (slipsTo want rung k ++ (P.take n).map (slpOf k)).length ≤ 100 := by rw [List.length_append, List.length_map, List.length_take]; omega
            have HD : Hid (Grow wr.drew w.heap.size 43 3 Slp.enc u6 (slipsTo want rung k ++ (P.take n).map (slpOf k))) := Lib.hid (show Grow wr w.heap.size 43 3 Slp.enc u6 (slipsTo want rung k ++ (P.take n).map (slpOf k)) from Hg.out)
            have HO : Hid (OwnS wr.drew w3.heap.size w4.heap.size (some ⟨g, off, none⟩) P) := Lib.hid (show OwnS wr w3.heap.size w4.heap.size (some ⟨g, off, none⟩) P from Ho.out)
            have HB : Hid (Below w.heap.size w wr.drew) := Lib.hid Hbl.out.drew
            have hgd : w.heap.size ≤ wr.drew.heap.size := hgs
            have hzd : w4.heap.size ≤ wr.drew.heap.size := hz4
            go_wp2
            go_region_law ((refine step_pushA rfl (.tmp 37) (.tmp 46) 26 rfl w.heap.size 43 _ 3 24 Slp.enc rfl Slip_info rfl (by omega) u6 (slipsTo want rung k ++ (P.take n).map (slpOf k)) [slpOf k [x, y]] 1 rfl rfl (by simp) HD.out rfl Slp_enc_len (by simp [Value.oneCell']) (by simp) (by simp only [List.length_singleton]; omega) (by omega) hgd ?_; intro v' w2 hg2 hb2 hgwn hblk2))
            all_goals
              go_wp2
              have hzd2 : w4.heap.size ≤ w2.heap.size := Nat.le_trans hzd hgwn.size
              have HG2 := Lib.hid hg2
              have HGR := Lib.hid hgwn
              have HBL := Lib.hid hblk2
              have HB2 := Lib.hid hb2
              clear hg2 hgwn hblk2 hb2
              go_roundw
              case rel =>
                refine ⟨n + 1, by omega, by go_num, ?_, HO.out.grown HGR.out (fun g hg => hv.out g hg), Lib.hid (fun g hg => ?_), HB.out.trans HB2.out, by omega⟩
                · rw [List.take_succ_eq_append_getElem hln, List.map_append, ← List.append_assoc, Hxy.out]; exact HG2.out
                · rcases HBL.out with e | e
                  · rw [e] at hg; exact hv.out g hg
                  · rw [e] at hg; injection hg with hg; right; omega
              case measure => simp [intOf]; omega
          obtain rfl : n = P.length := by omega
          have hg5 : Grow wr w.heap.size 43 3 Slp.enc u6 (slipsTo want rung (k + 1)) := by have := Hg.out; rw [List.take_length] at this; rw [Hst.out]; exact this
          obtain ⟨A7, c7, hv7, ho7⟩ := hg5.own Slp_enc_len
          subst hv7
          have Hg5 := Lib.hid hg5
          clear hg5 ho7 Hg hv
        skip
        by_cases hbig : 20 < (slipsTo want rung (k + 1)).length
        · exact absurd (Nat.lt_of_lt_of_le hbig (slipsTo_mono (want := want) (rung := rung) (j := k + 1) want.length (by omega))) (by omega)
        · go_wp2_with fail
          go_roundw
          case rel => exact ⟨k + 1, by omega, by go_num, Hg5.out, Hbl.out, by omega⟩
          case measure => simp [intOf]; omega
    · go_wp2
      go_ret2
      obtain rfl : k = want.length := by omega
      obtain ⟨A2, c2, hv, ho⟩ := Hg.out.own Slp_enc_len
      exact ⟨A2, c2, by rw [hv]; rfl, ho, Hbl.out⟩

set_option maxHeartbeats 6400000 in
theorem sSlips_t (want rung : List ByteArray) (A A' : Option Addr) (c c' : Nat) (w : World) (h : RdL w w.heap.size A 1 encString want) (h' : RdL w w.heap.size A' 1 encString rung) (hl : want.length ≤ 1048576) (hl' : rung.length ≤ 1048576)
    (hs : ∀ x ∈ want, String_small 1048576 x) (hs' : ∀ x ∈ rung, String_small 1048576 x) (hc : want.length ≤ c) (ht : twoRows want rung) (hf : (slipsTo want rung want.length).length ≤ 20) :
    Calls Try.prog 8 #[.slice A want.length c, .slice A' rung.length c'] w fun e w' => ∃ A2 c2, e = .returned (.tuple #[.slice A2 (slipsTo want rung want.length).length c2, .bool true]) ∧ OwnL w' w.heap.size w'.heap.size A2 3 Slp.enc (slipsTo want rung want.length) ∧ Below w.heap.size w w' := by
  have Hs := Lib.hid hs
  have Hs' := Lib.hid hs'
  have Hh := Lib.hid h
  have Hh' := Lib.hid h'
  have HT := Lib.hid ht
  have e1 := B_t ht
  have hwr : want.length ≤ rung.length := by have := ht.2.2.2.1; omega
  clear hs hs' h h' ht
  go_enter Try.func8, Try.ntmps8
  go_wp2_with (go_at_call 55; refine (l25Two_any want rung A A' c c' _ Hh.out Hh'.out hl hl' Hs.out Hs'.out).mono ?_; rintro e w' ⟨rfl, hb1⟩; have t1 := hb1.size)
  go_loopw [6, 17] (fun v i wr => ∃ k : Nat, k ≤ want.length ∧ i = .int .i64 k ∧ Grow wr w.heap.size 43 3 Slp.enc v (slipsTo want rung k) ∧ Below w.heap.size w wr ∧ (slipsTo want rung k).length ≤ 20) (fun _ i _ => want.length - (intOf i).toNat)
  case atStart => exact ⟨0, by omega, by rfl, Grow.nil, hb1, by simp [slipsTo]⟩
  case round =>
    obtain ⟨k, hk, rfl, hg, hbl, h20⟩ := hrel
    have Hg := Lib.hid hg
    have Hbl := Lib.hid hbl
    have hgs := hbl.size
    clear hg hbl hb1 t1
    by_cases hlt : k < want.length
    · have hlt' : k < rung.length := by omega
      skip
      obtain ⟨gw, ofw, hAw, hgw, hcw⟩ := Hh.out.at hlt
      obtain ⟨gr, ofr, hAr, hgr, hcr⟩ := Hh'.out.at hlt'
      subst hAw hAr
      have s0 : wr.cell? ⟨gw, ofw + k, none⟩ = some (.string want[k]) := (Hbl.out.cell (p := ⟨gw, ofw + k, none⟩) hgw).trans (by have := hcw 0 _ rfl; rw [Nat.mul_one] at this; exact this)
      have r0 : wr.cell? ⟨gr, ofr + k, none⟩ = some (.string rung[k]) := (Hbl.out.cell (p := ⟨gr, ofr + k, none⟩) hgr).trans (by have := hcr 0 _ rfl; rw [Nat.mul_one] at this; exact this)
      have hgww : gw < wr.heap.size := Nat.lt_of_lt_of_le hgw hgs
      have hgrw : gr < wr.heap.size := Nat.lt_of_lt_of_le hgr hgs
      obtain ⟨b1, b2, b3, b4, b5⟩ := slipsTo_step HT.out hlt hlt'
      obtain ⟨x, hx⟩ : ∃ x, Hid (want[k] = x) := ⟨_, Lib.hid rfl⟩
      obtain ⟨R, hR⟩ : ∃ R, Hid (rung[k] = R) := ⟨_, Lib.hid rfl⟩
      rw [hx.out] at s0 b1 b2 b3 b4
      rw [hR.out] at r0 b3 b4
      obtain ⟨T, hT⟩ : ∃ T, Hid (slpAll x k (slipsTo want rung k) = T) := ⟨_, Lib.hid rfl⟩
      rw [hT.out] at b3 b4
      have hP8 := leastL_8 b3
      have hPp := leastL_pairs b3
      have Htw := Lib.hid b3
      obtain ⟨P, hP⟩ : ∃ P, Hid (leastL R T = P) := ⟨_, Lib.hid rfl⟩
      rw [hP.out] at b4 hP8 hPp
      have HP := Lib.hid hPp
      have Hst := Lib.hid b4
      have Hrow := Lib.hid b1
      have Hok := Lib.hid b2
      have Hle := Lib.hid b5
      have Hblk : Hid (∀ g, u6.ownBlock = some g → g < wr.heap.size) := Lib.hid Hg.out.block_lt
      obtain ⟨A6, c6, hv6, ho6⟩ := Hg.out.own Slp_enc_len
      subst hv6
      have H6 := Lib.hid (ho6.rd Slp_enc_len)
      clear hcw hcr b1 b2 b3 b4 b5 hPp ho6
      have hru : Hid (∀ (W : World) (A5 : Option Addr) (c5 cc : Nat), Below wr.heap.size wr W → RdL W W.heap.size A5 3 Slp.enc (atL (slipsTo want rung k)) → Calls Try.prog 56 #[.slice (some ⟨gw, ofw + k, none⟩) 1 cc, .slice A5 (atL (slipsTo want rung k)).length c5] W fun e w' => ∃ g2 c2, e = .returned (.slice (some ⟨g2, 0, none⟩) 1 c2) ∧ w'.cell? ⟨g2, 0, none⟩ = some (.string T) ∧ Below W.heap.size W w') := Lib.hid (fun W A5 c5 cc hb hrd => by
        have hrx : RdL W W.heap.size (some ⟨gw, ofw + k, none⟩) 1 encString [x] := .inr ⟨gw, ofw + k, rfl, Nat.lt_of_lt_of_le hgww hb.size, fun i hi j u hu => by
          obtain rfl : i = 0 := by simpa using hi
          obtain rfl : j = 0 := by have := (List.getElem?_eq_some_iff.1 hu).1; simp [encString] at this; omega
          refine (hb.cell (p := ⟨gw, ofw + k, none⟩) hgww).trans ?_
          rw [s0]
          simpa [encString] using hu⟩
        have hok1 : rungOK [x] (atL (slipsTo want rung k)) := fun i hi => by
          obtain rfl : i = 0 := by simpa using hi
          refine ⟨Hrow.out, fun z hz => ?_⟩
          obtain ⟨y, hy, rfl⟩ := List.mem_map.1 hz
          exact Hok.out y hy
        refine (l25Rung_any [x] (atL (slipsTo want rung k)) (some ⟨gw, ofw + k, none⟩) A5 cc c5 W hrx hrd (by simp) (by unfold atL; rw [List.length_map]; omega) hok1).mono ?_
        rintro e w' ⟨A2, c2, rfl, ho, hb2⟩
        have e1 : rungTo [x] (atL (slipsTo want rung k)) [x].length = [T] := by
          show rungTo [x] (atL (slipsTo want rung k)) (0 + 1) = [T]
          rw [rungTo_succ _ _ 0 (by simp)]
          show [] ++ [slpAll x 0 (atL (slipsTo want rung k))] = [T]
          rw [slpAll_at (i := (k : Int)) Hle.out, hT.out]; rfl
        rw [e1] at ho ⊢
        rcases ho with h0 | ⟨g2, f, rfl, _, _, hc2, hf2⟩
        · simp at h0
        · exact ⟨g2, c2, rfl, by rw [hc2.cell (by simp)]; exact congrArg some (hf2 0 (by simp) 0 _ rfl), hb2⟩)
      have hle2 : Hid (∀ W : World, Calls Try.prog 58 #[.string R, .string T] W fun e w' => ∃ A c, e = .returned (.slice A P.length c) ∧ OwnS w' W.heap.size w'.heap.size A P ∧ Below W.heap.size W w') := Lib.hid (fun W => by rw [← hP.out]; exact l25Least_any R T W Htw.out)
      have HWD : Hid (Below w.heap.size w wr.drew) := Lib.hid Hbl.out.drew
      have hw1 : IntKind.i64.wrap ((k : Int) + 1) = (k : Int) + 1 := IntWalk.i64_in _ (by omega)
      have hn1 : ((k : Int) + 1).toNat = k + 1 := by omega
      go_wp2_with fail
      go_region_with (first | (go_at_call 57; refine (l25At_any (slipsTo want rung k) A6 c6 _ (show RdL wr.drew wr.drew.heap.size A6 3 Slp.enc (slipsTo want rung k) from H6.out) (by omega)).mono ?_; rintro e w2 ⟨A5, c5, rfl, ho5, hb5⟩; have HB5 : Hid (Below wr.heap.size wr w2) := Lib.hid ((Below.refl _ _).drew.trans hb5); have H5 := Lib.hid (ho5.rd Slp_enc_len); clear ho5) | (go_at_call 56; refine (hru.out _ A5 c5 _ HB5.out H5.out).mono ?_; rintro e w3 ⟨g2, c2, rfl, hx2, hb3⟩; have r3 : w3.cell? ⟨gr, ofr + k, none⟩ = some (.string R) := (hb3.cell (p := ⟨gr, ofr + k, none⟩) (show gr < w2.heap.size from Nat.lt_of_lt_of_le hgrw HB5.out.size)).trans ((HB5.out.cell (p := ⟨gr, ofr + k, none⟩) hgrw).trans r0)))
      all_goals
        have HB23 : Hid (Below wr.heap.size wr w3) := Lib.hid (HB5.out.trans (hb3.mono HB5.out.size))
        have HB3 : Hid (Below w.heap.size w w3) := Lib.hid (Hbl.out.trans (HB23.out.mono Hbl.out.size))
        have Hg3 := Hg.out.later (w' := w3) HB23.out
        have Hblk3 : Hid (∀ g, (Value.slice A6 (slipsTo want rung k).length c6).ownBlock = some g → g < w3.heap.size) := Lib.hid (fun g hg => Nat.lt_of_lt_of_le (Hblk.out g hg) HB23.out.size)
        clear Hblk hw1 hn1
        have Hblk := Hblk3
        go_wp2_with (go_at_call 58; refine (hle2.out _).mono ?_; rintro e w4 ⟨A4, c4, rfl, ho4, hb4⟩)
        skip
        have t4 := hb4.size
        have HB4 : Hid (Below w.heap.size w w4) := Lib.hid (HB3.out.trans (hb4.mono HB3.out.size))
        have G4 : Hid (Grow w4 w.heap.size 43 3 Slp.enc (.slice A6 (slipsTo want rung k).length c6) (slipsTo want rung k)) := Lib.hid (Hg3.later hb4)
        have O4 := Lib.hid ho4
        have hc12 : w.heap.size ≤ w3.heap.size := HB3.out.size
        clear ho4 hb4
        go_wp2_with fail
        try simp only [Act.put, List.getElem_toArray, List.getElem_cons_succ, List.getElem_cons_zero, List.setIfInBounds_toArray, List.set_cons_succ, List.set_cons_zero]
        go_loopw [6, 37] (fun v j wr => ∃ n : Nat, n ≤ P.length ∧ j = .int .i64 n ∧ Grow wr w.heap.size 43 3 Slp.enc v (slipsTo want rung k ++ (P.take n).map (slpOf k)) ∧ OwnS wr w3.heap.size w4.heap.size A4 P ∧ Hid (∀ g, v.ownBlock = some g → g < w3.heap.size ∨ w4.heap.size ≤ g) ∧ Below w.heap.size w wr ∧ w4.heap.size ≤ wr.heap.size) (fun _ j _ => P.length - (intOf j).toNat)
        case atStart => exact ⟨0, by omega, by rfl, by simpa using G4.out, O4.out, Lib.hid (fun g hg => .inl (Hblk.out g hg)), HB4.out, Nat.le_refl _⟩
        case' round =>
          obtain ⟨n, hn, rfl, hg, ho, hv, hbl, hz4⟩ := hrel
          have Hg := Lib.hid hg
          have Ho := Lib.hid ho
          have Hbl := Lib.hid hbl
          have hgs := hbl.size
          clear hg ho hbl
          by_cases hln : n < P.length
          · obtain ⟨D, hD, hRd, hRi⟩ := Ho.out.rd trivial
            have hlD : n < D.length := by have e : (D.map Sl.x).length = P.length := by rw [hD]
                                          rw [List.length_map] at e; omega
            obtain ⟨g, off, hA, hgl, hcell⟩ := hRd.at hlD
            have hxD : D[n].x = P[n] := by
              have e : (D.map Sl.x)[n]? = P[n]? := by rw [hD]
              simpa [hlD, hln] using e
            obtain ⟨x, y, hxy, hx1, hx2, hx3⟩ := HP.out P[n] (List.getElem_mem hln)
            have r0 : wr.cell? ⟨g, off + n, none⟩ = some (.slice D[n].A D[n].x.length D[n].c) := by have := hcell 0 _ rfl; rw [Nat.mul_one] at this; exact this
            have hi := hRi _ (List.getElem_mem hlD)
            rw [hxD, hxy] at r0 hi
            have Hxy := Lib.hid hxy
            generalize D[n].A = Ai at r0 hi
            generalize D[n].c = ci at r0
            obtain ⟨g2, off2, hA2, hg2l, hcell2⟩ := hi.at (k := 0) (by simp)
            obtain ⟨g3, off3, hA3, _, hcell3⟩ := hi.at (k := 1) (by simp)
            rw [hA2] at hA3
            simp only [Option.some.injEq, Addr.mk.injEq, and_true] at hA3
            obtain ⟨rfl, rfl⟩ := hA3
            subst hA2
            subst hA
            have q0 : wr.cell? ⟨g2, off2, none⟩ = some (.int .i64 x) := hcell2 0 _ rfl
            have q1 : wr.cell? ⟨g2, off2 + 1, none⟩ = some (.int .i64 y) := hcell3 0 _ rfl
            clear hcell hcell2 hcell3 hi hRi hRd hxD hxy hD
            have hlen : (slipsTo want rung k ++ (P.take n).map (slpOf k)).length ≤ 100 := by rw [List.length_append, List.length_map, List.length_take]; omega
            have HD : Hid (Grow wr.drew w.heap.size 43 3 Slp.enc u6 (slipsTo want rung k ++ (P.take n).map (slpOf k))) := Lib.hid (show Grow wr w.heap.size 43 3 Slp.enc u6 (slipsTo want rung k ++ (P.take n).map (slpOf k)) from Hg.out)
            have HO : Hid (OwnS wr.drew w3.heap.size w4.heap.size (some ⟨g, off, none⟩) P) := Lib.hid (show OwnS wr w3.heap.size w4.heap.size (some ⟨g, off, none⟩) P from Ho.out)
            have HB : Hid (Below w.heap.size w wr.drew) := Lib.hid Hbl.out.drew
            have hgd : w.heap.size ≤ wr.drew.heap.size := hgs
            have hzd : w4.heap.size ≤ wr.drew.heap.size := hz4
            go_wp2
            go_region_law ((refine step_pushA rfl (.tmp 41) (.tmp 50) 26 rfl w.heap.size 43 _ 3 24 Slp.enc rfl Slip_info rfl (by omega) u6 (slipsTo want rung k ++ (P.take n).map (slpOf k)) [slpOf k [x, y]] 1 rfl rfl (by simp) HD.out rfl Slp_enc_len (by simp [Value.oneCell']) (by simp) (by simp only [List.length_singleton]; omega) (by omega) hgd ?_; intro v' w2 hg2 hb2 hgwn hblk2))
            all_goals
              go_wp2
              have hzd2 : w4.heap.size ≤ w2.heap.size := Nat.le_trans hzd hgwn.size
              have HG2 := Lib.hid hg2
              have HGR := Lib.hid hgwn
              have HBL := Lib.hid hblk2
              have HB2 := Lib.hid hb2
              clear hg2 hgwn hblk2 hb2
              go_roundw
              case rel =>
                refine ⟨n + 1, by omega, by go_num, ?_, HO.out.grown HGR.out (fun g hg => hv.out g hg), Lib.hid (fun g hg => ?_), HB.out.trans HB2.out, by omega⟩
                · rw [List.take_succ_eq_append_getElem hln, List.map_append, ← List.append_assoc, Hxy.out]; exact HG2.out
                · rcases HBL.out with e | e
                  · rw [e] at hg; exact hv.out g hg
                  · rw [e] at hg; injection hg with hg; right; omega
              case measure => simp [intOf]; omega
          obtain rfl : n = P.length := by omega
          have hg5 : Grow wr w.heap.size 43 3 Slp.enc u6 (slipsTo want rung (k + 1)) := by have := Hg.out; rw [List.take_length] at this; rw [Hst.out]; exact this
          obtain ⟨A7, c7, hv7, ho7⟩ := hg5.own Slp_enc_len
          subst hv7
          have Hg5 := Lib.hid hg5
          clear hg5 ho7 Hg hv
        skip
        by_cases hbig : 20 < (slipsTo want rung (k + 1)).length
        · exact absurd (Nat.lt_of_lt_of_le hbig (slipsTo_mono (want := want) (rung := rung) (j := k + 1) want.length (by omega))) (by omega)
        · go_wp2_with fail
          go_roundw
          case rel => exact ⟨k + 1, by omega, by go_num, Hg5.out, Hbl.out, by omega⟩
          case measure => simp [intOf]; omega
    · go_wp2
      go_ret2
      obtain rfl : k = want.length := by omega
      obtain ⟨A2, c2, hv, ho⟩ := Hg.out.own Slp_enc_len
      exact ⟨A2, c2, by rw [hv]; rfl, ho, Hbl.out⟩


set_option maxHeartbeats 6400000 in
theorem sSlips_b (want rung : List ByteArray) (A A' : Option Addr) (c c' : Nat) (w : World) (h : RdL w w.heap.size A 1 encString want) (h' : RdL w w.heap.size A' 1 encString rung) (hl : want.length ≤ 1048576) (hl' : rung.length ≤ 1048576)
    (hs : ∀ x ∈ want, String_small 1048576 x) (hs' : ∀ x ∈ rung, String_small 1048576 x) (hc : want.length ≤ c) (ht : twoRows want rung) (hf : 20 < (slipsTo want rung want.length).length) :
    Calls Try.prog 8 #[.slice A want.length c, .slice A' rung.length c'] w fun e w' => e = .returned (.tuple #[.slice none 0 0, .bool false]) ∧ Below w.heap.size w w' := by
  have Hs := Lib.hid hs
  have Hs' := Lib.hid hs'
  have Hh := Lib.hid h
  have Hh' := Lib.hid h'
  have HT := Lib.hid ht
  have e1 := B_t ht
  have hwr : want.length ≤ rung.length := by have := ht.2.2.2.1; omega
  clear hs hs' h h' ht
  go_enter Try.func8, Try.ntmps8
  go_wp2_with (go_at_call 55; refine (l25Two_any want rung A A' c c' _ Hh.out Hh'.out hl hl' Hs.out Hs'.out).mono ?_; rintro e w' ⟨rfl, hb1⟩; have t1 := hb1.size)
  go_loopw [6, 17] (fun v i wr => ∃ k : Nat, k ≤ want.length ∧ i = .int .i64 k ∧ Grow wr w.heap.size 43 3 Slp.enc v (slipsTo want rung k) ∧ Below w.heap.size w wr ∧ (slipsTo want rung k).length ≤ 20) (fun _ i _ => want.length - (intOf i).toNat)
  case atStart => exact ⟨0, by omega, by rfl, Grow.nil, hb1, by simp [slipsTo]⟩
  case round =>
    obtain ⟨k, hk, rfl, hg, hbl, h20⟩ := hrel
    have Hg := Lib.hid hg
    have Hbl := Lib.hid hbl
    have hgs := hbl.size
    clear hg hbl hb1 t1
    by_cases hlt : k < want.length
    · have hlt' : k < rung.length := by omega
      skip
      obtain ⟨gw, ofw, hAw, hgw, hcw⟩ := Hh.out.at hlt
      obtain ⟨gr, ofr, hAr, hgr, hcr⟩ := Hh'.out.at hlt'
      subst hAw hAr
      have s0 : wr.cell? ⟨gw, ofw + k, none⟩ = some (.string want[k]) := (Hbl.out.cell (p := ⟨gw, ofw + k, none⟩) hgw).trans (by have := hcw 0 _ rfl; rw [Nat.mul_one] at this; exact this)
      have r0 : wr.cell? ⟨gr, ofr + k, none⟩ = some (.string rung[k]) := (Hbl.out.cell (p := ⟨gr, ofr + k, none⟩) hgr).trans (by have := hcr 0 _ rfl; rw [Nat.mul_one] at this; exact this)
      have hgww : gw < wr.heap.size := Nat.lt_of_lt_of_le hgw hgs
      have hgrw : gr < wr.heap.size := Nat.lt_of_lt_of_le hgr hgs
      obtain ⟨b1, b2, b3, b4, b5⟩ := slipsTo_step HT.out hlt hlt'
      obtain ⟨x, hx⟩ : ∃ x, Hid (want[k] = x) := ⟨_, Lib.hid rfl⟩
      obtain ⟨R, hR⟩ : ∃ R, Hid (rung[k] = R) := ⟨_, Lib.hid rfl⟩
      rw [hx.out] at s0 b1 b2 b3 b4
      rw [hR.out] at r0 b3 b4
      obtain ⟨T, hT⟩ : ∃ T, Hid (slpAll x k (slipsTo want rung k) = T) := ⟨_, Lib.hid rfl⟩
      rw [hT.out] at b3 b4
      have hP8 := leastL_8 b3
      have hPp := leastL_pairs b3
      have Htw := Lib.hid b3
      obtain ⟨P, hP⟩ : ∃ P, Hid (leastL R T = P) := ⟨_, Lib.hid rfl⟩
      rw [hP.out] at b4 hP8 hPp
      have HP := Lib.hid hPp
      have Hst := Lib.hid b4
      have Hrow := Lib.hid b1
      have Hok := Lib.hid b2
      have Hle := Lib.hid b5
      have Hblk : Hid (∀ g, u6.ownBlock = some g → g < wr.heap.size) := Lib.hid Hg.out.block_lt
      obtain ⟨A6, c6, hv6, ho6⟩ := Hg.out.own Slp_enc_len
      subst hv6
      have H6 := Lib.hid (ho6.rd Slp_enc_len)
      clear hcw hcr b1 b2 b3 b4 b5 hPp ho6
      have hru : Hid (∀ (W : World) (A5 : Option Addr) (c5 cc : Nat), Below wr.heap.size wr W → RdL W W.heap.size A5 3 Slp.enc (atL (slipsTo want rung k)) → Calls Try.prog 56 #[.slice (some ⟨gw, ofw + k, none⟩) 1 cc, .slice A5 (atL (slipsTo want rung k)).length c5] W fun e w' => ∃ g2 c2, e = .returned (.slice (some ⟨g2, 0, none⟩) 1 c2) ∧ w'.cell? ⟨g2, 0, none⟩ = some (.string T) ∧ Below W.heap.size W w') := Lib.hid (fun W A5 c5 cc hb hrd => by
        have hrx : RdL W W.heap.size (some ⟨gw, ofw + k, none⟩) 1 encString [x] := .inr ⟨gw, ofw + k, rfl, Nat.lt_of_lt_of_le hgww hb.size, fun i hi j u hu => by
          obtain rfl : i = 0 := by simpa using hi
          obtain rfl : j = 0 := by have := (List.getElem?_eq_some_iff.1 hu).1; simp [encString] at this; omega
          refine (hb.cell (p := ⟨gw, ofw + k, none⟩) hgww).trans ?_
          rw [s0]
          simpa [encString] using hu⟩
        have hok1 : rungOK [x] (atL (slipsTo want rung k)) := fun i hi => by
          obtain rfl : i = 0 := by simpa using hi
          refine ⟨Hrow.out, fun z hz => ?_⟩
          obtain ⟨y, hy, rfl⟩ := List.mem_map.1 hz
          exact Hok.out y hy
        refine (l25Rung_any [x] (atL (slipsTo want rung k)) (some ⟨gw, ofw + k, none⟩) A5 cc c5 W hrx hrd (by simp) (by unfold atL; rw [List.length_map]; omega) hok1).mono ?_
        rintro e w' ⟨A2, c2, rfl, ho, hb2⟩
        have e1 : rungTo [x] (atL (slipsTo want rung k)) [x].length = [T] := by
          show rungTo [x] (atL (slipsTo want rung k)) (0 + 1) = [T]
          rw [rungTo_succ _ _ 0 (by simp)]
          show [] ++ [slpAll x 0 (atL (slipsTo want rung k))] = [T]
          rw [slpAll_at (i := (k : Int)) Hle.out, hT.out]; rfl
        rw [e1] at ho ⊢
        rcases ho with h0 | ⟨g2, f, rfl, _, _, hc2, hf2⟩
        · simp at h0
        · exact ⟨g2, c2, rfl, by rw [hc2.cell (by simp)]; exact congrArg some (hf2 0 (by simp) 0 _ rfl), hb2⟩)
      have hle2 : Hid (∀ W : World, Calls Try.prog 58 #[.string R, .string T] W fun e w' => ∃ A c, e = .returned (.slice A P.length c) ∧ OwnS w' W.heap.size w'.heap.size A P ∧ Below W.heap.size W w') := Lib.hid (fun W => by rw [← hP.out]; exact l25Least_any R T W Htw.out)
      have HWD : Hid (Below w.heap.size w wr.drew) := Lib.hid Hbl.out.drew
      have hw1 : IntKind.i64.wrap ((k : Int) + 1) = (k : Int) + 1 := IntWalk.i64_in _ (by omega)
      have hn1 : ((k : Int) + 1).toNat = k + 1 := by omega
      go_wp2_with fail
      go_region_with (first | (go_at_call 57; refine (l25At_any (slipsTo want rung k) A6 c6 _ (show RdL wr.drew wr.drew.heap.size A6 3 Slp.enc (slipsTo want rung k) from H6.out) (by omega)).mono ?_; rintro e w2 ⟨A5, c5, rfl, ho5, hb5⟩; have HB5 : Hid (Below wr.heap.size wr w2) := Lib.hid ((Below.refl _ _).drew.trans hb5); have H5 := Lib.hid (ho5.rd Slp_enc_len); clear ho5) | (go_at_call 56; refine (hru.out _ A5 c5 _ HB5.out H5.out).mono ?_; rintro e w3 ⟨g2, c2, rfl, hx2, hb3⟩; have r3 : w3.cell? ⟨gr, ofr + k, none⟩ = some (.string R) := (hb3.cell (p := ⟨gr, ofr + k, none⟩) (show gr < w2.heap.size from Nat.lt_of_lt_of_le hgrw HB5.out.size)).trans ((HB5.out.cell (p := ⟨gr, ofr + k, none⟩) hgrw).trans r0)))
      all_goals
        have HB23 : Hid (Below wr.heap.size wr w3) := Lib.hid (HB5.out.trans (hb3.mono HB5.out.size))
        have HB3 : Hid (Below w.heap.size w w3) := Lib.hid (Hbl.out.trans (HB23.out.mono Hbl.out.size))
        have Hg3 := Hg.out.later (w' := w3) HB23.out
        have Hblk3 : Hid (∀ g, (Value.slice A6 (slipsTo want rung k).length c6).ownBlock = some g → g < w3.heap.size) := Lib.hid (fun g hg => Nat.lt_of_lt_of_le (Hblk.out g hg) HB23.out.size)
        clear Hblk hw1 hn1
        have Hblk := Hblk3
        go_wp2_with (go_at_call 58; refine (hle2.out _).mono ?_; rintro e w4 ⟨A4, c4, rfl, ho4, hb4⟩)
        skip
        have t4 := hb4.size
        have HB4 : Hid (Below w.heap.size w w4) := Lib.hid (HB3.out.trans (hb4.mono HB3.out.size))
        have G4 : Hid (Grow w4 w.heap.size 43 3 Slp.enc (.slice A6 (slipsTo want rung k).length c6) (slipsTo want rung k)) := Lib.hid (Hg3.later hb4)
        have O4 := Lib.hid ho4
        have hc12 : w.heap.size ≤ w3.heap.size := HB3.out.size
        clear ho4 hb4
        go_wp2_with fail
        try simp only [Act.put, List.getElem_toArray, List.getElem_cons_succ, List.getElem_cons_zero, List.setIfInBounds_toArray, List.set_cons_succ, List.set_cons_zero]
        go_loopw [6, 37] (fun v j wr => ∃ n : Nat, n ≤ P.length ∧ j = .int .i64 n ∧ Grow wr w.heap.size 43 3 Slp.enc v (slipsTo want rung k ++ (P.take n).map (slpOf k)) ∧ OwnS wr w3.heap.size w4.heap.size A4 P ∧ Hid (∀ g, v.ownBlock = some g → g < w3.heap.size ∨ w4.heap.size ≤ g) ∧ Below w.heap.size w wr ∧ w4.heap.size ≤ wr.heap.size) (fun _ j _ => P.length - (intOf j).toNat)
        case atStart => exact ⟨0, by omega, by rfl, by simpa using G4.out, O4.out, Lib.hid (fun g hg => .inl (Hblk.out g hg)), HB4.out, Nat.le_refl _⟩
        case' round =>
          obtain ⟨n, hn, rfl, hg, ho, hv, hbl, hz4⟩ := hrel
          have Hg := Lib.hid hg
          have Ho := Lib.hid ho
          have Hbl := Lib.hid hbl
          have hgs := hbl.size
          clear hg ho hbl
          by_cases hln : n < P.length
          · obtain ⟨D, hD, hRd, hRi⟩ := Ho.out.rd trivial
            have hlD : n < D.length := by have e : (D.map Sl.x).length = P.length := by rw [hD]
                                          rw [List.length_map] at e; omega
            obtain ⟨g, off, hA, hgl, hcell⟩ := hRd.at hlD
            have hxD : D[n].x = P[n] := by
              have e : (D.map Sl.x)[n]? = P[n]? := by rw [hD]
              simpa [hlD, hln] using e
            obtain ⟨x, y, hxy, hx1, hx2, hx3⟩ := HP.out P[n] (List.getElem_mem hln)
            have r0 : wr.cell? ⟨g, off + n, none⟩ = some (.slice D[n].A D[n].x.length D[n].c) := by have := hcell 0 _ rfl; rw [Nat.mul_one] at this; exact this
            have hi := hRi _ (List.getElem_mem hlD)
            rw [hxD, hxy] at r0 hi
            have Hxy := Lib.hid hxy
            generalize D[n].A = Ai at r0 hi
            generalize D[n].c = ci at r0
            obtain ⟨g2, off2, hA2, hg2l, hcell2⟩ := hi.at (k := 0) (by simp)
            obtain ⟨g3, off3, hA3, _, hcell3⟩ := hi.at (k := 1) (by simp)
            rw [hA2] at hA3
            simp only [Option.some.injEq, Addr.mk.injEq, and_true] at hA3
            obtain ⟨rfl, rfl⟩ := hA3
            subst hA2
            subst hA
            have q0 : wr.cell? ⟨g2, off2, none⟩ = some (.int .i64 x) := hcell2 0 _ rfl
            have q1 : wr.cell? ⟨g2, off2 + 1, none⟩ = some (.int .i64 y) := hcell3 0 _ rfl
            clear hcell hcell2 hcell3 hi hRi hRd hxD hxy hD
            have hlen : (slipsTo want rung k ++ (P.take n).map (slpOf k)).length ≤ 100 := by rw [List.length_append, List.length_map, List.length_take]; omega
            have HD : Hid (Grow wr.drew w.heap.size 43 3 Slp.enc u6 (slipsTo want rung k ++ (P.take n).map (slpOf k))) := Lib.hid (show Grow wr w.heap.size 43 3 Slp.enc u6 (slipsTo want rung k ++ (P.take n).map (slpOf k)) from Hg.out)
            have HO : Hid (OwnS wr.drew w3.heap.size w4.heap.size (some ⟨g, off, none⟩) P) := Lib.hid (show OwnS wr w3.heap.size w4.heap.size (some ⟨g, off, none⟩) P from Ho.out)
            have HB : Hid (Below w.heap.size w wr.drew) := Lib.hid Hbl.out.drew
            have hgd : w.heap.size ≤ wr.drew.heap.size := hgs
            have hzd : w4.heap.size ≤ wr.drew.heap.size := hz4
            go_wp2
            go_region_law ((refine step_pushA rfl (.tmp 41) (.tmp 50) 26 rfl w.heap.size 43 _ 3 24 Slp.enc rfl Slip_info rfl (by omega) u6 (slipsTo want rung k ++ (P.take n).map (slpOf k)) [slpOf k [x, y]] 1 rfl rfl (by simp) HD.out rfl Slp_enc_len (by simp [Value.oneCell']) (by simp) (by simp only [List.length_singleton]; omega) (by omega) hgd ?_; intro v' w2 hg2 hb2 hgwn hblk2))
            all_goals
              go_wp2
              have hzd2 : w4.heap.size ≤ w2.heap.size := Nat.le_trans hzd hgwn.size
              have HG2 := Lib.hid hg2
              have HGR := Lib.hid hgwn
              have HBL := Lib.hid hblk2
              have HB2 := Lib.hid hb2
              clear hg2 hgwn hblk2 hb2
              go_roundw
              case rel =>
                refine ⟨n + 1, by omega, by go_num, ?_, HO.out.grown HGR.out (fun g hg => hv.out g hg), Lib.hid (fun g hg => ?_), HB.out.trans HB2.out, by omega⟩
                · rw [List.take_succ_eq_append_getElem hln, List.map_append, ← List.append_assoc, Hxy.out]; exact HG2.out
                · rcases HBL.out with e | e
                  · rw [e] at hg; exact hv.out g hg
                  · rw [e] at hg; injection hg with hg; right; omega
              case measure => simp [intOf]; omega
          obtain rfl : n = P.length := by omega
          have hg5 : Grow wr w.heap.size 43 3 Slp.enc u6 (slipsTo want rung (k + 1)) := by have := Hg.out; rw [List.take_length] at this; rw [Hst.out]; exact this
          obtain ⟨A7, c7, hv7, ho7⟩ := hg5.own Slp_enc_len
          subst hv7
          have Hg5 := Lib.hid hg5
          clear hg5 ho7 Hg hv
        skip
        by_cases hbig : 20 < (slipsTo want rung (k + 1)).length
        · (go_wp2_with fail; go_ret2; exact ⟨rfl, Hbl.out⟩)
        · go_wp2_with fail
          go_roundw
          case rel => exact ⟨k + 1, by omega, by go_num, Hg5.out, Hbl.out, by omega⟩
          case measure => simp [intOf]; omega
    · go_wp2
      obtain rfl : k = want.length := by omega
      exact absurd h20 (by omega)
theorem sSlips_n (want rung : List ByteArray) (A A' : Option Addr) (c c' : Nat) (w : World) (h : RdL w w.heap.size A 1 encString want) (h' : RdL w w.heap.size A' 1 encString rung) (hl : want.length ≤ 1048576) (hl' : rung.length ≤ 1048576)
    (hs : ∀ x ∈ want, String_small 1048576 x) (hs' : ∀ x ∈ rung, String_small 1048576 x) (hc : want.length ≤ c) (ht : ¬ twoRows want rung) :
    Calls Try.prog 8 #[.slice A want.length c, .slice A' rung.length c'] w fun e w' => e = .returned (.tuple #[.slice none 0 0, .bool false]) ∧ Below w.heap.size w w' := by
  have Hs := Lib.hid hs
  have Hs' := Lib.hid hs'
  have Hh := Lib.hid h
  have Hh' := Lib.hid h'
  have e1 := B_f ht
  clear hs hs' h h' ht
  go_enter Try.func8, Try.ntmps8
  go_wp2_with (go_at_call 55; refine (l25Two_any want rung A A' c c' _ Hh.out Hh'.out hl hl' Hs.out Hs'.out).mono ?_; rintro e w' ⟨rfl, hb1⟩)
  go_ret2
  exact ⟨rfl, hb1⟩
theorem sSlips_f (want rung : List ByteArray) (A A' : Option Addr) (c c' : Nat) (w : World) (h : RdL w w.heap.size A 1 encString want) (h' : RdL w w.heap.size A' 1 encString rung) (hl : want.length ≤ 1048576) (hl' : rung.length ≤ 1048576)
    (hs : ∀ x ∈ want, String_small 1048576 x) (hs' : ∀ x ∈ rung, String_small 1048576 x) (hc : want.length ≤ c) (hn : ¬ slipsOfP want rung) :
    Calls Try.prog 8 #[.slice A want.length c, .slice A' rung.length c'] w fun e w' => e = .returned (.tuple #[.slice none 0 0, .bool false]) ∧ Below w.heap.size w w' := by
  by_cases ht : twoRows want rung
  · exact sSlips_b want rung A A' c c' w h h' hl hl' hs hs' hc ht (Nat.lt_of_not_le (fun h2 => hn ⟨ht, h2⟩))
  · exact sSlips_n want rung A A' c c' w h h' hl hl' hs hs' hc ht
set_option maxHeartbeats 6400000 in
theorem iSlips_b (want rung : List ByteArray) (A A' : Option Addr) (c c' : Nat) (w : World) (h : RdL w w.heap.size A 1 encString want) (h' : RdL w w.heap.size A' 1 encString rung) (hl : want.length ≤ 1048576) (hl' : rung.length ≤ 1048576)
    (hs : ∀ x ∈ want, String_small 1048576 x) (hs' : ∀ x ∈ rung, String_small 1048576 x) (hc : want.length ≤ c) (ht : twoRows want rung) (hf : 20 < (slipsTo want rung want.length).length) :
    Calls Try.prog 7 #[.slice A want.length c, .slice A' rung.length c'] w fun e w' => e = .returned (.tuple #[.slice none 0 0, .bool false]) ∧ Below w.heap.size w w' := by
  have Hs := Lib.hid hs
  have Hs' := Lib.hid hs'
  have Hh := Lib.hid h
  have Hh' := Lib.hid h'
  have HT := Lib.hid ht
  have e1 := B_t ht
  have hwr : want.length ≤ rung.length := by have := ht.2.2.2.1; omega
  clear hs hs' h h' ht
  go_enter Try.func7, Try.ntmps7
  go_wp2_with (go_at_call 52; refine (comparable2_any want rung A A' c c' _ Hh.out Hh'.out hl hl' Hs.out Hs'.out).mono ?_; rintro e w' ⟨rfl, hb1⟩; have t1 := hb1.size)
  go_loopw [6, 18] (fun v i wr => ∃ k : Nat, k ≤ want.length ∧ i = .int .i64 k ∧ Grow wr w.heap.size 43 3 Slp.enc v (slipsTo want rung k) ∧ Below w.heap.size w wr ∧ (slipsTo want rung k).length ≤ 20) (fun _ i _ => want.length - (intOf i).toNat)
  case atStart => exact ⟨0, by omega, by rfl, Grow.empty hb1.size, hb1.alloc hb1.size _, by simp [slipsTo]⟩
  case round =>
    obtain ⟨k, hk, rfl, hg, hbl, h20⟩ := hrel
    have Hg := Lib.hid hg
    have Hbl := Lib.hid hbl
    have hgs := hbl.size
    clear hg hbl hb1 t1
    by_cases hlt : k < want.length
    · have hlt' : k < rung.length := by omega
      skip
      obtain ⟨gw, ofw, hAw, hgw, hcw⟩ := Hh.out.at hlt
      obtain ⟨gr, ofr, hAr, hgr, hcr⟩ := Hh'.out.at hlt'
      subst hAw hAr
      have s0 : wr.cell? ⟨gw, ofw + k, none⟩ = some (.string want[k]) := (Hbl.out.cell (p := ⟨gw, ofw + k, none⟩) hgw).trans (by have := hcw 0 _ rfl; rw [Nat.mul_one] at this; exact this)
      have r0 : wr.cell? ⟨gr, ofr + k, none⟩ = some (.string rung[k]) := (Hbl.out.cell (p := ⟨gr, ofr + k, none⟩) hgr).trans (by have := hcr 0 _ rfl; rw [Nat.mul_one] at this; exact this)
      have hgww : gw < wr.heap.size := Nat.lt_of_lt_of_le hgw hgs
      have hgrw : gr < wr.heap.size := Nat.lt_of_lt_of_le hgr hgs
      obtain ⟨b1, b2, b3, b4, b5⟩ := slipsTo_step HT.out hlt hlt'
      obtain ⟨x, hx⟩ : ∃ x, Hid (want[k] = x) := ⟨_, Lib.hid rfl⟩
      obtain ⟨R, hR⟩ : ∃ R, Hid (rung[k] = R) := ⟨_, Lib.hid rfl⟩
      rw [hx.out] at s0 b1 b2 b3 b4
      rw [hR.out] at r0 b3 b4
      obtain ⟨T, hT⟩ : ∃ T, Hid (slpAll x k (slipsTo want rung k) = T) := ⟨_, Lib.hid rfl⟩
      rw [hT.out] at b3 b4
      have hP8 := leastL_8 b3
      have hPp := leastL_pairs b3
      have Htw := Lib.hid b3
      obtain ⟨P, hP⟩ : ∃ P, Hid (leastL R T = P) := ⟨_, Lib.hid rfl⟩
      rw [hP.out] at b4 hP8 hPp
      have HP := Lib.hid hPp
      have Hst := Lib.hid b4
      have Hrow := Lib.hid b1
      have Hok := Lib.hid b2
      have Hle := Lib.hid b5
      have Hblk : Hid (∀ g, u6.ownBlock = some g → g < wr.heap.size) := Lib.hid Hg.out.block_lt
      obtain ⟨A6, c6, hv6, ho6⟩ := Hg.out.own Slp_enc_len
      subst hv6
      have H6 := Lib.hid (ho6.rd Slp_enc_len)
      clear hcw hcr b1 b2 b3 b4 b5 hPp ho6
      have hsl : Hid (∀ (W : World), Below wr.heap.size wr W → Calls Try.prog 54 #[.string x, .int .i64 k, .slice A6 (slipsTo want rung k).length c6] W fun e w' => e = .returned (.string T) ∧ Below W.heap.size W w') := Lib.hid (fun W hb => by rw [← hT.out]; exact slipped_any x k _ A6 c6 W ((H6.out.below hb (Nat.le_refl _)).more hb.size) (by omega) Hrow.out Hok.out)
      have hle2 : Hid (∀ W : World, Calls Try.prog 53 #[.string R, .string T] W fun e w' => ∃ A c, e = .returned (.slice A P.length c) ∧ OwnS w' W.heap.size w'.heap.size A P ∧ Below W.heap.size W w') := Lib.hid (fun W => by rw [← hP.out]; exact leastSwaps_any R T W Htw.out)
      have HWD : Hid (Below w.heap.size w wr.drew) := Lib.hid Hbl.out.drew
      go_wp2_with fail
      go_region_with (first | (go_at_call 54; refine (hsl.out _ (Below.refl _ _).drew).mono ?_; rintro e w3 ⟨rfl, hb3⟩; have r3 : w3.cell? ⟨gr, ofr + k, none⟩ = some (.string R) := (hb3.cell (p := ⟨gr, ofr + k, none⟩) (show gr < wr.heap.size from hgrw)).trans r0) | (go_at_call 53; refine (hle2.out _).mono ?_; rintro e w4 ⟨A4, c4, rfl, ho4, hb4⟩))
      all_goals
        have HB3 : Hid (Below w.heap.size w w3) := Lib.hid (HWD.out.trans (hb3.mono Hbl.out.size))
        have Hg3 := Hg.out.later (w' := w3) ((Below.refl _ _).drew.trans hb3)
        have Hblk3 : Hid (∀ g, (Value.slice A6 (slipsTo want rung k).length c6).ownBlock = some g → g < w3.heap.size) := Lib.hid (fun g hg => Nat.lt_of_lt_of_le (Hblk.out g hg) hb3.size)
        clear Hblk
        have Hblk := Hblk3
        skip
        have t4 := hb4.size
        have HB4 : Hid (Below w.heap.size w w4) := Lib.hid (HB3.out.trans (hb4.mono HB3.out.size))
        have G4 : Hid (Grow w4 w.heap.size 43 3 Slp.enc (.slice A6 (slipsTo want rung k).length c6) (slipsTo want rung k)) := Lib.hid (Hg3.later hb4)
        have O4 := Lib.hid ho4
        have hc12 : w.heap.size ≤ w3.heap.size := HB3.out.size
        clear ho4 hb4
        go_wp2_with fail
        try simp only [Act.put, List.getElem_toArray, List.getElem_cons_succ, List.getElem_cons_zero, List.setIfInBounds_toArray, List.set_cons_succ, List.set_cons_zero]
        go_loopw [6, 33] (fun v j wr => ∃ n : Nat, n ≤ P.length ∧ j = .int .i64 n ∧ Grow wr w.heap.size 43 3 Slp.enc v (slipsTo want rung k ++ (P.take n).map (slpOf k)) ∧ OwnS wr w3.heap.size w4.heap.size A4 P ∧ Hid (∀ g, v.ownBlock = some g → g < w3.heap.size ∨ w4.heap.size ≤ g) ∧ Below w.heap.size w wr ∧ w4.heap.size ≤ wr.heap.size) (fun _ j _ => P.length - (intOf j).toNat)
        case atStart => exact ⟨0, by omega, by rfl, by simpa using G4.out, O4.out, Lib.hid (fun g hg => .inl (Hblk.out g hg)), HB4.out, Nat.le_refl _⟩
        case' round =>
          obtain ⟨n, hn, rfl, hg, ho, hv, hbl, hz4⟩ := hrel
          have Hg := Lib.hid hg
          have Ho := Lib.hid ho
          have Hbl := Lib.hid hbl
          have hgs := hbl.size
          clear hg ho hbl
          by_cases hln : n < P.length
          · obtain ⟨D, hD, hRd, hRi⟩ := Ho.out.rd trivial
            have hlD : n < D.length := by have e : (D.map Sl.x).length = P.length := by rw [hD]
                                          rw [List.length_map] at e; omega
            obtain ⟨g, off, hA, hgl, hcell⟩ := hRd.at hlD
            have hxD : D[n].x = P[n] := by
              have e : (D.map Sl.x)[n]? = P[n]? := by rw [hD]
              simpa [hlD, hln] using e
            obtain ⟨x, y, hxy, hx1, hx2, hx3⟩ := HP.out P[n] (List.getElem_mem hln)
            have r0 : wr.cell? ⟨g, off + n, none⟩ = some (.slice D[n].A D[n].x.length D[n].c) := by have := hcell 0 _ rfl; rw [Nat.mul_one] at this; exact this
            have hi := hRi _ (List.getElem_mem hlD)
            rw [hxD, hxy] at r0 hi
            have Hxy := Lib.hid hxy
            generalize D[n].A = Ai at r0 hi
            generalize D[n].c = ci at r0
            obtain ⟨g2, off2, hA2, hg2l, hcell2⟩ := hi.at (k := 0) (by simp)
            obtain ⟨g3, off3, hA3, _, hcell3⟩ := hi.at (k := 1) (by simp)
            rw [hA2] at hA3
            simp only [Option.some.injEq, Addr.mk.injEq, and_true] at hA3
            obtain ⟨rfl, rfl⟩ := hA3
            subst hA2
            subst hA
            have q0 : wr.cell? ⟨g2, off2, none⟩ = some (.int .i64 x) := hcell2 0 _ rfl
            have q1 : wr.cell? ⟨g2, off2 + 1, none⟩ = some (.int .i64 y) := hcell3 0 _ rfl
            clear hcell hcell2 hcell3 hi hRi hRd hxD hxy hD
            have hlen : (slipsTo want rung k ++ (P.take n).map (slpOf k)).length ≤ 100 := by rw [List.length_append, List.length_map, List.length_take]; omega
            have HD : Hid (Grow wr.drew w.heap.size 43 3 Slp.enc u6 (slipsTo want rung k ++ (P.take n).map (slpOf k))) := Lib.hid (show Grow wr w.heap.size 43 3 Slp.enc u6 (slipsTo want rung k ++ (P.take n).map (slpOf k)) from Hg.out)
            have HO : Hid (OwnS wr.drew w3.heap.size w4.heap.size (some ⟨g, off, none⟩) P) := Lib.hid (show OwnS wr w3.heap.size w4.heap.size (some ⟨g, off, none⟩) P from Ho.out)
            have HB : Hid (Below w.heap.size w wr.drew) := Lib.hid Hbl.out.drew
            have hgd : w.heap.size ≤ wr.drew.heap.size := hgs
            have hzd : w4.heap.size ≤ wr.drew.heap.size := hz4
            go_wp2
            go_region_law ((refine step_pushA rfl (.tmp 37) (.tmp 46) 26 rfl w.heap.size 43 _ 3 24 Slp.enc rfl Slip_info rfl (by omega) u6 (slipsTo want rung k ++ (P.take n).map (slpOf k)) [slpOf k [x, y]] 1 rfl rfl (by simp) HD.out rfl Slp_enc_len (by simp [Value.oneCell']) (by simp) (by simp only [List.length_singleton]; omega) (by omega) hgd ?_; intro v' w2 hg2 hb2 hgwn hblk2))
            all_goals
              go_wp2
              have hzd2 : w4.heap.size ≤ w2.heap.size := Nat.le_trans hzd hgwn.size
              have HG2 := Lib.hid hg2
              have HGR := Lib.hid hgwn
              have HBL := Lib.hid hblk2
              have HB2 := Lib.hid hb2
              clear hg2 hgwn hblk2 hb2
              go_roundw
              case rel =>
                refine ⟨n + 1, by omega, by go_num, ?_, HO.out.grown HGR.out (fun g hg => hv.out g hg), Lib.hid (fun g hg => ?_), HB.out.trans HB2.out, by omega⟩
                · rw [List.take_succ_eq_append_getElem hln, List.map_append, ← List.append_assoc, Hxy.out]; exact HG2.out
                · rcases HBL.out with e | e
                  · rw [e] at hg; exact hv.out g hg
                  · rw [e] at hg; injection hg with hg; right; omega
              case measure => simp [intOf]; omega
          obtain rfl : n = P.length := by omega
          have hg5 : Grow wr w.heap.size 43 3 Slp.enc u6 (slipsTo want rung (k + 1)) := by have := Hg.out; rw [List.take_length] at this; rw [Hst.out]; exact this
          obtain ⟨A7, c7, hv7, ho7⟩ := hg5.own Slp_enc_len
          subst hv7
          have Hg5 := Lib.hid hg5
          clear hg5 ho7 Hg hv
        skip
        by_cases hbig : 20 < (slipsTo want rung (k + 1)).length
        · (go_wp2_with fail; go_ret2; exact ⟨rfl, Hbl.out⟩)
        · go_wp2_with fail
          go_roundw
          case rel => exact ⟨k + 1, by omega, by go_num, Hg5.out, Hbl.out, by omega⟩
          case measure => simp [intOf]; omega
    · go_wp2
      obtain rfl : k = want.length := by omega
      exact absurd h20 (by omega)
theorem iSlips_n (want rung : List ByteArray) (A A' : Option Addr) (c c' : Nat) (w : World) (h : RdL w w.heap.size A 1 encString want) (h' : RdL w w.heap.size A' 1 encString rung) (hl : want.length ≤ 1048576) (hl' : rung.length ≤ 1048576)
    (hs : ∀ x ∈ want, String_small 1048576 x) (hs' : ∀ x ∈ rung, String_small 1048576 x) (hc : want.length ≤ c) (ht : ¬ twoRows want rung) :
    Calls Try.prog 7 #[.slice A want.length c, .slice A' rung.length c'] w fun e w' => e = .returned (.tuple #[.slice none 0 0, .bool false]) ∧ Below w.heap.size w w' := by
  have Hs := Lib.hid hs
  have Hs' := Lib.hid hs'
  have Hh := Lib.hid h
  have Hh' := Lib.hid h'
  have e1 := B_f ht
  clear hs hs' h h' ht
  go_enter Try.func7, Try.ntmps7
  go_wp2_with (go_at_call 52; refine (comparable2_any want rung A A' c c' _ Hh.out Hh'.out hl hl' Hs.out Hs'.out).mono ?_; rintro e w' ⟨rfl, hb1⟩)
  go_ret2
  exact ⟨rfl, hb1⟩
theorem iSlips_f (want rung : List ByteArray) (A A' : Option Addr) (c c' : Nat) (w : World) (h : RdL w w.heap.size A 1 encString want) (h' : RdL w w.heap.size A' 1 encString rung) (hl : want.length ≤ 1048576) (hl' : rung.length ≤ 1048576)
    (hs : ∀ x ∈ want, String_small 1048576 x) (hs' : ∀ x ∈ rung, String_small 1048576 x) (hc : want.length ≤ c) (hn : ¬ slipsOfP want rung) :
    Calls Try.prog 7 #[.slice A want.length c, .slice A' rung.length c'] w fun e w' => e = .returned (.tuple #[.slice none 0 0, .bool false]) ∧ Below w.heap.size w w' := by
  by_cases ht : twoRows want rung
  · exact iSlips_b want rung A A' c c' w h h' hl hl' hs hs' hc ht (Nat.lt_of_not_le (fun h2 => hn ⟨ht, h2⟩))
  · exact iSlips_n want rung A A' c c' w h h' hl hl' hs hs' hc ht
end Go.Proofs.Ytbfhfnejppfehaa
