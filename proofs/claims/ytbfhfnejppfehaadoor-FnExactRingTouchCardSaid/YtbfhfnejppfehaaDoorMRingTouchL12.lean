import Derived.Test.YtbfhfnejppfehaaDoorMRingTouchL11
import Derived.Test.YtbfhfnejppfehaaDoorMRingTouchL05
/-
  The row that a change makes of rounds, where it brings a place, a row behind a change: contracts of the program.
-/
namespace Go.Proofs.YtbfhfnejppfehaaDoor
open Go.RowKit
set_option linter.unusedVariables false
set_option linter.unusedSimpArgs false
set_option maxRecDepth 100000

theorem sep_take {L : List Nat} (hs : Sep L) (h1 : ∀ r ∈ L, 1 ≤ r) {k : Nat} (hk : k < L.length) : ∀ r ∈ L.take k, r + 1 < L[k] ∧ 1 ≤ r := fun r hr => by
  obtain ⟨j, hj, rfl⟩ := List.getElem_of_mem hr
  rw [List.length_take] at hj
  rw [List.getElem_take]
  exact ⟨List.pairwise_iff_getElem.1 hs j k (by omega) hk (by omega), h1 _ (List.getElem_mem _)⟩
theorem pt_free {L : List Nat} {p : Nat} (h : ∀ r ∈ L, r + 1 < p) : pt L p = p ∧ pt L (p + 1) = p + 1 := by
  unfold pt
  refine ⟨?_, ?_⟩
  · rw [if_neg (fun hm => by have := h _ hm; omega), if_neg (fun hm => by have := h _ hm.2; omega)]
  · rw [if_neg (fun hm => by have := h _ hm; omega), if_neg (fun hm => by have := h _ hm.2; omega)]
theorem natI_at {L : List Nat} {k : Nat} (h : k < (natI L).length) : (natI L)[k] = ((L[k]'(by rw [natI_len] at h; exact h) : Nat) : Int) := by simp [natI]
set_option maxHeartbeats 1600000 in
theorem changeRow_any (n : Nat) (c : ByteArray) (w : World) (h3 : 3 ≤ n) (h8 : n ≤ 8) (hc : c.size ≤ 1048576) (ht : chgTxt c) :
    Calls Tryd.prog 147 #[.int .i64 (n : Int), .string c] w fun e w' => e = .returned (.string (chgS n c)) ∧ Below w.heap.size w w' := by
  have hrs : Hid ((roundsS n).size = n) := Lib.hid (by rw [roundsS_size (by omega) (by omega)]; omega)
  have hrb : Hid (∀ i : Nat, i < n → bat (roundsS n) i = 49 + i) := Lib.hid (fun i hi => rounds_bat hi h8)
  have hsw := Lib.hid (fun W => swapsOf_any n c W h3 h8 hc ht)
  have hsep := Lib.hid (swL_sep c n)
  have hbd := Lib.hid (swL_bd c n)
  have hch : Hid (chgS n c = mkS (ptL (swL c n) n)) := Lib.hid rfl
  have hnd : Hid ((swL c n).length ≤ n) := Lib.hid (nodupN_le (swL c n) n ((swL_sep c n).imp (fun h => by omega)) (fun x hx => (swL_bd c n x hx).2))
  generalize chgS n c = R at hch ⊢
  generalize swL c n = L at *
  clear ht
  go_enter Tryd.func147, Tryd.ntmps147
  go_wp2_with (first | (go_at_call 81; refine (rounds_any (n : Int) _ (by omega) (by omega)).mono ?_; rintro e w' ⟨rfl, rfl⟩) | (refine wpList_bytes rfl _ 9 40 5 rfl rfl rfl rfl (roundsS n) rfl ?_; intro cc w2 hc2 hb2; have HC2 := Lib.hid hc2; have HB2 := Lib.hid hb2; have hs2 := hb2.size; clear hc2 hb2) | (go_at_call 148; refine (hsw.out _).mono ?_; rintro e w3 ⟨A, c3, rfl, ho3, hb3⟩; have HO3 := Lib.hid ho3; have HB3 := Lib.hid hb3; have hs3 := hb3.size; clear ho3 hb3))
  have hsz := hrs.out
  have hgw : Hid (w.heap.size < w2.heap.size) := Lib.hid HC2.out.lt
  have HC : Hid (Cells w3 w.heap.size n (fun i => .int .u8 ((48 + pt [] (i + 1) : Nat) : Int))) := Lib.hid (by have hc2 := HC2.out.later HB3.out; rw [hsz] at hc2; exact hc2.congr fun i hi => by rw [hrb.out i hi, pt_nil]; congr 1; omega)
  have HB : Hid (Below w.heap.size w w3) := Lib.hid (HB2.out.trans (HB3.out.mono hs2))
  have hLl : (natI L).length ≤ 8 := by have := hnd.out; rw [natI_len]; omega
  rw [hsz]
  clear hsz HC2
  go_loopw [15] (fun i wr => ∃ k : Nat, k ≤ (natI L).length ∧ i = .int .i64 k ∧ Hid (Cells wr w.heap.size n (fun i => .int .u8 ((48 + pt (L.take k) (i + 1) : Nat) : Int))) ∧ Hid (Chg w.heap.size (w.heap.size + 1) w3 wr)) (fun i _ => (natI L).length - (intOf i).toNat)
  case atStart => exact ⟨0, by omega, by rfl, HC, Lib.hid (Chg.refl _ _ _)⟩
  case round =>
    obtain ⟨k, hk, rfl, hcl, hch2⟩ := hrel
    by_cases hlt : k < (natI L).length
    · have hkL : k < L.length := by rw [natI_len] at hlt; exact hlt
      have htk := sep_take hsep.out (fun r hr => (hbd.out r hr).1) hkL
      obtain ⟨hp1, hpn⟩ := hbd.out _ (List.getElem_mem hkL)
      have htk2 := List.take_succ_eq_append_getElem hkL
      have hfr := pt_free (fun r hr => (htk r hr).1)
      have hoR := HO3.out.chg hch2.out (.inr (by have := hgw.out; omega))
      obtain ⟨g, hA, _, _, _⟩ := hoR.some_of (by omega)
      subst hA
      have r0 := (hoR.cellInt k hlt).1
      rw [natI_at hlt] at r0
      have Htk := Lib.hid htk
      have Htk2 := Lib.hid htk2
      have c0 := hcl.out.cell (i := L[k] - 1) (by omega)
      have f0 := hcl.out.free (i := L[k] - 1) (by omega)
      have c1 := hcl.out.cell (i := L[k]) hpn
      have f1 := hcl.out.free (i := L[k]) hpn
      rw [show L[k] - 1 + 1 = L[k] by omega, hfr.1] at c0
      rw [hfr.2] at c1
      clear hoR htk htk2 hfr
      generalize L[k] = p at *
      have epn : ((p : Int) - 1).toNat = p - 1 := by omega
      have d0 : wr.cell? ⟨w.heap.size, p - 1, none⟩ = some (.int .u8 (48 + (p : Int))) := by rw [c0]; congr 2
      have d1 : wr.cell? ⟨w.heap.size, p, none⟩ = some (.int .u8 (49 + (p : Int))) := by rw [c1]; congr 2; omega
      clear c0 c1
      go_wp2
      go_region
      go_wp2
      go_roundw
      case rel =>
        refine ⟨k + 1, by omega, by go_num, Lib.hid ?_, Lib.hid (((hch2.out.setCell (p := ⟨w.heap.size, p - 1, none⟩) (Nat.le_refl _) (Nat.lt_succ_self _) _).setCell (p := ⟨w.heap.size, p, none⟩) (Nat.le_refl _) (Nat.lt_succ_self _) _).trans (Chg.of_below (Below.refl _ _).drew))⟩
        rw [Htk2.out]
        exact (pt_cells Htk.out hp1 hpn hcl.out).drewN 1
      case measure => simp [intOf]; omega
    · obtain rfl : k = (natI L).length := by omega
      have hcv := hcl.out
      rw [natI_len, List.take_length] at hcv
      have hs := hcv.str (P := Tryd.prog) (ptL L n) (ptL_len L n) (fun i hi => by simp [ptL]) 40 5 9 cc rfl rfl rfl
      clear hcv
      go_wp2
      go_ret
      exact ⟨ret_str hch.out.symm, Below.chg HB.out hch2.out (Nat.le_refl _) HB.out.size⟩
theorem apply_any (a c : ByteArray) (w : World) (ha : isRow a) (hc : c.size ≤ 1048576) (ht : chgTxt c) :
    Calls Tryd.prog 131 #[.string a, .string c] w fun e w' => e = .returned (.string (timesS a (chgS a.size c))) ∧ Below w.heap.size w w' := by
  have h3 := ha.1
  have h8 := ha.2.1
  have hsz : Hid ((chgS a.size c).size = a.size) := Lib.hid (ptS_size _ _)
  have hbd : Hid (∀ i : Nat, i < (chgS a.size c).size → 49 ≤ bat (chgS a.size c) i ∧ bat (chgS a.size c) i < 49 + a.size) := Lib.hid (by
    have hr := ptS_row (swL_bd c a.size) (swL_sep c a.size) h3 h8
    intro i hi
    have := hr.2.2.1 i hi
    rw [ptS_size] at this; exact this)
  have hle : (chgS a.size c).size ≤ 1000000 := by have := hsz.out; omega
  have hcr := Lib.hid (fun W => changeRow_any a.size c W h3 h8 hc ht)
  clear ha ht
  go_enter Tryd.func131, Tryd.ntmps131
  go_wp2_with (first | (go_at_call 147; refine (hcr.out _).mono ?_; rintro e w1 ⟨rfl, hb1⟩) | (go_at_call 146; refine (times_any a (chgS a.size c) _ hle hbd.out).mono ?_; rintro e w2 ⟨rfl, hb2⟩))
  go_ret
  exact ⟨rfl, hb1.trans (hb2.mono hb1.size)⟩
set_option maxHeartbeats 800000 in
theorem movedTo_any (n : Nat) (c : ByteArray) (p : Nat) (w : World) (h3 : 3 ≤ n) (h8 : n ≤ 8) (hc : c.size ≤ 1048576) (ht : chgTxt c) (hp1 : 1 ≤ p) (hpn : p ≤ n) :
    Calls Tryd.prog 132 #[.int .i64 (n : Int), .string c, .int .i64 (p : Int)] w fun e w' => e = .returned (.int .i64 (mvP n c p : Nat)) ∧ Below w.heap.size w w' := by
  have hsw := Lib.hid (fun W => swapsOf_any n c W h3 h8 hc ht)
  have hsep := Lib.hid (swL_sep c n)
  have hbd := Lib.hid (swL_bd c n)
  have hnd : Hid ((swL c n).length ≤ n) := Lib.hid (nodupN_le (swL c n) n ((swL_sep c n).imp (fun h => by omega)) (fun x hx => (swL_bd c n x hx).2))
  have hmv : Hid (mvP n c p = pt (swL c n) p) := Lib.hid rfl
  generalize mvP n c p = R at *
  generalize swL c n = L at *
  clear ht
  go_enter Tryd.func132, Tryd.ntmps132
  go_wp2_with (go_at_call 148; refine (hsw.out _).mono ?_; rintro e w3 ⟨A, c3, rfl, ho3, hb3⟩; have HO3 := Lib.hid ho3; have HB3 := Lib.hid hb3; clear ho3 hb3)
  have hLl : (natI L).length ≤ 8 := by have := hnd.out; rw [natI_len]; omega
  go_loop [13] (fun i => ∃ k : Nat, k ≤ (natI L).length ∧ i = .int .i64 k ∧ Hid (∀ (j : Nat) (hj : j < L.length), j < k → p ≠ L[j] ∧ p ≠ L[j] + 1)) (fun i => (natI L).length - (intOf i).toNat)
  case atStart => exact ⟨0, by omega, by rfl, Lib.hid (fun j _ h => by omega)⟩
  case round =>
    obtain ⟨k, hk, rfl, hq⟩ := hrel
    by_cases hlt : k < (natI L).length
    · have hkL : k < L.length := by rw [natI_len] at hlt; exact hlt
      have hbp := hbd.out _ (List.getElem_mem hkL)
      obtain ⟨g, hA, _, _, _⟩ := HO3.out.some_of (by omega)
      have ho := HO3.out
      rw [hA] at ho
      have r0 := (ho.cellInt k hlt).1
      rw [natI_at hlt] at r0
      subst hA
      have Hm : Hid (L[k] ∈ L) := Lib.hid (List.getElem_mem hkL)
      obtain ⟨q, hqe⟩ : ∃ q, Hid (L[k] = q) := ⟨_, Lib.hid rfl⟩
      rw [hqe.out] at r0 Hm hbp
      obtain ⟨hq1, hq2⟩ := hbp
      clear ho
      by_cases c1 : p = q
      · subst c1
        have hR : Hid ((R : Int) = (p : Int) + 1) := Lib.hid (by rw [hmv.out]; unfold pt; rw [if_pos Hm.out]; simp)
        go_wp2
        go_ret
        exact ⟨ret_int hR.out.symm, HB3.out⟩
      · have d1 : ((p : Int) == (q : Int)) = false := beq_eq_false_iff_ne.2 (by omega)
        by_cases c2 : p = q + 1
        · have hR : Hid ((R : Int) = (q : Int)) := Lib.hid (by rw [hmv.out]; unfold pt; rw [if_neg (fun hm => sep_no hsep.out Hm.out (by rw [← c2]; exact hm)), if_pos ⟨hp1, by rw [c2]; simpa using Hm.out⟩]; omega)
          have d2 : ((p : Int) == (q : Int) + 1) = true := beq_iff_eq.2 (by omega)
          clear c1 c2
          go_wp2
          go_ret
          exact ⟨ret_int hR.out.symm, HB3.out⟩
        · have d2 : ((p : Int) == (q : Int) + 1) = false := beq_eq_false_iff_ne.2 (by omega)
          have C1 := Lib.hid c1
          have C2 := Lib.hid c2
          clear c1 c2
          go_wp2
          go_round
          case rel =>
            refine ⟨k + 1, by omega, by go_num, Lib.hid (fun j hj h1 => ?_)⟩
            rcases Nat.lt_or_eq_of_le (Nat.le_of_lt_succ h1) with h' | rfl
            · exact hq.out j hj h'
            · rw [hqe.out]; exact ⟨C1.out, C2.out⟩
          case measure => simp [intOf]; omega
    · obtain rfl : k = (natI L).length := by omega
      have hR : Hid ((R : Int) = (p : Int)) := Lib.hid (by
        rw [hmv.out]; unfold pt
        have h1 : ¬ p ∈ L := fun hm => by
          obtain ⟨j, hj, e⟩ := List.getElem_of_mem hm
          exact (hq.out j hj (by rw [natI_len]; exact hj)).1 e.symm
        have h2 : ¬ (1 ≤ p ∧ p - 1 ∈ L) := fun hm => by
          obtain ⟨j, hj, e⟩ := List.getElem_of_mem hm.2
          exact (hq.out j hj (by rw [natI_len]; exact hj)).2 (by omega)
        rw [if_neg h1, if_neg h2])
      go_wp2
      go_ret
      exact ⟨ret_int hR.out.symm, HB3.out⟩
end Go.Proofs.YtbfhfnejppfehaaDoor
