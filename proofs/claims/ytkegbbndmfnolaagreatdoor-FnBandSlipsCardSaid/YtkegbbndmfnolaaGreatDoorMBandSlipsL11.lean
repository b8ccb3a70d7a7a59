import Derived.Test.YtkegbbndmfnolaaGreatDoorMBandSlipsL10
import Derived.Test.YtkegbbndmfnolaaGreatDoorMBandSlipsL04
import Derived.Deep.Cut
/-
  The row that a change makes of rounds, where it brings a place, a row behind a change: contracts of the program.
-/
namespace Go.Proofs.YtkegbbndmfnolaaGreatDoor
open Go.RowKit
set_option linter.unusedVariables false
set_option linter.unusedSimpArgs false
set_option maxRecDepth 100000

theorem sep_take {L : List Nat} (hs : Sep L) (h1 : ∀ r ∈ L, 1 ≤ r) {k : Nat} (hk : k < L.length) : ∀ r ∈ L.take k, r + 1 < L[k] ∧ 1 ≤ r := fun r hr => by
  obtain ⟨j, hj, rfl⟩ := List.getElem_of_mem hr
  rw [List.length_take] at hj
  rw [List.getElem_take]
  exact ⟨List.pairwise_iff_getElem.1 hs j k (by omega) hk (by omega), h1 _ (List.getElem_mem _)⟩
theorem pt_free {L : List Nat} {p : Nat} (h : ∀ r ∈ L, r + 1 < p) : pt L p = p ∧ pt L (p + 1) = p + 1 := by
  unfold pt
  refine ⟨?_, ?_⟩
  · rw [if_neg (fun hm => by have := h _ hm; omega), if_neg (fun hm => by have := h _ hm.2; omega)]
  · rw [if_neg (fun hm => by have := h _ hm; omega), if_neg (fun hm => by have := h _ hm.2; omega)]
theorem natI_at {L : List Nat} {k : Nat} (h : k < (natI L).length) : (natI L)[k] = ((L[k]'(by rw [natI_len] at h; exact h) : Nat) : Int) := by simp [natI]
set_option maxHeartbeats 1600000 in
theorem changeRow_any (n : Nat) (c : ByteArray) (w : World) (h3 : 3 ≤ n) (h8 : n ≤ 8) (hc : c.size ≤ 1048576) (ht : chgTxt c) :
    Calls Tryz.prog 163 #[.int .i64 (n : Int), .string c] w fun e w' => e = .returned (.string (chgS n c)) ∧ Below w.heap.size w w' := by
  have hrs : Hid ((roundsS n).size = n) := Lib.hid (by rw [roundsS_size (by omega) (by omega)]; omega)
  have hrb : Hid (∀ i : Nat, i < n → bat (roundsS n) i = 49 + i) := Lib.hid (fun i hi => rounds_bat hi h8)
  have hsw := Lib.hid (fun W => swapsOf_any n c W h3 h8 hc ht)
  have hsep := Lib.hid (swL_sep c n)
  have hbd := Lib.hid (swL_bd c n)
  have hch : Hid (chgS n c = mkS (ptL (swL c n) n)) := Lib.hid rfl
  have hnd : Hid ((swL c n).length ≤ n) := Lib.hid (nodupN_le (swL c n) n ((swL_sep c n).imp (fun h => by omega)) (fun x hx => (swL_bd c n x hx).2))
  generalize chgS n c = R at hch ⊢
  generalize swL c n = L at *
  clear ht
  go_enter Tryz.func163, Tryz.ntmps163
  go_wp2_with (first | (go_at_call 113; refine (rounds_any (n : Int) _ (by omega) (by omega)).mono ?_; rintro e w' ⟨rfl, rfl⟩) | (refine wpList_bytes rfl _ 9 22 5 rfl rfl rfl rfl (roundsS n) rfl ?_; intro cc w2 hc2 hb2; have HC2 := Lib.hid hc2; have HB2 := Lib.hid hb2; have hs2 := hb2.size; clear hc2 hb2) | (go_at_call 164; refine (hsw.out _).mono ?_; rintro e w3 ⟨A, c3, rfl, ho3, hb3⟩; have HO3 := Lib.hid ho3; have HB3 := Lib.hid hb3; have hs3 := hb3.size; clear ho3 hb3))
  have hsz := hrs.out
  have hgw : Hid (w.heap.size < w2.heap.size) := Lib.hid HC2.out.lt
  have HC : Hid (Cells w3 w.heap.size n (fun i => .int .u8 ((48 + pt [] (i + 1) : Nat) : Int))) := Lib.hid (by have hc2 := HC2.out.later HB3.out; rw [hsz] at hc2; exact hc2.congr fun i hi => by rw [hrb.out i hi, pt_nil]; congr 1; omega)
  have HB : Hid (Below w.heap.size w w3) := Lib.hid (HB2.out.trans (HB3.out.mono hs2))
  have hLl : (natI L).length ≤ 8 := by have := hnd.out; rw [natI_len]; omega
  rw [hsz]
  clear hsz HC2
  go_loopw [15] (fun i wr => ∃ k : Nat, k ≤ (natI L).length ∧ i = .int .i64 k ∧ Hid (Cells wr w.heap.size n (fun i => .int .u8 ((48 + pt (L.take k) (i + 1) : Nat) : Int))) ∧ Hid (Chg w.heap.size (w.heap.size + 1) w3 wr)) (fun i _ => (natI L).length - (intOf i).toNat)
  case atStart => exact ⟨0, by omega, by rfl, HC, Lib.hid (Chg.refl _ _ _)⟩
  case round =>
    obtain ⟨k, hk, rfl, hcl, hch2⟩ := hrel
    by_cases hlt : k < (natI L).length
    · have hkL : k < L.length := by rw [natI_len] at hlt; exact hlt
      have htk := sep_take hsep.out (fun r hr => (hbd.out r hr).1) hkL
      obtain ⟨hp1, hpn⟩ := hbd.out _ (List.getElem_mem hkL)
      have htk2 := List.take_succ_eq_append_getElem hkL
      have hfr := pt_free (fun r hr => (htk r hr).1)
      have hoR := HO3.out.chg hch2.out (.inr (by have := hgw.out; omega))
      obtain ⟨g, hA, _, _, _⟩ := hoR.some_of (by omega)
      subst hA
      have r0 := (hoR.cellInt k hlt).1
      rw [natI_at hlt] at r0
      have Htk := Lib.hid htk
      have Htk2 := Lib.hid htk2
      have c0 := hcl.out.cell (i := L[k] - 1) (by omega)
      have f0 := hcl.out.free (i := L[k] - 1) (by omega)
      have c1 := hcl.out.cell (i := L[k]) hpn
      have f1 := hcl.out.free (i := L[k]) hpn
      rw [show L[k] - 1 + 1 = L[k] by omega, hfr.1] at c0
      rw [hfr.2] at c1
      clear hoR htk htk2 hfr
      generalize L[k] = p at *
      have epn : ((p : Int) - 1).toNat = p - 1 := by omega
      have d0 : wr.cell? ⟨w.heap.size, p - 1, none⟩ = some (.int .u8 (48 + (p : Int))) := by rw [c0]; congr 2
      have d1 : wr.cell? ⟨w.heap.size, p, none⟩ = some (.int .u8 (49 + (p : Int))) := by rw [c1]; congr 2; omega
      clear c0 c1
      go_wp2
      go_region
      go_wp2
      go_roundw
      case rel =>
        refine ⟨k + 1, by omega, by go_num, Lib.hid ?_, Lib.hid (((hch2.out.setCell (p := ⟨w.heap.size, p - 1, none⟩) (Nat.le_refl _) (Nat.lt_succ_self _) _).setCell (p := ⟨w.heap.size, p, none⟩) (Nat.le_refl _) (Nat.lt_succ_self _) _).trans (Chg.of_below (Below.refl _ _).drew))⟩
        rw [Htk2.out]
        exact (pt_cells Htk.out hp1 hpn hcl.out).drewN 1
      case measure => simp [intOf]; omega
    · obtain rfl : k = (natI L).length := by omega
      have hcv := hcl.out
      rw [natI_len, List.take_length] at hcv
      have hs := hcv.str (P := Tryz.prog) (ptL L n) (ptL_len L n) (fun i hi => by simp [ptL]) 22 5 9 cc rfl rfl rfl
      clear hcv
      go_wp2
      go_ret
      exact ⟨ret_str hch.out.symm, Below.chg HB.out hch2.out (Nat.le_refl _) HB.out.size⟩
theorem apply_any (a c : ByteArray) (w : World) (ha : isRow a) (hc : c.size ≤ 1048576) (ht : chgTxt c) :
    Calls Tryz.prog 132 #[.string a, .string c] w fun e w' => e = .returned (.string (timesS a (chgS a.size c))) ∧ Below w.heap.size w w' := by
  have h3 := ha.1
  have h8 := ha.2.1
  have hsz : Hid ((chgS a.size c).size = a.size) := Lib.hid (ptS_size _ _)
  have hbd : Hid (∀ i : Nat, i < (chgS a.size c).size → 49 ≤ bat (chgS a.size c) i ∧ bat (chgS a.size c) i < 49 + a.size) := Lib.hid (by
    have hr := ptS_row (swL_bd c a.size) (swL_sep c a.size) h3 h8
    intro i hi
    have := hr.2.2.1 i hi
    rw [ptS_size] at this; exact this)
  have hle : (chgS a.size c).size ≤ 1000000 := by have := hsz.out; omega
  have hcr := Lib.hid (fun W => changeRow_any a.size c W h3 h8 hc ht)
  clear ha ht
  go_enter Tryz.func132, Tryz.ntmps132
  go_wp2_with (first | (go_at_call 163; refine (hcr.out _).mono ?_; rintro e w1 ⟨rfl, hb1⟩) | (go_at_call 155; refine (times_any a (chgS a.size c) _ hle hbd.out).mono ?_; rintro e w2 ⟨rfl, hb2⟩))
  go_ret
  exact ⟨rfl, hb1.trans (hb2.mono hb1.size)⟩
set_option maxHeartbeats 800000 in
theorem movedTo_any (n : Nat) (c : ByteArray) (p : Nat) (w : World) (h3 : 3 ≤ n) (h8 : n ≤ 8) (hc : c.size ≤ 1048576) (ht : chgTxt c) (hp1 : 1 ≤ p) (hpn : p ≤ n) :
    Calls Tryz.prog 133 #[.int .i64 (n : Int), .string c, .int .i64 (p : Int)] w fun e w' => e = .returned (.int .i64 (mvP n c p : Nat)) ∧ Below w.heap.size w w' := by
  have hsw := Lib.hid (fun W => swapsOf_any n c W h3 h8 hc ht)
  have hsep := Lib.hid (swL_sep c n)
  have hbd := Lib.hid (swL_bd c n)
  have hnd : Hid ((swL c n).length ≤ n) := Lib.hid (nodupN_le (swL c n) n ((swL_sep c n).imp (fun h => by omega)) (fun x hx => (swL_bd c n x hx).2))
  have hmv : Hid (mvP n c p = pt (swL c n) p) := Lib.hid rfl
  generalize mvP n c p = R at *
  generalize swL c n = L at *
  clear ht
  go_enter Tryz.func133, Tryz.ntmps133
  go_wp2_with (go_at_call 164; refine (hsw.out _).mono ?_; rintro e w3 ⟨A, c3, rfl, ho3, hb3⟩; have HO3 := Lib.hid ho3; have HB3 := Lib.hid hb3; clear ho3 hb3)
  have hLl : (natI L).length ≤ 8 := by have := hnd.out; rw [natI_len]; omega
  go_loop [13] (fun i => ∃ k : Nat, k ≤ (natI L).length ∧ i = .int .i64 k ∧ Hid (∀ (j : Nat) (hj : j < L.length), j < k → p ≠ L[j] ∧ p ≠ L[j] + 1)) (fun i => (natI L).length - (intOf i).toNat)
  case atStart => exact ⟨0, by omega, by rfl, Lib.hid (fun j _ h => by omega)⟩
  case round =>
    obtain ⟨k, hk, rfl, hq⟩ := hrel
    by_cases hlt : k < (natI L).length
    · have hkL : k < L.length := by rw [natI_len] at hlt; exact hlt
      have hbp := hbd.out _ (List.getElem_mem hkL)
      obtain ⟨g, hA, _, _, _⟩ := HO3.out.some_of (by omega)
      have ho := HO3.out
      rw [hA] at ho
      have r0 := (ho.cellInt k hlt).1
      rw [natI_at hlt] at r0
      subst hA
      have Hm : Hid (L[k] ∈ L) := Lib.hid (List.getElem_mem hkL)
      obtain ⟨q, hqe⟩ : ∃ q, Hid (L[k] = q) := ⟨_, Lib.hid rfl⟩
      rw [hqe.out] at r0 Hm hbp
      obtain ⟨hq1, hq2⟩ := hbp
      clear ho
      by_cases c1 : p = q
      · subst c1
        have hR : Hid ((R : Int) = (p : Int) + 1) := Lib.hid (by rw [hmv.out]; unfold pt; rw [if_pos Hm.out]; simp)
        go_wp2
        go_ret
        exact ⟨ret_int hR.out.symm, HB3.out⟩
      · have d1 : ((p : Int) == (q : Int)) = false := beq_eq_false_iff_ne.2 (by omega)
        by_cases c2 : p = q + 1
        · have hR : Hid ((R : Int) = (q : Int)) := Lib.hid (by rw [hmv.out]; unfold pt; rw [if_neg (fun hm => sep_no hsep.out Hm.out (by rw [← c2]; exact hm)), if_pos ⟨hp1, by rw [c2]; simpa using Hm.out⟩]; omega)
          have d2 : ((p : Int) == (q : Int) + 1) = true := beq_iff_eq.2 (by omega)
          clear c1 c2
          go_wp2
          go_ret
          exact ⟨ret_int hR.out.symm, HB3.out⟩
        · have d2 : ((p : Int) == (q : Int) + 1) = false := beq_eq_false_iff_ne.2 (by omega)
          have C1 := Lib.hid c1
          have C2 := Lib.hid c2
          clear c1 c2
          go_wp2
          go_round
          case rel =>
            refine ⟨k + 1, by omega, by go_num, Lib.hid (fun j hj h1 => ?_)⟩
            rcases Nat.lt_or_eq_of_le (Nat.le_of_lt_succ h1) with h' | rfl
            · exact hq.out j hj h'
            · rw [hqe.out]; exact ⟨C1.out, C2.out⟩
          case measure => simp [intOf]; omega
    · obtain rfl : k = (natI L).length := by omega
      have hR : Hid ((R : Int) = (p : Int)) := Lib.hid (by
        rw [hmv.out]; unfold pt
        have h1 : ¬ p ∈ L := fun hm => by
          obtain ⟨j, hj, e⟩ := List.getElem_of_mem hm
          exact (hq.out j hj (by rw [natI_len]; exact hj)).1 e.symm
        have h2 : ¬ (1 ≤ p ∧ p - 1 ∈ L) := fun hm => by
          obtain ⟨j, hj, e⟩ := List.getElem_of_mem hm.2
          exact (hq.out j hj (by rw [natI_len]; exact hj)).2 (by omega)
        rw [if_neg h1, if_neg h2])
      go_wp2
      go_ret
      exact ⟨ret_int hR.out.symm, HB3.out⟩
end Go.Proofs.YtkegbbndmfnolaaGreatDoor

/-
  The change of a band's step: a called lead (the program), l24Change (the reference).
-/
namespace Go.Proofs.YtkegbbndmfnolaaGreatDoor
open Go.RowKit
set_option linter.unusedVariables false
set_option linter.unusedSimpArgs false
set_option maxRecDepth 100000

/-- A lead's changes with a call. -/
def calledX (x : List ByteArray) (b s call : ByteArray) : List ByteArray := if call.toList = [98] then x.set (x.length - 1) b else if call.toList = [115] then x.set (x.length - 1) s else x
theorem calledX_len (x : List ByteArray) (b s call : ByteArray) : (calledX x b s call).length = x.length := by unfold calledX; split; (· simp); split <;> simp
theorem calledX_at (b : Bnd) {k : Nat} (hk : b.step = (k : Int)) (hlt : k < b.m.x.length) : (calledX b.m.x b.bob b.sing b.call).getD k ByteArray.empty = heardChg b := by
  have hd : b.m.x.getD k ByteArray.empty = ownChg b := by unfold ownChg; rw [hk]; rfl
  have hset : ∀ v : ByteArray, (b.m.x.set (b.m.x.length - 1) v).getD k ByteArray.empty = if b.step = (b.m.x.length : Int) - 1 then v else ownChg b := fun v => by
    by_cases e : k = b.m.x.length - 1
    · rw [if_pos (by omega), List.getD_eq_getElem?_getD, e, List.getElem?_set_self (by omega)]; rfl
    · rw [if_neg (by omega), List.getD_eq_getElem?_getD, List.getElem?_set_ne (by omega), ← List.getD_eq_getElem?_getD, hd]
  unfold calledX heardChg
  split
  · rw [hset]
  · split
    · rw [hset]
    · rw [hd]; split <;> rfl
section
variable {w : World} {b c g : Nat} {l : List ByteArray}
theorem OwnL.someStr {A : Option Addr} (h : OwnL w b c A 1 encString l) (hl : 0 < l.length) : ∃ g, A = some ⟨g, 0, none⟩ ∧ b ≤ g ∧ g < c ∧ g < w.heap.size := by
  obtain ⟨g, f, hA, h1, h2, h3⟩ := h.cells hl
  exact ⟨g, hA, h1, h2, h3.lt⟩
theorem OwnL.cellStr (h : OwnL w b c (some ⟨g, 0, none⟩) 1 encString l) (k : Nat) (hk : k < l.length) : w.cell? ⟨g, k, none⟩ = some (.string l[k]) ∧ w.frozen? ⟨g, k, none⟩ = false := by
  rcases h with h | ⟨g', f, hA, h1, h2, h3, h4⟩
  · subst h; simp at hk
  · simp only [Option.some.injEq, Addr.mk.injEq, and_true] at hA
    subst hA
    have := h4 k hk 0 _ rfl
    have hc := h3.cell (i := k) (by omega)
    rw [Nat.mul_one, Nat.add_zero] at this
    rw [this] at hc
    exact ⟨hc, h3.free (by omega)⟩
theorem OwnL.setStr (h : OwnL w b c (some ⟨g, 0, none⟩) 1 encString l) (k : Nat) (hk : k < l.length) (v : ByteArray) : OwnL (w.setCell ⟨g, k, none⟩ (.string v)) b c (some ⟨g, 0, none⟩) 1 encString (l.set k v) := by
  rcases h with h | ⟨g', f, hA, h1, h2, h3, h4⟩
  · subst h; simp at hk
  · simp only [Option.some.injEq, Addr.mk.injEq, and_true] at hA
    subst hA
    refine .inr ⟨g, _, rfl, h1, h2, by rw [List.length_set]; exact h3.set (i := k) (by omega) _, fun i hi j u hu => ?_⟩
    have hj : j = 0 := by have := (List.getElem?_eq_some_iff.1 hu).1; simp [encString] at this; exact this
    subst hj
    by_cases e : i = k
    · subst e
      rw [List.getElem_set_self] at hu
      rw [Nat.mul_one, Nat.add_zero, upd_same]
      simpa [encString] using hu
    · rw [List.getElem_set_ne (by omega)] at hu
      rw [Nat.mul_one, Nat.add_zero, upd_other _ _ _ _ (by omega)]
      have := h4 i (by simpa using hi) 0 u hu
      rw [Nat.mul_one, Nat.add_zero] at this
      exact this
end
/-- A method whose changes lie in memory of the call's own is handed back. -/
def MdOut (nm : ByteArray) (st : Int) (x : List ByteArray) (w : World) (e : Ending) (w' : World) : Prop :=
  ∃ A1 c1, e = .returned (.agg #[.string nm, .int .i64 st, .slice A1 x.length c1]) ∧ OwnL w' w.heap.size w'.heap.size A1 1 encString x ∧ Below w.heap.size w w'
set_option maxHeartbeats 1600000 in
theorem l24Change_any (b : Bnd) (heard : Bool) (w : World) (h : RdL w w.heap.size b.m.A 1 encString b.m.x) (hl : b.m.x.length ≤ 1048576) (hst : inB b.step 0 ((b.m.x.length : Int) - 1)) :
    Calls Tryz.prog 135 #[.agg #[.string b.m.name, .int .i64 b.m.stage, .slice b.m.A b.m.x.length b.m.c, .string b.bob, .string b.sing, .int .i64 b.step, .string b.call, .string b.tru, .slice b.RA b.rx.length b.rc], .bool heard] w fun e w' => e = .returned (.string (if heard then heardChg b else ownChg b)) ∧ Below w.heap.size w w' := by
  obtain ⟨k, hk⟩ : ∃ k : Nat, b.step = (k : Int) := ⟨b.step.toNat, by have := hst.1; omega⟩
  have hlt : k < b.m.x.length := by have := hst.2; omega
  have hheard : Hid (heardChg b = if (k : Int) = (b.m.x.length : Int) - 1 then (if b.call.toList = [98] then b.bob else if b.call.toList = [115] then b.sing else ownChg b) else ownChg b) := Lib.hid (by unfold heardChg; rw [hk])
  have hown : Hid (ownChg b = b.m.x[k]) := Lib.hid (by unfold ownChg; rw [hk]; show b.m.x.getD k _ = _; rw [List.getD_eq_getElem?_getD, List.getElem?_eq_getElem hlt]; rfl)
  generalize heardChg b = HC at *
  generalize ownChg b = OC at *
  obtain ⟨⟨nm, st, x, A, c⟩, bob, sing, step, call, tru, rx, RA, rc⟩ := b
  simp only at h hl hk hlt hheard hown ⊢
  subst hk
  obtain ⟨g, off, hA, hg, hcell⟩ := h.at hlt
  subst hA
  have c0 := hcell 0 _ rfl
  rw [Nat.mul_one, Nat.add_zero] at c0
  have c1 := (((Below.refl w.heap.size w).alloc (Nat.le_refl _) (.cells #[.string nm, .int .i64 st, .slice (some ⟨g, off, none⟩) x.length c, .string bob, .string sing, .int .i64 k, .string call, .string tru, .slice RA rx.length rc] 36)).cell (p := ⟨g, off + k, none⟩) hg).trans c0
  rw [← hown.out] at c1
  have hB : Hid (Below w.heap.size w (w.alloc (.cells #[.string nm, .int .i64 st, .slice (some ⟨g, off, none⟩) x.length c, .string bob, .string sing, .int .i64 k, .string call, .string tru, .slice RA rx.length rc] 36))) := Lib.hid ((Below.refl _ _).alloc (Nat.le_refl _) _)
  clear hcell c0 h hst
  by_cases e1 : (k : Int) = (x.length : Int) - 1
  · have d1 : ((k : Int) == (x.length : Int) - 1) = true := beq_iff_eq.2 e1
    have E1 := Lib.hid e1
    clear e1
    cases heard with
    | true =>
      by_cases e2 : call.toList = [98]
      · have d2 : (call.toList == [98]) = true := beq_iff_eq.2 e2
        have E2 := Lib.hid e2
        clear e2
        go_enter Tryz.func135, Tryz.ntmps135
        go_wp2
        go_ret
        exact ⟨ret_str (by rw [hheard.out, if_pos E1.out, if_pos E2.out]), hB.out⟩
      · have d2 : (call.toList == [98]) = false := beq_eq_false_iff_ne.2 e2
        have E2 := Lib.hid e2
        clear e2
        by_cases e3 : call.toList = [115]
        · have d3 : (call.toList == [115]) = true := beq_iff_eq.2 e3
          have E3 := Lib.hid e3
          clear e3
          go_enter Tryz.func135, Tryz.ntmps135
          go_wp2
          go_ret
          exact ⟨ret_str (by rw [hheard.out, if_pos E1.out, if_neg E2.out, if_pos E3.out]), hB.out⟩
        · have d3 : (call.toList == [115]) = false := beq_eq_false_iff_ne.2 e3
          have E3 := Lib.hid e3
          clear e3
          go_enter Tryz.func135, Tryz.ntmps135
          go_wp2
          go_ret
          exact ⟨ret_str (by rw [hheard.out, if_pos E1.out, if_neg E2.out, if_neg E3.out]), hB.out⟩
    | false =>
      go_enter Tryz.func135, Tryz.ntmps135
      go_wp2
      go_ret
      exact ⟨rfl, hB.out⟩
  · have d1 : ((k : Int) == (x.length : Int) - 1) = false := beq_eq_false_iff_ne.2 e1
    have E1 := Lib.hid e1
    clear e1
    cases heard with
    | true =>
      go_enter Tryz.func135, Tryz.ntmps135
      go_wp2
      go_ret
      exact ⟨ret_str (by rw [hheard.out, if_neg E1.out]), hB.out⟩
    | false =>
      go_enter Tryz.func135, Tryz.ntmps135
      go_wp2
      go_ret
      exact ⟨rfl, hB.out⟩




set_option maxHeartbeats 1600000 in
theorem calledLead_any (m : Mth) (b s call : ByteArray) (w : World) (h : RdL w w.heap.size m.A 1 encString m.x) (hl : m.x.length ≤ 1048576) (h0 : 0 < m.x.length) :
    Calls Tryz.prog 131 #[.agg #[.string m.name, .int .i64 m.stage, .slice m.A m.x.length m.c], .agg #[.string b, .string s], .string call] w fun e w' => MdOut m.name m.stage (calledX m.x b s call) w e w' := by
  have hW : ∃ W : World, Hid ((((w.alloc (.cells #[.string m.name, .int .i64 m.stage, .slice m.A m.x.length m.c] 26)).alloc (.cells #[.string b, .string s] 28)).alloc (.cells #[Value.string ⟨#[]⟩, .int .i64 0, .slice none 0 0] 26)) = W) ∧ Hid (W.heap.size = w.heap.size + 3) ∧ Hid (Below w.heap.size w W) ∧ Hid (Cells W w.heap.size 3 (fun i => ((#[Value.string m.name, .int .i64 m.stage, .slice m.A m.x.length m.c] : Array Value)).getD i undef)) ∧ Hid (Cells W (w.heap.size + 1) 2 (fun i => (#[Value.string b, .string s] : Array Value).getD i undef)) ∧ Hid (Cells W (w.heap.size + 1 + 1) 3 (fun i => (#[Value.string ⟨#[]⟩, .int .i64 0, .slice none 0 0] : Array Value).getD i undef)) := by
    have z1 : w.heap.size + 1 = (w.alloc (.cells #[.string m.name, .int .i64 m.stage, .slice m.A m.x.length m.c] 26)).heap.size := by simp
    have z2 : w.heap.size + 1 + 1 = ((w.alloc (.cells #[.string m.name, .int .i64 m.stage, .slice m.A m.x.length m.c] 26)).alloc (.cells #[.string b, .string s] 28)).heap.size := by simp
    refine ⟨_, Lib.hid rfl, Lib.hid (by simp), Lib.hid ((((Below.refl _ _).alloc (Nat.le_refl _) _).alloc (by simp) _).alloc (by simp; omega) _), Lib.hid ?_, Lib.hid ?_, Lib.hid ?_⟩
    · exact ((Cells.newD _ #[.string m.name, .int .i64 m.stage, .slice m.A m.x.length m.c] _).alloc _).alloc _
    · rw [z1]; exact (Cells.newD _ #[.string b, .string s] _).alloc _
    · rw [z2]; exact Cells.newD _ #[Value.string ⟨#[]⟩, .int .i64 0, .slice none 0 0] _
  obtain ⟨W, hWe, hWs, hWb, hM, hK, hZ⟩ := hW
  have hWs1 : w.heap.size + 3 ≤ W.heap.size := by have := hWs.out; omega
  have H := Lib.hid (show RdL W W.heap.size m.A 1 encString m.x from (h.below hWb.out (Nat.le_refl _)).more hWb.out.size)
  clear h
  have u0 : W.cell? ⟨w.heap.size, 0, none⟩ = some (.string m.name) := hM.out.cell (i := 0) (by omega)
  have u1 : W.cell? ⟨w.heap.size, 1, none⟩ = some (.int .i64 m.stage) := hM.out.cell (i := 1) (by omega)
  have u2 : W.cell? ⟨w.heap.size, 2, none⟩ = some (.slice m.A m.x.length m.c) := hM.out.cell (i := 2) (by omega)
  have f0 := Later.cell u0 (show w.heap.size < W.heap.size by omega)
  have f1 := Later.cell u1 (show w.heap.size < W.heap.size by omega)
  have f2 := Later.cell u2 (show w.heap.size < W.heap.size by omega)
  go_enter Tryz.func131, Tryz.ntmps131
  go_wp2_with fail
  rw [hWe.out]
  clear hWe
  refine wp_region_G (by kernel_rfl) [.q, .s (fun _ => gNil), .q, .q, .s (fun _ u lo hi w' => ∃ A c, u = .slice A m.x.length c ∧ OwnL w' lo hi A 1 encString m.x), .s (fun g u lo hi w' => u = .agg #[.string m.name, .int .i64 m.stage, g.getD 1 undef]), .s (fun _ => gBox 3), .t] [0, 1, 0, 0, 1, 1, 1, 2] rfl 3 (by kernel_rfl) (inC W) (W).heap.size (inC.size W) (inC.of (Below.refl _ _).drew) ?_
  (refine wpG_quiets 1 _ _ _ _ (by first | exact cls_none rfl | exact fun w h => h.1) (by intro j hj; rcases j with _ | _ | _ | _ | _ | _ | _ | _ | _ | _ | j <;> first | exact ⟨rfl, ⟨_, rfl, rfl⟩, rfl⟩ | (exfalso; omega)) ?_; simp only [List.take_succ_cons, List.take_zero, List.drop_succ_cons, List.drop_zero, Nat.zero_add, Nat.reduceAdd]; change wpQuiet _ _ (fun wq9 => ∃ x : Later W, wq9 = x.W) _ _ _; (repeat (go_big_quiet_step (fail))); refine wpQuiet_nil ?_; try dsimp only)
  refine wpG_nil 9 rfl rfl rfl rfl (by intro w; go_simp) ?_
  (intro un lon hin hsat; obtain ⟨w1, hw1⟩ := hsat; have hr : un = .slice (some ⟨lon, 0, none⟩) 0 0 := (hw1.rec rfl 1).2.2; obtain rfl := hr; clear hw1; simp only [Act.put, List.setIfInBounds_toArray, List.set_cons_zero, List.set_cons_succ, Nat.reduceAdd])
  (refine wpG_quiets 2 _ _ _ _ (by first | exact cls_none rfl | exact fun w h => h.1) (by intro j hj; rcases j with _ | _ | _ | _ | _ | _ | _ | _ | _ | _ | j <;> first | exact ⟨rfl, ⟨_, rfl, rfl⟩, rfl⟩ | (exfalso; omega)) ?_; simp only [List.take_succ_cons, List.take_zero, List.drop_succ_cons, List.drop_zero, Nat.zero_add, Nat.reduceAdd]; change wpQuiet _ _ (fun wq9 => ∃ x : Later W, wq9 = x.W) _ _ _; (repeat (go_big_quiet_step (fail))); refine wpQuiet_nil ?_; try dsimp only)
  refine wpG_appendNew (enc := encString) (.tmp 10) (.tmp 12) 24 rfl 9 _ 1 16 rfl String_info rfl (by omega) ⟨lon, 0, none⟩ rfl m.x m.A m.c rfl (fun w1 hw1 => ((H.out.below hw1.below (Nat.le_refl _)).more hw1.below.size)) h0 encString_len (by omega) (by omega) rfl rfl rfl rfl ?_
  (intro u lo hi hsat; obtain ⟨w1, hw1⟩ := hsat; have hr : ∃ A c, u = .slice A m.x.length c ∧ OwnL w1 lo hi A 1 encString m.x := (hw1.rec rfl 4).2.2; obtain ⟨A1, c1, rfl, _⟩ := hr; clear hw1; simp only [Act.put, List.setIfInBounds_toArray, List.set_cons_zero, List.set_cons_succ, Nat.reduceAdd])
  (refine wpG_call _ rfl rfl rfl rfl (fun u lo hi => loc_pure _) 111 #[.agg #[.string m.name, .int .i64 m.stage, .slice m.A m.x.length m.c], .slice A1 m.x.length c1] (by intro w; go_simp) (by intro w1 hw1 hd; (refine (withChanges_any m A1 m.x.length c1 _).mono ?_; rintro e w2 ⟨rfl, hb⟩; exact ⟨_, rfl, hw1.step hb, eff_of_below hb, rfl⟩)) ?_)
  (intro u4 lo4 hi4 hsat; obtain ⟨w1, hw1⟩ := hsat; have hr : u4 = .agg #[.string m.name, .int .i64 m.stage, .slice A1 m.x.length c1] := (hw1.rec rfl 5).2.2; obtain rfl := hr; clear hw1; simp only [Act.put, List.setIfInBounds_toArray, List.set_cons_zero, List.set_cons_succ, Nat.reduceAdd])
  (refine wpG_box 3 #[Value.string ⟨#[]⟩, .int .i64 0, .slice none 0 0] 26 rfl rfl rfl rfl rfl (by intro w; go_simp) ?_; intro u7 lo7 hi7 hsat; obtain ⟨w1, hw1⟩ := hsat; have hr : gBox 3 u7 lo7 hi7 w1 := (hw1.rec rfl 6).2.2; obtain ⟨rfl, rfl, _⟩ := hr; clear hw1; simp only [Act.put, List.setIfInBounds_toArray, List.set_cons_zero, List.set_cons_succ, Nat.reduceAdd])
  (refine wpG_t (fun w' => setN w' lo7 0 [.string m.name, .int .i64 m.stage, .slice A1 m.x.length c1]) rfl rfl rfl rfl (by intro w1 hw1; have hr : gBox 3 (.pointer (some ⟨lo7, 0, none⟩)) lo7 (lo7 + 1) w1 := (hw1.rec rfl 6).2.2; have hlo : W.heap.size ≤ lo7 := (hw1.rng rfl 6 rfl).1; obtain ⟨_, _, f, hcf⟩ := hr; have p0 := hcf.cell (i := 0) (by omega); have q0 := hcf.free (i := 0) (by omega); have p1 := hcf.cell (i := 1) (by omega); have q1 := hcf.free (i := 1) (by omega); have p2 := hcf.cell (i := 2) (by omega); have q2 := hcf.free (i := 2) (by omega); have hC1 := (hw1.cls rfl).below; clear hw1; refine ⟨?_, inC.of (Below.setN hlo _ hC1)⟩; simp only [setN]; go_simp; try rfl) ?_)
  intro w' hh
  obtain ⟨_, wz, hz, rfl⟩ := hh
  obtain ⟨Az, cz, hez, hO⟩ : ∃ A c, Value.slice A1 m.x.length c1 = .slice A m.x.length c ∧ OwnL wz lo hi A 1 encString m.x := (hz.rec rfl 4).2.2
  obtain ⟨rfl, rfl⟩ : A1 = Az ∧ c1 = cz := by simpa using hez
  obtain ⟨hlo, _, hhi⟩ : W.heap.size ≤ lo ∧ lo ≤ hi ∧ hi ≤ wz.heap.size := hz.rng rfl 4 rfl
  obtain ⟨hx1, _, hx3⟩ : W.heap.size ≤ lo7 ∧ lo7 ≤ lo7 + 1 ∧ lo7 + 1 ≤ wz.heap.size := hz.rng rfl 6 rfl
  have hap : hi ≤ lo7 ∨ lo7 + 1 ≤ lo := hz.apart rfl 4 6 (by omega)
  obtain ⟨_, _, f, hcf⟩ : gBox 3 (.pointer (some ⟨lo7, 0, none⟩)) lo7 (lo7 + 1) wz := (hz.rec rfl 6).2.2
  have hbz := (hz.cls rfl).below
  have hcv := Lib.hid (hcf.boxed [.string m.name, .int .i64 m.stage, .slice A1 m.x.length c1] rfl)
  have hck : Chg lo7 (lo7 + 1) wz (setN wz lo7 0 [.string m.name, .int .i64 m.stage, .slice A1 m.x.length c1]) := Chg.setN (Nat.le_refl _) (Nat.lt_succ_self _) _ (Chg.refl _ _ _)
  have hsz9 := setN_size lo7 [.string m.name, .int .i64 m.stage, .slice A1 m.x.length c1] wz 0
  have hbV : Hid (Below W.heap.size W (setN wz lo7 0 [.string m.name, .int .i64 m.stage, .slice A1 m.x.length c1])) := Lib.hid (Below.setN hx1 _ hbz)
  have hOV := Lib.hid (hO.chg hck (by omega))
  rw [← hsz9] at hhi hx3
  clear hsz9 hck hcf hO hz hbz hez f0 f1 f2 u0 u1 u2
  generalize setN wz lo7 0 [.string m.name, .int .i64 m.stage, .slice A1 m.x.length c1] = V at *
  obtain ⟨g, hA1, hg1, hg2, _⟩ := hOV.out.someStr h0
  subst hA1
  have k0 : V.cell? ⟨w.heap.size + 1, 0, none⟩ = some (.string b) := (hbV.out.cell (p := ⟨w.heap.size + 1, 0, none⟩) (show w.heap.size + 1 < W.heap.size by omega)).trans (hK.out.cell (i := 0) (by omega))
  have k1 : V.cell? ⟨w.heap.size + 1, 1, none⟩ = some (.string s) := (hbV.out.cell (p := ⟨w.heap.size + 1, 1, none⟩) (show w.heap.size + 1 < W.heap.size by omega)).trans (hK.out.cell (i := 1) (by omega))
  have v0 : V.cell? ⟨lo7, 0, none⟩ = some (.string m.name) := hcv.out.cell (i := 0) (by omega)
  have v1 : V.cell? ⟨lo7, 1, none⟩ = some (.int .i64 m.stage) := hcv.out.cell (i := 1) (by omega)
  have v2 : V.cell? ⟨lo7, 2, none⟩ = some (.slice (some ⟨g, 0, none⟩) m.x.length c1) := hcv.out.cell (i := 2) (by omega)
  have hZV := hZ.out.later (hbV.out.mono (by omega) |> fun h => h) |> fun h => h
  have z0 := hZV.cell (i := 0) (by omega)
  have z1 := hZV.cell (i := 1) (by omega)
  have z2 := hZV.cell (i := 2) (by omega)
  have y0 := hZV.free (i := 0) (by omega)
  have y1 := hZV.free (i := 1) (by omega)
  have y2 := hZV.free (i := 2) (by omega)
  obtain ⟨t0, t1⟩ := hOV.out.cellStr (m.x.length - 1) (by omega)
  have hlast : ((m.x.length : Int) - 1).toNat = m.x.length - 1 := by omega
  clear hZV
  by_cases e2 : call.toList = [98]
  · have d2 : (call.toList == [98]) = true := beq_iff_eq.2 e2
    have hcx : Hid (calledX m.x b s call = m.x.set (m.x.length - 1) b) := Lib.hid (by unfold calledX; rw [if_pos e2])
    clear e2
    go_wp2
    refine bodyPost_ret (v := .agg #[.string m.name, .int .i64 m.stage, .slice (some ⟨g, 0, none⟩) m.x.length c1]) (by simp [results, Tryz.results131, go_sem, z0, z1, z2, y0, y1, y2]) rfl ?_
    have k1 : Chg w.heap.size hi V (V.setCell ⟨g, m.x.length - 1, none⟩ (.string b)) := (Chg.refl _ _ V).setCell (p := ⟨g, m.x.length - 1, none⟩) (show w.heap.size ≤ g by omega) hg2 _
    have ho := hOV.out.setStr (m.x.length - 1) (by omega) b
    have k2 : Chg (w.heap.size + 1 + 1) (w.heap.size + 1 + 1 + 1) (V.setCell ⟨g, m.x.length - 1, none⟩ (.string b)) (setN (V.setCell ⟨g, m.x.length - 1, none⟩ (.string b)) (w.heap.size + 1 + 1) 0 [.string m.name, .int .i64 m.stage, .slice (some ⟨g, 0, none⟩) m.x.length c1]) := Chg.setN (Nat.le_refl _) (Nat.lt_succ_self _) _ (Chg.refl _ _ _)
    have hO2 := (ho.chg k2 (.inr (by omega))).mono (show w.heap.size ≤ lo by omega) (Nat.le_trans hhi (Nat.le_trans k1.size k2.size))
    have hBB := Below.chg (Below.chg (hWb.out.trans (hbV.out.mono hWb.out.size)) k1 (Nat.le_refl _) (by have := hbV.out.size; omega)) k2 (by omega) (by have := hbV.out.size; have := k1.size; omega)
    exact ⟨some ⟨g, 0, none⟩, c1, by rw [calledX_len], by rw [hcx.out]; exact hO2, hBB⟩
  · have d2 : (call.toList == [98]) = false := beq_eq_false_iff_ne.2 e2
    by_cases e3 : call.toList = [115]
    · have d3 : (call.toList == [115]) = true := beq_iff_eq.2 e3
      have hcx : Hid (calledX m.x b s call = m.x.set (m.x.length - 1) s) := Lib.hid (by unfold calledX; rw [if_neg e2, if_pos e3])
      clear e2 e3
      go_wp2
      refine bodyPost_ret (v := .agg #[.string m.name, .int .i64 m.stage, .slice (some ⟨g, 0, none⟩) m.x.length c1]) (by simp [results, Tryz.results131, go_sem, z0, z1, z2, y0, y1, y2]) rfl ?_
      have k1 : Chg w.heap.size hi V (V.setCell ⟨g, m.x.length - 1, none⟩ (.string s)) := (Chg.refl _ _ V).setCell (p := ⟨g, m.x.length - 1, none⟩) (show w.heap.size ≤ g by omega) hg2 _
      have ho := hOV.out.setStr (m.x.length - 1) (by omega) s
      have k2 : Chg (w.heap.size + 1 + 1) (w.heap.size + 1 + 1 + 1) (V.setCell ⟨g, m.x.length - 1, none⟩ (.string s)) (setN (V.setCell ⟨g, m.x.length - 1, none⟩ (.string s)) (w.heap.size + 1 + 1) 0 [.string m.name, .int .i64 m.stage, .slice (some ⟨g, 0, none⟩) m.x.length c1]) := Chg.setN (Nat.le_refl _) (Nat.lt_succ_self _) _ (Chg.refl _ _ _)
      have hO2 := (ho.chg k2 (.inr (by omega))).mono (show w.heap.size ≤ lo by omega) (Nat.le_trans hhi (Nat.le_trans k1.size k2.size))
      have hBB := Below.chg (Below.chg (hWb.out.trans (hbV.out.mono hWb.out.size)) k1 (Nat.le_refl _) (by have := hbV.out.size; omega)) k2 (by omega) (by have := hbV.out.size; have := k1.size; omega)
      exact ⟨some ⟨g, 0, none⟩, c1, by rw [calledX_len], by rw [hcx.out]; exact hO2, hBB⟩
    · have d3 : (call.toList == [115]) = false := beq_eq_false_iff_ne.2 e3
      have hcx : Hid (calledX m.x b s call = m.x) := Lib.hid (by unfold calledX; rw [if_neg e2, if_neg e3])
      clear e2 e3
      go_wp2
      refine bodyPost_ret (v := .agg #[.string m.name, .int .i64 m.stage, .slice (some ⟨g, 0, none⟩) m.x.length c1]) (by simp [results, Tryz.results131, go_sem, z0, z1, z2, y0, y1, y2]) rfl ?_
      have k1 : Chg w.heap.size hi V V := Chg.refl _ _ V
      have ho := hOV.out
      have k2 : Chg (w.heap.size + 1 + 1) (w.heap.size + 1 + 1 + 1) V (setN V (w.heap.size + 1 + 1) 0 [.string m.name, .int .i64 m.stage, .slice (some ⟨g, 0, none⟩) m.x.length c1]) := Chg.setN (Nat.le_refl _) (Nat.lt_succ_self _) _ (Chg.refl _ _ _)
      have hO2 := (ho.chg k2 (.inr (by omega))).mono (show w.heap.size ≤ lo by omega) (Nat.le_trans hhi (Nat.le_trans k1.size k2.size))
      have hBB := Below.chg (Below.chg (hWb.out.trans (hbV.out.mono hWb.out.size)) k1 (Nat.le_refl _) (by have := hbV.out.size; omega)) k2 (by omega) (by have := hbV.out.size; have := k1.size; omega)
      exact ⟨some ⟨g, 0, none⟩, c1, by rw [calledX_len], by rw [hcx.out]; exact hO2, hBB⟩
end Go.Proofs.YtkegbbndmfnolaaGreatDoor
