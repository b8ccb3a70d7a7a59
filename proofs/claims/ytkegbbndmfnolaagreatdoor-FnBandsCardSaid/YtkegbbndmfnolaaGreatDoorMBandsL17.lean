import Derived.Test.YtkegbbndmfnolaaGreatDoorMBandsL16
import Derived.Test.YtkegbbndmfnolaaGreatDoorMBandsL01
import Derived.Test.YtkegbbndmfnolaaGreatDoorCards
import Derived.Test.YtkegbbndmfnolaaGreatDoorTie
import Derived.ProofKit
import Derived.LaidMore
import Derived.OpenShut
import Derived.Stop.Joined
import Derived.Stop.LaidErr
import Derived.MakeChecks
import Derived.SevenTiedAt
import Derived.Test.YtkegbbndmfnolaaGreatDoorMBandsL05
import Derived.Test.YtkegbbndmfnolaaGreatDoorMBandsL02
import Derived.Test.YtkegbbndmfnolaaGreatDoorMBandsL13
/-
 What a tied card wants beyond a plain row: the library's table of powers out of the row's condition.
-/
namespace Go.Proofs.YtkegbbndmfnolaaGreatDoor
open Go.RowKit
set_option linter.unusedVariables false
set_option linter.unusedSimpArgs false
set_option maxRecDepth 100000

theorem tab_data : (Rows.laid_internal_strconv_uint64pow10 : DataW Unit) = Lib.tabData .u64 Lib.pow10Tab := by kernel_rfl
theorem tab_of {x y : String × DataW Unit} {r : List (String × DataW Unit)} {W : World} (h : laidMet Tryz.prog (x :: y :: ("internal/strconv.uint64pow10", Rows.laid_internal_strconv_uint64pow10) :: r) W) : Tab W := by
 have h1 := h.tail.tail
 rw [tab_data] at h1
 exact Lib.tabIs_of_head (g := 1) (t := 184) (e := 82) (n := 20) (by kernel_rfl) (by kernel_rfl) (by rfl) (by rfl) (by kernel_rfl) (by kernel_rfl) h1
end Go.Proofs.YtkegbbndmfnolaaGreatDoor

/-
 The row of a band: contracts of both sides.
-/
namespace Go.Proofs.YtkegbbndmfnolaaGreatDoor
open Go.RowKit
set_option linter.unusedVariables false
set_option linter.unusedSimpArgs false
set_option maxRecDepth 100000

/-- Behind s the bells, up to the first k, whose ringers stand at p. -/
def rbI (l : List Rgr) (p : Int) (s : ByteArray) : Nat → ByteArray
 | 0 => s
 | k + 1 => match l[k]? with
  | some r => if r.place = p then rbI l p s k ++ numS (k + 1) else rbI l p s k
  | none => rbI l p s k
theorem rbI_y {l : List Rgr} {p : Int} {s : ByteArray} {k : Nat} (hk : k < l.length) (h : l[k].place = p) : rbI l p s (k + 1) = rbI l p s k ++ numS (k + 1) := by
 simp only [rbI, List.getElem?_eq_getElem hk]; rw [if_pos h]
theorem rbI_n {l : List Rgr} {p : Int} {s : ByteArray} {k : Nat} (hk : k < l.length) (h : ¬ l[k].place = p) : rbI l p s (k + 1) = rbI l p s k := by
 simp only [rbI, List.getElem?_eq_getElem hk]; rw [if_neg h]
/-- The bells by places. -/
def rbO (l : List Rgr) : Nat → ByteArray
 | 0 => ⟨#[]⟩
 | p + 1 => rbI l ((p : Int) + 1) (rbO l p) l.length



set_option maxHeartbeats 3200000 in
theorem l24Row_anyR (b : Bnd) (w : World) (hri : RdL w w.heap.size b.RA 2 Rgr.enc b.rx) (hp : bandP b) (htab : Tab w) :
  Calls Tryz.prog 104 #[.agg #[.string b.m.name, .int .i64 b.m.stage, .slice b.m.A b.m.x.length b.m.c, .string b.bob, .string b.sing, .int .i64 b.step, .string b.call, .string b.tru, .slice b.RA b.rx.length b.rc]] w fun e w' => e = .returned (.string (rbO b.rx b.rx.length)) ∧ Below w.heap.size w w' := by
 have hst : (b.rx.length : Int) = b.m.stage := hp.2.2.2.2.1
 have h3 : 0 < b.rx.length := by have := hp.2.2.2.2.1; have := hp.2.2.2.1.1; have := hp.2.2.2.1.2.1; omega
 have hrl : b.rx.length ≤ 8 := by have := hp.2.2.2.2.1; have := hp.2.2.2.1.1; have := hp.2.2.2.1.2.2.1; have := hp.2.2.2.1.2; have h8 := hp.2.2.2.1.2.2; have h9 := hp.2.2.2.1.2.1; omega
 have Hr := Lib.hid hri
 have HT := Lib.hid htab
 obtain ⟨g, off, hA, hg, _⟩ := Hr.out.at h3
 have HA := Lib.hid hA
 clear hri hp htab hA
 obtain ⟨W0, hW0, hb0, a1, a8, hs0⟩ : ∃ W0 : World, Hid ((w.alloc (.cells #[.string b.m.name, .int .i64 b.m.stage, .slice b.m.A b.m.x.length b.m.c, .string b.bob, .string b.sing, .int .i64 b.step, .string b.call, .string b.tru, .slice b.RA b.rx.length b.rc] 36)) = W0) ∧ Hid (Below w.heap.size w W0) ∧ Hid (W0.cell? ⟨w.heap.size, 1, none⟩ = some (.int .i64 b.m.stage)) ∧ Hid (W0.cell? ⟨w.heap.size, 8, none⟩ = some (.slice b.RA b.rx.length b.rc)) ∧ w.heap.size < W0.heap.size :=
  ⟨_, Lib.hid rfl, Lib.hid ((Below.refl _ _).alloc (Nat.le_refl _) _), Lib.hid (by simp [go_sem]), Lib.hid (by simp [go_sem]), by simp⟩
 have Hst := Lib.hid hst
 clear hst
 go_enter Tryz.func104, Tryz.ntmps104
 go_upto_region 3 with fail
 rw [hW0.out, HA.out]
 rw [← Hst.out] at a1
 rw [HA.out] at a8
 have hA := HA.out
 clear hW0
 obtain ⟨n, hn⟩ : ∃ n, Hid (b.rx.length = n) := ⟨_, Lib.hid rfl⟩
 obtain ⟨RX, hRX⟩ : ∃ RX, Hid (b.rx = RX) := ⟨_, Lib.hid rfl⟩
 rw [hRX.out] at Hr hn ⊢
 rw [hRX.out] at a8 a1 h3 hrl
 rw [hn.out] at a8 a1 h3 hrl ⊢
 go_loopw [3, 4] (fun v i wr => ∃ (p : Nat) (S : ByteArray), p ≤ n ∧ i = .int .i64 ((p : Int) + 1) ∧ v = .string S ∧ Hid (S = rbO RX p) ∧ S.size ≤ 80 * p ∧ Below W0.heap.size W0 wr) (fun _ i _ => n + 1 - (intOf i).toNat)
 case atStart => exact ⟨0, _, by omega, by rfl, rfl, Lib.hid rfl, by decide, Below.refl _ _⟩
 case round =>
  obtain ⟨p, S, hp, rfl, rfl, hS, hsz, hbl⟩ := hrel
  have Hbl := Lib.hid hbl
  have hz0 := hbl.size
  have s1 := (Hbl.out.cell (p := ⟨w.heap.size, 1, none⟩) hs0).trans a1.out
  have s8 := (Hbl.out.cell (p := ⟨w.heap.size, 8, none⟩) hs0).trans a8.out
  clear hbl
  have w1 : IntKind.i64.wrap ((p : Int) + 1) = (p : Int) + 1 := IntWalk.i64_in _ (by omega)
  by_cases hlt : p < n
  ·have d1 : decide ((p : Int) + 1 ≤ (n : Int)) = true := by simp; omega
   go_upto_region 6 with fail
   clear s1 s8
   obtain ⟨wo, rfl⟩ : ∃ wo, wo = wr := ⟨wr, rfl⟩
   go_loopw [3, 17] (fun v i wr => ∃ (k : Nat) (T : ByteArray), k ≤ n ∧ i = .int .i64 (k : Int) ∧ v = .string T ∧ Hid (T = rbI RX ((p : Int) + 1) S k) ∧ T.size ≤ 80 * p + 10 * k ∧ Below W0.heap.size W0 wr) (fun _ i _ => n - (intOf i).toNat)
   case atStart => exact ⟨0, S, by omega, by rfl, rfl, Lib.hid rfl, by omega, Hbl.out⟩
   case round =>
    obtain ⟨k, T, hk, rfl, rfl, hT2, hsz2, hbl2⟩ := hrel
    have Hb2 := Lib.hid hbl2
    have hz2 := hbl2.size
    have hbw : Hid (Below w.heap.size w wr) := Lib.hid (hb0.out.trans (hbl2.mono hb0.out.size))
    clear hbl2
    by_cases hlk : k < n
    ·have hlR : k < RX.length := by have := hn.out; omega
     obtain ⟨g', off', hA', hg', hcell⟩ := Hr.out.at hlR
     rw [hA] at hA'
     simp only [Option.some.injEq, Addr.mk.injEq, and_true] at hA'
     obtain ⟨rfl, rfl⟩ := hA'
     have r0 := (hbw.out.cell (p := ⟨g, off + k * 2, none⟩) hg).trans (hcell 0 _ rfl)
     have r1 := (hbw.out.cell (p := ⟨g, off + k * 2 + 1, none⟩) hg).trans (hcell 1 _ rfl)
     have hy : Hid (RX[k].place = (p : Int) + 1 → rbI RX ((p : Int) + 1) S (k + 1) = rbI RX ((p : Int) + 1) S k ++ numS (k + 1)) := Lib.hid (rbI_y hlR)
     have hno : Hid (¬ RX[k].place = (p : Int) + 1 → rbI RX ((p : Int) + 1) S (k + 1) = rbI RX ((p : Int) + 1) S k) := Lib.hid (rbI_n hlR)
     obtain ⟨x, hx⟩ : ∃ x, Hid (RX[k] = x) := ⟨_, Lib.hid rfl⟩
     rw [hx.out] at r0 r1 hy hno
     clear hcell
     have w2 : IntKind.i64.wrap ((k : Int) + 1) = (k : Int) + 1 := IntWalk.i64_in _ (by omega)
     by_cases hc : x.place = (p : Int) + 1
     ·have Hy := Lib.hid (hy.out hc)
      have e5 : (x.place == (p : Int) + 1) = true := by simpa using hc
      obtain ⟨NU, hNU⟩ : ∃ x, Hid (numS (k + 1) = x) := ⟨_, Lib.hid rfl⟩
      have hn10 : NU.size ≤ 10 := by rw [← hNU.out]; exact numS_bd (by omega)
      rw [hNU.out] at Hy
      have Hnum : Hid (∀ W, Below w.heap.size w W → Calls Tryz.prog 87 #[.int .i64 ((k : Int) + 1)] W fun e w' => e = .returned (.string NU) ∧ Below W.heap.size W w') := Lib.hid fun W hb => by
       have := l1Num_any (k + 1) (k + 1) W (Nat.le_refl _) (by omega)
       rw [hNU.out, show ((k + 1 : Nat) : Int) = (k : Int) + 1 by omega] at this; exact this
      have k1 : ¬ 9223372036854775807 < T.size + NU.size := by omega
      clear hc hy hno
      go_wp2_with (go_at_call 87; refine (Hnum.out _ (hbw.out.alloc hbw.out.size _)).mono ?_; rintro e w5 ⟨rfl, hb5⟩; have HB5 := Lib.hid ((Hb2.out.alloc hz2 _).trans (hb5.mono (by simp; omega))); clear hb5)
      go_roundw
      case rel => exact ⟨k + 1, T ++ NU, by omega, by go_num, rfl, Lib.hid (by rw [Hy.out, ← hT2.out]), by rw [ByteArray.size_append]; omega, HB5.out⟩
      case measure => simp [intOf]; omega
     ·have Hy := Lib.hid (hno.out hc)
      have e5 : (x.place == (p : Int) + 1) = false := by simpa using hc
      clear hc hy hno
      go_wp2
      go_roundw
      case rel => exact ⟨k + 1, T, by omega, by go_num, rfl, Lib.hid (by rw [Hy.out, ← hT2.out]), by omega, Hb2.out.alloc hz2 _⟩
      case measure => simp [intOf]; omega
    ·obtain rfl : k = n := by omega
     have Hy : Hid (rbO RX (p + 1) = rbI RX ((p : Int) + 1) S k) := Lib.hid (by simp only [rbO]; rw [hS.out, hn.out])
     go_wp2
     go_roundw
     case rel => exact ⟨p + 1, T, by omega, by go_num, rfl, Lib.hid (by rw [Hy.out, ← hT2.out]), by omega, Hb2.out⟩
     case measure => simp [intOf]; omega
  ·obtain rfl : p = n := by omega
   have d1 : decide ((p : Int) + 1 ≤ (p : Int)) = false := by simp; omega
   go_wp2
   go_ret
   have e9 := hS.out
   subst e9
   exact ⟨by rw [hRX.out, hn.out]; rfl, hb0.out.trans (Hbl.out.mono hb0.out.size)⟩
set_option maxHeartbeats 3200000 in
theorem rowOfBand_anyR (b : Bnd) (w : World) (hri : RdL w w.heap.size b.RA 2 Rgr.enc b.rx) (hp : bandP b) (htab : Tab w) :
  Calls Tryz.prog 103 #[.agg #[.string b.m.name, .int .i64 b.m.stage, .slice b.m.A b.m.x.length b.m.c, .string b.bob, .string b.sing, .int .i64 b.step, .string b.call, .string b.tru, .slice b.RA b.rx.length b.rc]] w fun e w' => e = .returned (.string (rbO b.rx b.rx.length)) ∧ Below w.heap.size w w' := by
 have hst : (b.rx.length : Int) = b.m.stage := hp.2.2.2.2.1
 have h3 : 0 < b.rx.length := by have := hp.2.2.2.2.1; have := hp.2.2.2.1.1; have := hp.2.2.2.1.2.1; omega
 have hrl : b.rx.length ≤ 8 := by have := hp.2.2.2.2.1; have := hp.2.2.2.1.1; have := hp.2.2.2.1.2.2.1; have := hp.2.2.2.1.2; have h8 := hp.2.2.2.1.2.2; have h9 := hp.2.2.2.1.2.1; omega
 have Hr := Lib.hid hri
 have HT := Lib.hid htab
 obtain ⟨g, off, hA, hg, _⟩ := Hr.out.at h3
 have HA := Lib.hid hA
 clear hri hp htab hA
 obtain ⟨W0, hW0, hb0, a1, a8, hs0⟩ : ∃ W0 : World, Hid ((w.alloc (.cells #[.string b.m.name, .int .i64 b.m.stage, .slice b.m.A b.m.x.length b.m.c, .string b.bob, .string b.sing, .int .i64 b.step, .string b.call, .string b.tru, .slice b.RA b.rx.length b.rc] 36)) = W0) ∧ Hid (Below w.heap.size w W0) ∧ Hid (W0.cell? ⟨w.heap.size, 1, none⟩ = some (.int .i64 b.m.stage)) ∧ Hid (W0.cell? ⟨w.heap.size, 8, none⟩ = some (.slice b.RA b.rx.length b.rc)) ∧ w.heap.size < W0.heap.size :=
  ⟨_, Lib.hid rfl, Lib.hid ((Below.refl _ _).alloc (Nat.le_refl _) _), Lib.hid (by simp [go_sem]), Lib.hid (by simp [go_sem]), by simp⟩
 have Hst := Lib.hid hst
 clear hst
 go_enter Tryz.func103, Tryz.ntmps103
 go_upto_region 3 with fail
 rw [hW0.out, HA.out]
 rw [← Hst.out] at a1
 rw [HA.out] at a8
 have hA := HA.out
 clear hW0
 obtain ⟨n, hn⟩ : ∃ n, Hid (b.rx.length = n) := ⟨_, Lib.hid rfl⟩
 obtain ⟨RX, hRX⟩ : ∃ RX, Hid (b.rx = RX) := ⟨_, Lib.hid rfl⟩
 rw [hRX.out] at Hr hn ⊢
 rw [hRX.out] at a8 a1 h3 hrl
 rw [hn.out] at a8 a1 h3 hrl ⊢
 go_loopw [3, 4] (fun v i wr => ∃ (p : Nat) (S : ByteArray), p ≤ n ∧ i = .int .i64 ((p : Int) + 1) ∧ v = .string S ∧ Hid (S = rbO RX p) ∧ S.size ≤ 80 * p ∧ Below W0.heap.size W0 wr) (fun _ i _ => n + 1 - (intOf i).toNat)
 case atStart => exact ⟨0, _, by omega, by rfl, rfl, Lib.hid rfl, by decide, Below.refl _ _⟩
 case round =>
  obtain ⟨p, S, hp, rfl, rfl, hS, hsz, hbl⟩ := hrel
  have Hbl := Lib.hid hbl
  have hz0 := hbl.size
  have s1 := (Hbl.out.cell (p := ⟨w.heap.size, 1, none⟩) hs0).trans a1.out
  have s8 := (Hbl.out.cell (p := ⟨w.heap.size, 8, none⟩) hs0).trans a8.out
  clear hbl
  have w1 : IntKind.i64.wrap ((p : Int) + 1) = (p : Int) + 1 := IntWalk.i64_in _ (by omega)
  by_cases hlt : p < n
  ·have d1 : decide ((p : Int) + 1 ≤ (n : Int)) = true := by simp; omega
   go_upto_region 6 with fail
   clear s1 s8
   obtain ⟨wo, rfl⟩ : ∃ wo, wo = wr := ⟨wr, rfl⟩
   go_loopw [3, 17] (fun v i wr => ∃ (k : Nat) (T : ByteArray), k ≤ n ∧ i = .int .i64 (k : Int) ∧ v = .string T ∧ Hid (T = rbI RX ((p : Int) + 1) S k) ∧ T.size ≤ 80 * p + 10 * k ∧ Below W0.heap.size W0 wr) (fun _ i _ => n - (intOf i).toNat)
   case atStart => exact ⟨0, S, by omega, by rfl, rfl, Lib.hid rfl, by omega, Hbl.out⟩
   case round =>
    obtain ⟨k, T, hk, rfl, rfl, hT2, hsz2, hbl2⟩ := hrel
    have Hb2 := Lib.hid hbl2
    have hz2 := hbl2.size
    have hbw : Hid (Below w.heap.size w wr) := Lib.hid (hb0.out.trans (hbl2.mono hb0.out.size))
    clear hbl2
    by_cases hlk : k < n
    ·have hlR : k < RX.length := by have := hn.out; omega
     obtain ⟨g', off', hA', hg', hcell⟩ := Hr.out.at hlR
     rw [hA] at hA'
     simp only [Option.some.injEq, Addr.mk.injEq, and_true] at hA'
     obtain ⟨rfl, rfl⟩ := hA'
     have r0 := (hbw.out.cell (p := ⟨g, off + k * 2, none⟩) hg).trans (hcell 0 _ rfl)
     have r1 := (hbw.out.cell (p := ⟨g, off + k * 2 + 1, none⟩) hg).trans (hcell 1 _ rfl)
     have hy : Hid (RX[k].place = (p : Int) + 1 → rbI RX ((p : Int) + 1) S (k + 1) = rbI RX ((p : Int) + 1) S k ++ numS (k + 1)) := Lib.hid (rbI_y hlR)
     have hno : Hid (¬ RX[k].place = (p : Int) + 1 → rbI RX ((p : Int) + 1) S (k + 1) = rbI RX ((p : Int) + 1) S k) := Lib.hid (rbI_n hlR)
     obtain ⟨x, hx⟩ : ∃ x, Hid (RX[k] = x) := ⟨_, Lib.hid rfl⟩
     rw [hx.out] at r0 r1 hy hno
     clear hcell
     have w2 : IntKind.i64.wrap ((k : Int) + 1) = (k : Int) + 1 := IntWalk.i64_in _ (by omega)
     by_cases hc : x.place = (p : Int) + 1
     ·have Hy := Lib.hid (hy.out hc)
      have e5 : (x.place == (p : Int) + 1) = true := by simpa using hc
      obtain ⟨NU, hNU⟩ : ∃ x, Hid (numS (k + 1) = x) := ⟨_, Lib.hid rfl⟩
      have hn10 : NU.size ≤ 10 := by rw [← hNU.out]; exact numS_bd (by omega)
      rw [hNU.out] at Hy
      have Hnum : Hid (∀ W, Below w.heap.size w W → Calls Tryz.prog 85 #[.int .i64 ((k : Int) + 1)] W fun e w' => e = .returned (.string NU) ∧ Below W.heap.size W w') := Lib.hid fun W hb => by
       have := decimal_any (k + 1) W (by omega) (HT.out.later hb)
       rw [hNU.out, show ((k + 1 : Nat) : Int) = (k : Int) + 1 by omega] at this; exact this
      have k1 : ¬ 9223372036854775807 < T.size + NU.size := by omega
      clear hc hy hno
      go_wp2_with (go_at_call 85; refine (Hnum.out _ (hbw.out.alloc hbw.out.size _)).mono ?_; rintro e w5 ⟨rfl, hb5⟩; have HB5 := Lib.hid ((Hb2.out.alloc hz2 _).trans (hb5.mono (by simp; omega))); clear hb5)
      go_roundw
      case rel => exact ⟨k + 1, T ++ NU, by omega, by go_num, rfl, Lib.hid (by rw [Hy.out, ← hT2.out]), by rw [ByteArray.size_append]; omega, HB5.out⟩
      case measure => simp [intOf]; omega
     ·have Hy := Lib.hid (hno.out hc)
      have e5 : (x.place == (p : Int) + 1) = false := by simpa using hc
      clear hc hy hno
      go_wp2
      go_roundw
      case rel => exact ⟨k + 1, T, by omega, by go_num, rfl, Lib.hid (by rw [Hy.out, ← hT2.out]), by omega, Hb2.out.alloc hz2 _⟩
      case measure => simp [intOf]; omega
    ·obtain rfl : k = n := by omega
     have Hy : Hid (rbO RX (p + 1) = rbI RX ((p : Int) + 1) S k) := Lib.hid (by simp only [rbO]; rw [hS.out, hn.out])
     go_wp2
     go_roundw
     case rel => exact ⟨p + 1, T, by omega, by go_num, rfl, Lib.hid (by rw [Hy.out, ← hT2.out]), by omega, Hb2.out⟩
     case measure => simp [intOf]; omega
  ·obtain rfl : p = n := by omega
   have d1 : decide ((p : Int) + 1 ≤ (p : Int)) = false := by simp; omega
   go_wp2
   go_ret
   have e9 := hS.out
   subst e9
   exact ⟨by rw [hRX.out, hn.out]; rfl, hb0.out.trans (Hbl.out.mono hb0.out.size)⟩


end Go.Proofs.YtkegbbndmfnolaaGreatDoor

/-
 What actions make of a band, one after the other: plain (no program).
-/
namespace Go.Proofs.YtkegbbndmfnolaaGreatDoor
open Go.RowKit
set_option linter.unusedVariables false
set_option linter.unusedSimpArgs false

/-- A band at these addresses. -/
def Bd.bnd (d : Bd) (A : Option Addr) (c : Nat) (R : Option Addr) (r : Nat) : Bnd := ⟨⟨d.name, d.stage, d.x, A, c⟩, d.bob, d.sing, d.step, d.call, d.tru, d.rx, R, r⟩
def Bd.b0 (d : Bd) : Bnd := d.bnd none 0 none 0
theorem Bd.bnd_bd (d : Bd) (A : Option Addr) (c : Nat) (R : Option Addr) (r : Nat) : (d.bnd A c R r).bd = d := rfl
theorem doR_bnd (d : Bd) (A : Option Addr) (c : Nat) (R : Option Addr) (r : Nat) (k b y : Int) (cl : ByteArray) : doR (d.bnd A c R r) k b y cl = doR d.b0 k b y cl := by
 unfold doR; rfl
/-- A valid band. -/
def bdP (d : Bd) : Prop := bandP d.b0
theorem bandP_bnd (d : Bd) (A : Option Addr) (c : Nat) (R : Option Addr) (r : Nat) : bandP (d.bnd A c R r) ↔ bdP d := Iff.rfl
theorem pS_call : isCallP pS := .inl (by unfold pS; rw [ByteArray.toList_eq])
theorem mvP_in {n : Nat} (c : ByteArray) {p : Nat} (h1 : 1 ≤ p) (h2 : p ≤ n) : 1 ≤ mvP n c p ∧ mvP n c p ≤ n := pt_bd (swL_bd c n) h1 h2
theorem stepRs_in {b : Bnd} (h : bandP b) (i : Nat) (hi : i < (stepRs b).length) : inB (stepRs b)[i].place 1 b.m.stage := by
 have hl : i < b.rx.length := by rw [stepRs_len] at hi; exact hi
 have hp := h.2.2.2.2.2 i hl
 have hst := h.1.1.2.stage
 have key : inB (stepR b b.rx[i]).place 1 b.m.stage := by
  have := mvP_in (n := b.m.stage.toNat) (if b.rx[i].deaf then ownChg b else heardChg b) (p := b.rx[i].place.toNat) (by have := hp.1; omega) (by have := hp.1; have := hp.2; omega)
  unfold stepR inB; simp only; have := hst.1; omega
 have e : (stepRs b)[i].place = (stepR b b.rx[i]).place := by
  unfold stepRs
  split <;> simp [hearR]
 rw [e]; exact key
theorem stepD_bdP {b : Bnd} (h : bandP b) : bdP (stepD b) := by
 have hst := h.1.1.2.stage
 have h3 := hst.1
 have h8 := hst.2
 have hs := h.2.1
 obtain ⟨r1, r2⟩ := row_chg (n := b.m.stage.toNat) (by omega) (by omega) (heardChg b)
 have ht : (b.tru.size : Int) = b.m.stage := h.2.2.2.1.1
 refine ⟨h.1, ?_, ?_, ⟨?_, ?_⟩, ?_, ?_⟩
 ·show inB (stepN b) 0 ((b.m.x.length : Int) - 1)
  unfold stepN
  obtain ⟨a1, a2⟩ := hs
  split
  ·exact ⟨by omega, by omega⟩
  ·exact ⟨by omega, by omega⟩
 ·show isCallP (stepC b)
  unfold stepC
  split
  ·exact pS_call
  ·exact h.2.2.1
 ·show ((stepT b).size : Int) = b.m.stage
  unfold stepT
  rw [size_times, r2]; omega
 ·show isRow (stepT b)
  exact row_times h.2.2.2.1.2 r1 (by rw [r2]; omega)
 ·show ((stepRs b).length : Int) = b.m.stage
  rw [stepRs_len]; exact h.2.2.2.2.1
 ·exact fun i hi => stepRs_in h i hi
theorem put_bdP {b : Bnd} (h : bandP b) {bl : Int} {r : Rgr} (hr : inB r.place 1 b.m.stage) : bdP (b.put bl r) := by
 refine ⟨h.1, h.2.1, h.2.2.1, h.2.2.2.1, ?_, ?_⟩
 ·show ((b.rx.set (bl.toNat - 1) r).length : Int) = b.m.stage
  rw [List.length_set]; exact h.2.2.2.2.1
 ·intro i hi
  have hi2 : i < (b.rx.set (bl.toNat - 1) r).length := hi
  have hi' : i < b.rx.length := by simpa using hi2
  have : inB ((b.rx.set (bl.toNat - 1) r)[i]'hi2).place 1 b.m.stage := by
   rw [List.getElem_set]
   split
   ·exact hr
   ·exact h.2.2.2.2.2 i hi'
  exact this
theorem at_in {b : Bnd} (h : bandP b) {bl : Int} (hb : inB bl 1 b.m.stage) : inB (b.at_ bl).place 1 b.m.stage := by
 have hl := h.2.2.2.2.1
 have h1 := hb.1
 have h2 := hb.2
 have hlt : bl.toNat - 1 < b.rx.length := by omega
 have := h.2.2.2.2.2 (bl.toNat - 1) hlt
 unfold Bnd.at_
 rw [List.getD_eq_getElem?_getD, List.getElem?_eq_getElem hlt]
 exact this
theorem place_in {t : ByteArray} (h : isRow t) {p : Int} (h1 : 1 ≤ p) (h2 : p ≤ t.size) : inB (placeS t p) 1 t.size := by
 obtain ⟨i, hi, e⟩ := h.hit (v := p + 48) (by omega) (by omega)
 have := h.place (i := i) hi
 rw [e, show p + 48 - 48 = p by omega] at this
 rw [this]
 exact ⟨by omega, by omega⟩
theorem doR_bdP {b : Bnd} (h : bandP b) {kd bl yy : Int} {cl : ByteArray} (ht : (doR b kd bl yy cl).2 = true) : bdP (doR b kd bl yy cl).1 := by
 unfold doR at ht ⊢
 split at ht
 ·rename_i h1; rw [if_pos h1]; exact stepD_bdP h
 ·rename_i h1; rw [if_neg h1]
  split at ht
  ·rename_i h2; rw [if_pos h2]
   exact ⟨h.1, h.2.1, h2.2, h.2.2.2⟩
  ·rename_i h2; rw [if_neg h2]
   split at ht
   ·cases ht
   ·rename_i h3; rw [if_neg h3]
    have hb : inB bl 1 b.m.stage := Classical.not_not.1 h3
    split at ht
    ·rename_i h4; rw [if_pos h4]
     exact put_bdP h (at_in h hb)
    ·rename_i h4; rw [if_neg h4]
     split at ht
     ·rename_i h5; rw [if_pos h5]
      have := place_in h.2.2.2.1.2 hb.1 (show bl ≤ (b.tru.size : Int) from by rw [h.2.2.2.1.1]; exact hb.2)
      rw [h.2.2.2.1.1] at this
      exact put_bdP h this
     ·rename_i h5; rw [if_neg h5]
      split at ht
      ·rename_i h6; rw [if_pos h6]
       exact put_bdP h h6.2.2
      ·cases ht
theorem rbI_size (l : List Rgr) (p : Int) (s : ByteArray) : ∀ k, k ≤ l.length → k < 1000000 → (rbI l p s k).size ≤ s.size + 10 * k := by
 intro k
 induction k with
 | zero => intro _ _; simp [rbI]
 | succ k ih =>
  intro h h6
  have := ih (by omega) (by omega)
  by_cases e : l[k].place = p
  ·rw [rbI_y (by omega) e, ByteArray.size_append]
   have := numS_bd (n := k + 1) (by omega); omega
  ·rw [rbI_n (by omega) e]; omega
theorem rbO_sizeL {l : List Rgr} (h8 : l.length ≤ 8) : ∀ p, (rbO l p).size ≤ 80 * p := by
 intro p
 induction p with
 | zero => exact Nat.zero_le _
 | succ p ih =>
  simp only [rbO]
  have := rbI_size l ((p : Int) + 1) (rbO l p) l.length (Nat.le_refl _) (by omega)
  omega
theorem rbO_size {d : Bd} (h : bdP d) : (rbO d.rx d.rx.length).size ≤ 640 := by
 have h1 : (d.rx.length : Int) = d.stage := h.2.2.2.2.1
 have h2 : d.stage ≤ 8 := h.1.1.2.stage.2
 have := rbO_sizeL (l := d.rx) (by omega) d.rx.length
 omega
/-- The method stays. -/
theorem doR_keep {b : Bnd} {kd bl yy : Int} {cl : ByteArray} (ht : (doR b kd bl yy cl).2 = true) : (doR b kd bl yy cl).1.x = b.m.x ∧ (doR b kd bl yy cl).1.name = b.m.name := by
 unfold doR at ht ⊢
 repeat' (split at ht <;> rename_i h1 <;> (first | rw [if_pos h1] | rw [if_neg h1]) <;> try exact ⟨rfl, rfl⟩)
 all_goals cases ht
/-- An action of a band. -/
noncomputable def doA (d : Bd) (a : Act_) : Bd × Bool := doR d.b0 a.kind a.bell a.by_ a.call
/-- The band behind the first k actions, and its rows before each step. -/
noncomputable def playS (d : Bd) (l : List Act_) : Nat → Bd × List ByteArray
 | 0 => (d, [])
 | k + 1 => match l[k]? with
  | some a => if (doA (playS d l k).1 a).2 = true then ((doA (playS d l k).1 a).1, if a.kind = 1 then (playS d l k).2 ++ [rbO (playS d l k).1.rx (playS d l k).1.rx.length] else (playS d l k).2) else playS d l k
  | none => playS d l k
section
variable {d : Bd} {l : List Act_} {k : Nat}
theorem playS_no (hk : k < l.length) (h : (doA (playS d l k).1 l[k]).2 = false) : playS d l (k + 1) = playS d l k := by
 simp only [playS, List.getElem?_eq_getElem hk]; rw [if_neg (by rw [h]; simp)]
theorem playS_step (hk : k < l.length) (h : (doA (playS d l k).1 l[k]).2 = true) (h1 : l[k].kind = 1) : playS d l (k + 1) = ((doA (playS d l k).1 l[k]).1, (playS d l k).2 ++ [rbO (playS d l k).1.rx (playS d l k).1.rx.length]) := by
 simp only [playS, List.getElem?_eq_getElem hk]; rw [if_pos h, if_pos h1]
theorem playS_do (hk : k < l.length) (h : (doA (playS d l k).1 l[k]).2 = true) (h1 : ¬ l[k].kind = 1) : playS d l (k + 1) = ((doA (playS d l k).1 l[k]).1, (playS d l k).2) := by
 simp only [playS, List.getElem?_eq_getElem hk]; rw [if_pos h, if_neg h1]
/-- What stays: the method, the calls; the band is valid. -/
theorem playS_inv (h : bdP d) : ∀ k, bdP (playS d l k).1 ∧ (playS d l k).2.length ≤ k ∧ ∀ r ∈ (playS d l k).2, r.size ≤ 640 := by
 intro k
 induction k with
 | zero => exact ⟨h, Nat.le_refl _, by simp [playS]⟩
 | succ k ih =>
  by_cases hk : k < l.length
  ·cases e : (doA (playS d l k).1 l[k]).2 with
   | false => rw [playS_no hk e]; exact ⟨ih.1, by omega, ih.2.2⟩
   | true =>
    have hd : bdP (doA (playS d l k).1 l[k]).1 := doR_bdP (b := (playS d l k).1.b0) ih.1 e
    by_cases h1 : l[k].kind = 1
    ·rw [playS_step hk e h1]
     refine ⟨hd, by simp; omega, fun r hr => ?_⟩
     rcases List.mem_append.1 hr with hr | hr
     ·exact ih.2.2 r hr
     ·rw [List.mem_singleton.1 hr]; exact rbO_size ih.1
    ·rw [playS_do hk e h1]; exact ⟨hd, by simp only; omega, ih.2.2⟩
  ·have : playS d l (k + 1) = playS d l k := by simp only [playS, List.getElem?_eq_none (Nat.le_of_not_lt hk)]
   rw [this]; exact ⟨ih.1, by omega, ih.2.2⟩
theorem playS_keep : ∀ k, (playS d l k).1.x = d.x ∧ (playS d l k).1.name = d.name := by
 intro k
 induction k with
 | zero => exact ⟨rfl, rfl⟩
 | succ k ih =>
  by_cases hk : k < l.length
  ·cases e : (doA (playS d l k).1 l[k]).2 with
   | false => rw [playS_no hk e]; exact ih
   | true =>
    have hd := doR_keep (b := (playS d l k).1.b0) e
    by_cases h1 : l[k].kind = 1
    ·rw [playS_step hk e h1]; exact ⟨hd.1.trans ih.1, hd.2.trans ih.2⟩
    ·rw [playS_do hk e h1]; exact ⟨hd.1.trans ih.1, hd.2.trans ih.2⟩
  ·have : playS d l (k + 1) = playS d l k := by simp only [playS, List.getElem?_eq_none (Nat.le_of_not_lt hk)]
   rw [this]; exact ih
end
end Go.Proofs.YtkegbbndmfnolaaGreatDoor
