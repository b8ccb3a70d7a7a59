/-
  The row of a band: contracts of both sides.
-/
import Derived.Test.YtpedfjcidbopiaaDoorTyBand
import Derived.Test.YtpedfjcidbopiaaDoorCardKit
import Derived.Test.YtpedfjcidbopiaaDoorQuiet
namespace Go.Proofs.YtpedfjcidbopiaaDoor
open Go.RowKit
set_option linter.unusedVariables false
set_option linter.unusedSimpArgs false
set_option maxRecDepth 100000

/-- Behind s the bells, up to the first k, whose ringers stand at p. -/
def rbI (l : List Rgr) (p : Int) (s : ByteArray) : Nat → ByteArray
  | 0 => s
  | k + 1 => match l[k]? with
    | some r => if r.place = p then rbI l p s k ++ numS (k + 1) else rbI l p s k
    | none => rbI l p s k
theorem rbI_y {l : List Rgr} {p : Int} {s : ByteArray} {k : Nat} (hk : k < l.length) (h : l[k].place = p) : rbI l p s (k + 1) = rbI l p s k ++ numS (k + 1) := by
  simp only [rbI, List.getElem?_eq_getElem hk]; rw [if_pos h]
theorem rbI_n {l : List Rgr} {p : Int} {s : ByteArray} {k : Nat} (hk : k < l.length) (h : ¬ l[k].place = p) : rbI l p s (k + 1) = rbI l p s k := by
  simp only [rbI, List.getElem?_eq_getElem hk]; rw [if_neg h]
/-- The bells by places. -/
def rbO (l : List Rgr) : Nat → ByteArray
  | 0 => ⟨#[]⟩
  | p + 1 => rbI l ((p : Int) + 1) (rbO l p) l.length



set_option maxHeartbeats 3200000 in
theorem l24Row_any (b : Bnd) (w : World) (h : b.Ok w) (hp : bandP b) (htab : Tab w) :
    Calls Tryd.prog 81 #[.agg #[.string b.m.name, .int .i64 b.m.stage, .slice b.m.A b.m.x.length b.m.c, .string b.bob, .string b.sing, .int .i64 b.step, .string b.call, .string b.tru, .slice b.RA b.rx.length b.rc]] w fun e w' => e = .returned (.string (rbO b.rx b.rx.length)) ∧ Below w.heap.size w w' := by
  have hst : (b.rx.length : Int) = b.m.stage := hp.2.2.2.2.1
  have h3 : 0 < b.rx.length := by have := hp.2.2.2.2.1; have := hp.2.2.2.1.1; have := hp.2.2.2.1.2.1; omega
  have hrl : b.rx.length ≤ 8 := by have := hp.2.2.2.2.1; have := hp.2.2.2.1.1; have := hp.2.2.2.1.2.2.1; have := hp.2.2.2.1.2; have h8 := hp.2.2.2.1.2.2; have h9 := hp.2.2.2.1.2.1; omega
  have Hr := Lib.hid h.ri
  have HT := Lib.hid htab
  obtain ⟨g, off, hA, hg, _⟩ := Hr.out.at h3
  have HA := Lib.hid hA
  clear h hp htab hA
  obtain ⟨W0, hW0, hb0, a1, a8, hs0⟩ : ∃ W0 : World, Hid ((w.alloc (.cells #[.string b.m.name, .int .i64 b.m.stage, .slice b.m.A b.m.x.length b.m.c, .string b.bob, .string b.sing, .int .i64 b.step, .string b.call, .string b.tru, .slice b.RA b.rx.length b.rc] 65)) = W0) ∧ Hid (Below w.heap.size w W0) ∧ Hid (W0.cell? ⟨w.heap.size, 1, none⟩ = some (.int .i64 b.m.stage)) ∧ Hid (W0.cell? ⟨w.heap.size, 8, none⟩ = some (.slice b.RA b.rx.length b.rc)) ∧ w.heap.size < W0.heap.size :=
    ⟨_, Lib.hid rfl, Lib.hid ((Below.refl _ _).alloc (Nat.le_refl _) _), Lib.hid (by simp [go_sem]), Lib.hid (by simp [go_sem]), by simp⟩
  have Hst := Lib.hid hst
  clear hst
  go_enter Tryd.func81, Tryd.ntmps81
  go_upto_region 3 with fail
  rw [hW0.out, HA.out]
  rw [← Hst.out] at a1
  rw [HA.out] at a8
  have hA := HA.out
  clear hW0
  obtain ⟨n, hn⟩ : ∃ n, Hid (b.rx.length = n) := ⟨_, Lib.hid rfl⟩
  obtain ⟨RX, hRX⟩ : ∃ RX, Hid (b.rx = RX) := ⟨_, Lib.hid rfl⟩
  rw [hRX.out] at Hr hn ⊢
  rw [hRX.out] at a8 a1 h3 hrl
  rw [hn.out] at a8 a1 h3 hrl ⊢
  go_loopw [3, 4] (fun v i wr => ∃ (p : Nat) (S : ByteArray), p ≤ n ∧ i = .int .i64 ((p : Int) + 1) ∧ v = .string S ∧ Hid (S = rbO RX p) ∧ S.size ≤ 80 * p ∧ Below W0.heap.size W0 wr) (fun _ i _ => n + 1 - (intOf i).toNat)
  case atStart => exact ⟨0, _, by omega, by rfl, rfl, Lib.hid rfl, by decide, Below.refl _ _⟩
  case round =>
    obtain ⟨p, S, hp, rfl, rfl, hS, hsz, hbl⟩ := hrel
    have Hbl := Lib.hid hbl
    have hz0 := hbl.size
    have s1 := (Hbl.out.cell (p := ⟨w.heap.size, 1, none⟩) hs0).trans a1.out
    have s8 := (Hbl.out.cell (p := ⟨w.heap.size, 8, none⟩) hs0).trans a8.out
    clear hbl
    have w1 : IntKind.i64.wrap ((p : Int) + 1) = (p : Int) + 1 := IntWalk.i64_in _ (by omega)
    by_cases hlt : p < n
    · have d1 : decide ((p : Int) + 1 ≤ (n : Int)) = true := by simp; omega
      go_upto_region 6 with fail
      clear s1 s8
      obtain ⟨wo, rfl⟩ : ∃ wo, wo = wr := ⟨wr, rfl⟩
      go_loopw [3, 17] (fun v i wr => ∃ (k : Nat) (T : ByteArray), k ≤ n ∧ i = .int .i64 (k : Int) ∧ v = .string T ∧ Hid (T = rbI RX ((p : Int) + 1) S k) ∧ T.size ≤ 80 * p + 10 * k ∧ Below W0.heap.size W0 wr) (fun _ i _ => n - (intOf i).toNat)
      case atStart => exact ⟨0, S, by omega, by rfl, rfl, Lib.hid rfl, by omega, Hbl.out⟩
      case round =>
        obtain ⟨k, T, hk, rfl, rfl, hT2, hsz2, hbl2⟩ := hrel
        have Hb2 := Lib.hid hbl2
        have hz2 := hbl2.size
        have hbw : Hid (Below w.heap.size w wr) := Lib.hid (hb0.out.trans (hbl2.mono hb0.out.size))
        clear hbl2
        by_cases hlk : k < n
        · have hlR : k < RX.length := by have := hn.out; omega
          obtain ⟨g', off', hA', hg', hcell⟩ := Hr.out.at hlR
          rw [hA] at hA'
          simp only [Option.some.injEq, Addr.mk.injEq, and_true] at hA'
          obtain ⟨rfl, rfl⟩ := hA'
          have r0 := (hbw.out.cell (p := ⟨g, off + k * 2, none⟩) hg).trans (hcell 0 _ rfl)
          have r1 := (hbw.out.cell (p := ⟨g, off + k * 2 + 1, none⟩) hg).trans (hcell 1 _ rfl)
          have hy : Hid (RX[k].place = (p : Int) + 1 → rbI RX ((p : Int) + 1) S (k + 1) = rbI RX ((p : Int) + 1) S k ++ numS (k + 1)) := Lib.hid (rbI_y hlR)
          have hno : Hid (¬ RX[k].place = (p : Int) + 1 → rbI RX ((p : Int) + 1) S (k + 1) = rbI RX ((p : Int) + 1) S k) := Lib.hid (rbI_n hlR)
          obtain ⟨x, hx⟩ : ∃ x, Hid (RX[k] = x) := ⟨_, Lib.hid rfl⟩
          rw [hx.out] at r0 r1 hy hno
          clear hcell
          have w2 : IntKind.i64.wrap ((k : Int) + 1) = (k : Int) + 1 := IntWalk.i64_in _ (by omega)
          by_cases hc : x.place = (p : Int) + 1
          · have Hy := Lib.hid (hy.out hc)
            have e5 : (x.place == (p : Int) + 1) = true := by simpa using hc
            obtain ⟨NU, hNU⟩ : ∃ x, Hid (numS (k + 1) = x) := ⟨_, Lib.hid rfl⟩
            have hn10 : NU.size ≤ 10 := by rw [← hNU.out]; exact numS_bd (by omega)
            rw [hNU.out] at Hy
            have Hnum : Hid (∀ W, Below w.heap.size w W → Calls Tryd.prog 57 #[.int .i64 ((k : Int) + 1)] W fun e w' => e = .returned (.string NU) ∧ Below W.heap.size W w') := Lib.hid fun W hb => by
              have := l1Num_any (k + 1) (k + 1) W (Nat.le_refl _) (by omega)
              rw [hNU.out, show ((k + 1 : Nat) : Int) = (k : Int) + 1 by omega] at this; exact this
            have k1 : ¬ 9223372036854775807 < T.size + NU.size := by omega
            clear hc hy hno
            go_wp2_with (go_at_call 57; refine (Hnum.out _ (hbw.out.alloc hbw.out.size _)).mono ?_; rintro e w5 ⟨rfl, hb5⟩; have HB5 := Lib.hid ((Hb2.out.alloc hz2 _).trans (hb5.mono (by simp; omega))); clear hb5)
            go_roundw
            case rel => exact ⟨k + 1, T ++ NU, by omega, by go_num, rfl, Lib.hid (by rw [Hy.out, ← hT2.out]), by rw [ByteArray.size_append]; omega, HB5.out⟩
            case measure => simp [intOf]; omega
          · have Hy := Lib.hid (hno.out hc)
            have e5 : (x.place == (p : Int) + 1) = false := by simpa using hc
            clear hc hy hno
            go_wp2
            go_roundw
            case rel => exact ⟨k + 1, T, by omega, by go_num, rfl, Lib.hid (by rw [Hy.out, ← hT2.out]), by omega, Hb2.out.alloc hz2 _⟩
            case measure => simp [intOf]; omega
        · obtain rfl : k = n := by omega
          have Hy : Hid (rbO RX (p + 1) = rbI RX ((p : Int) + 1) S k) := Lib.hid (by simp only [rbO]; rw [hS.out, hn.out])
          go_wp2
          go_roundw
          case rel => exact ⟨p + 1, T, by omega, by go_num, rfl, Lib.hid (by rw [Hy.out, ← hT2.out]), by omega, Hb2.out⟩
          case measure => simp [intOf]; omega
    · obtain rfl : p = n := by omega
      have d1 : decide ((p : Int) + 1 ≤ (p : Int)) = false := by simp; omega
      go_wp2
      go_ret
      have e9 := hS.out
      subst e9
      exact ⟨by rw [hRX.out, hn.out]; rfl, hb0.out.trans (Hbl.out.mono hb0.out.size)⟩
set_option maxHeartbeats 3200000 in
theorem rowOfBand_any (b : Bnd) (w : World) (h : b.Ok w) (hp : bandP b) (htab : Tab w) :
    Calls Tryd.prog 84 #[.agg #[.string b.m.name, .int .i64 b.m.stage, .slice b.m.A b.m.x.length b.m.c, .string b.bob, .string b.sing, .int .i64 b.step, .string b.call, .string b.tru, .slice b.RA b.rx.length b.rc]] w fun e w' => e = .returned (.string (rbO b.rx b.rx.length)) ∧ Below w.heap.size w w' := by
  have hst : (b.rx.length : Int) = b.m.stage := hp.2.2.2.2.1
  have h3 : 0 < b.rx.length := by have := hp.2.2.2.2.1; have := hp.2.2.2.1.1; have := hp.2.2.2.1.2.1; omega
  have hrl : b.rx.length ≤ 8 := by have := hp.2.2.2.2.1; have := hp.2.2.2.1.1; have := hp.2.2.2.1.2.2.1; have := hp.2.2.2.1.2; have h8 := hp.2.2.2.1.2.2; have h9 := hp.2.2.2.1.2.1; omega
  have Hr := Lib.hid h.ri
  have HT := Lib.hid htab
  obtain ⟨g, off, hA, hg, _⟩ := Hr.out.at h3
  have HA := Lib.hid hA
  clear h hp htab hA
  obtain ⟨W0, hW0, hb0, a1, a8, hs0⟩ : ∃ W0 : World, Hid ((w.alloc (.cells #[.string b.m.name, .int .i64 b.m.stage, .slice b.m.A b.m.x.length b.m.c, .string b.bob, .string b.sing, .int .i64 b.step, .string b.call, .string b.tru, .slice b.RA b.rx.length b.rc] 65)) = W0) ∧ Hid (Below w.heap.size w W0) ∧ Hid (W0.cell? ⟨w.heap.size, 1, none⟩ = some (.int .i64 b.m.stage)) ∧ Hid (W0.cell? ⟨w.heap.size, 8, none⟩ = some (.slice b.RA b.rx.length b.rc)) ∧ w.heap.size < W0.heap.size :=
    ⟨_, Lib.hid rfl, Lib.hid ((Below.refl _ _).alloc (Nat.le_refl _) _), Lib.hid (by simp [go_sem]), Lib.hid (by simp [go_sem]), by simp⟩
  have Hst := Lib.hid hst
  clear hst
  go_enter Tryd.func84, Tryd.ntmps84
  go_upto_region 3 with fail
  rw [hW0.out, HA.out]
  rw [← Hst.out] at a1
  rw [HA.out] at a8
  have hA := HA.out
  clear hW0
  obtain ⟨n, hn⟩ : ∃ n, Hid (b.rx.length = n) := ⟨_, Lib.hid rfl⟩
  obtain ⟨RX, hRX⟩ : ∃ RX, Hid (b.rx = RX) := ⟨_, Lib.hid rfl⟩
  rw [hRX.out] at Hr hn ⊢
  rw [hRX.out] at a8 a1 h3 hrl
  rw [hn.out] at a8 a1 h3 hrl ⊢
  go_loopw [3, 4] (fun v i wr => ∃ (p : Nat) (S : ByteArray), p ≤ n ∧ i = .int .i64 ((p : Int) + 1) ∧ v = .string S ∧ Hid (S = rbO RX p) ∧ S.size ≤ 80 * p ∧ Below W0.heap.size W0 wr) (fun _ i _ => n + 1 - (intOf i).toNat)
  case atStart => exact ⟨0, _, by omega, by rfl, rfl, Lib.hid rfl, by decide, Below.refl _ _⟩
  case round =>
    obtain ⟨p, S, hp, rfl, rfl, hS, hsz, hbl⟩ := hrel
    have Hbl := Lib.hid hbl
    have hz0 := hbl.size
    have s1 := (Hbl.out.cell (p := ⟨w.heap.size, 1, none⟩) hs0).trans a1.out
    have s8 := (Hbl.out.cell (p := ⟨w.heap.size, 8, none⟩) hs0).trans a8.out
    clear hbl
    have w1 : IntKind.i64.wrap ((p : Int) + 1) = (p : Int) + 1 := IntWalk.i64_in _ (by omega)
    by_cases hlt : p < n
    · have d1 : decide ((p : Int) + 1 ≤ (n : Int)) = true := by simp; omega
      go_upto_region 6 with fail
      clear s1 s8
      obtain ⟨wo, rfl⟩ : ∃ wo, wo = wr := ⟨wr, rfl⟩
      go_loopw [3, 17] (fun v i wr => ∃ (k : Nat) (T : ByteArray), k ≤ n ∧ i = .int .i64 (k : Int) ∧ v = .string T ∧ Hid (T = rbI RX ((p : Int) + 1) S k) ∧ T.size ≤ 80 * p + 10 * k ∧ Below W0.heap.size W0 wr) (fun _ i _ => n - (intOf i).toNat)
      case atStart => exact ⟨0, S, by omega, by rfl, rfl, Lib.hid rfl, by omega, Hbl.out⟩
      case round =>
        obtain ⟨k, T, hk, rfl, rfl, hT2, hsz2, hbl2⟩ := hrel
        have Hb2 := Lib.hid hbl2
        have hz2 := hbl2.size
        have hbw : Hid (Below w.heap.size w wr) := Lib.hid (hb0.out.trans (hbl2.mono hb0.out.size))
        clear hbl2
        by_cases hlk : k < n
        · have hlR : k < RX.length := by have := hn.out; omega
          obtain ⟨g', off', hA', hg', hcell⟩ := Hr.out.at hlR
          rw [hA] at hA'
          simp only [Option.some.injEq, Addr.mk.injEq, and_true] at hA'
          obtain ⟨rfl, rfl⟩ := hA'
          have r0 := (hbw.out.cell (p := ⟨g, off + k * 2, none⟩) hg).trans (hcell 0 _ rfl)
          have r1 := (hbw.out.cell (p := ⟨g, off + k * 2 + 1, none⟩) hg).trans (hcell 1 _ rfl)
          have hy : Hid (RX[k].place = (p : Int) + 1 → rbI RX ((p : Int) + 1) S (k + 1) = rbI RX ((p : Int) + 1) S k ++ numS (k + 1)) := Lib.hid (rbI_y hlR)
          have hno : Hid (¬ RX[k].place = (p : Int) + 1 → rbI RX ((p : Int) + 1) S (k + 1) = rbI RX ((p : Int) + 1) S k) := Lib.hid (rbI_n hlR)
          obtain ⟨x, hx⟩ : ∃ x, Hid (RX[k] = x) := ⟨_, Lib.hid rfl⟩
          rw [hx.out] at r0 r1 hy hno
          clear hcell
          have w2 : IntKind.i64.wrap ((k : Int) + 1) = (k : Int) + 1 := IntWalk.i64_in _ (by omega)
          by_cases hc : x.place = (p : Int) + 1
          · have Hy := Lib.hid (hy.out hc)
            have e5 : (x.place == (p : Int) + 1) = true := by simpa using hc
            obtain ⟨NU, hNU⟩ : ∃ x, Hid (numS (k + 1) = x) := ⟨_, Lib.hid rfl⟩
            have hn10 : NU.size ≤ 10 := by rw [← hNU.out]; exact numS_bd (by omega)
            rw [hNU.out] at Hy
            have Hnum : Hid (∀ W, Below w.heap.size w W → Calls Tryd.prog 60 #[.int .i64 ((k : Int) + 1)] W fun e w' => e = .returned (.string NU) ∧ Below W.heap.size W w') := Lib.hid fun W hb => by
              have := decimal_any (k + 1) W (by omega) (HT.out.later hb)
              rw [hNU.out, show ((k + 1 : Nat) : Int) = (k : Int) + 1 by omega] at this; exact this
            have k1 : ¬ 9223372036854775807 < T.size + NU.size := by omega
            clear hc hy hno
            go_wp2_with (go_at_call 60; refine (Hnum.out _ (hbw.out.alloc hbw.out.size _)).mono ?_; rintro e w5 ⟨rfl, hb5⟩; have HB5 := Lib.hid ((Hb2.out.alloc hz2 _).trans (hb5.mono (by simp; omega))); clear hb5)
            go_roundw
            case rel => exact ⟨k + 1, T ++ NU, by omega, by go_num, rfl, Lib.hid (by rw [Hy.out, ← hT2.out]), by rw [ByteArray.size_append]; omega, HB5.out⟩
            case measure => simp [intOf]; omega
          · have Hy := Lib.hid (hno.out hc)
            have e5 : (x.place == (p : Int) + 1) = false := by simpa using hc
            clear hc hy hno
            go_wp2
            go_roundw
            case rel => exact ⟨k + 1, T, by omega, by go_num, rfl, Lib.hid (by rw [Hy.out, ← hT2.out]), by omega, Hb2.out.alloc hz2 _⟩
            case measure => simp [intOf]; omega
        · obtain rfl : k = n := by omega
          have Hy : Hid (rbO RX (p + 1) = rbI RX ((p : Int) + 1) S k) := Lib.hid (by simp only [rbO]; rw [hS.out, hn.out])
          go_wp2
          go_roundw
          case rel => exact ⟨p + 1, T, by omega, by go_num, rfl, Lib.hid (by rw [Hy.out, ← hT2.out]), by omega, Hb2.out⟩
          case measure => simp [intOf]; omega
    · obtain rfl : p = n := by omega
      have d1 : decide ((p : Int) + 1 ≤ (p : Int)) = false := by simp; omega
      go_wp2
      go_ret
      have e9 := hS.out
      subst e9
      exact ⟨by rw [hRX.out, hn.out]; rfl, hb0.out.trans (Hbl.out.mono hb0.out.size)⟩


set_option maxHeartbeats 1600000 in
theorem sRowOfBand_t (b : Bnd) (w : World) (h : b.Ok w) (hp : bandP b) (htab : Tab w) :
    Calls Tryd.prog 31 #[.agg #[.string b.m.name, .int .i64 b.m.stage, .slice b.m.A b.m.x.length b.m.c, .string b.bob, .string b.sing, .int .i64 b.step, .string b.call, .string b.tru, .slice b.RA b.rx.length b.rc]] w fun e w' => e = .returned (.tuple #[.string (rbO b.rx b.rx.length), .bool true]) ∧ Below w.heap.size w w' := by
  have e1 := B_t hp
  have hok : ∀ W, Below w.heap.size w W → b.Ok W := fun W hb => ⟨(h.ch.below hb (Nat.le_refl _)).more hb.size, (h.ri.below hb (Nat.le_refl _)).more hb.size, h.nm, h.cl, h.cs, h.bs, h.ss, h.ks, h.ts, h.rl⟩
  have Hok := Lib.hid hok
  have HP := Lib.hid hp
  have HT := Lib.hid htab
  have hb0 : Hid (Below w.heap.size w (w.alloc (.cells #[.string b.m.name, .int .i64 b.m.stage, .slice b.m.A b.m.x.length b.m.c, .string b.bob, .string b.sing, .int .i64 b.step, .string b.call, .string b.tru, .slice b.RA b.rx.length b.rc] 65))) := Lib.hid ((Below.refl _ _).alloc (Nat.le_refl _) _)
  have hs0 : w.heap.size < ((w.alloc (.cells #[.string b.m.name, .int .i64 b.m.stage, .slice b.m.A b.m.x.length b.m.c, .string b.bob, .string b.sing, .int .i64 b.step, .string b.call, .string b.tru, .slice b.RA b.rx.length b.rc] 65))).heap.size := by simp
  clear hok h hp htab
  go_enter Tryd.func31, Tryd.ntmps31
  go_wp2_with (first
    | (go_at_call 80; refine (calls_bool (l24Good_any b _ (Hok.out _ hb0.out)) e1).mono ?_; rintro e w1 ⟨rfl, hb1⟩; have hbw := hb0.out.trans (hb1.mono hb0.out.size); have q0 := (hb1.cell (p := ⟨w.heap.size, 0, none⟩) (by simp)).trans (show _ = some _ from by simp [go_sem]; rfl); have q1 := (hb1.cell (p := ⟨w.heap.size, 1, none⟩) (by simp)).trans (show _ = some _ from by simp [go_sem]; rfl); have q2 := (hb1.cell (p := ⟨w.heap.size, 2, none⟩) (by simp)).trans (show _ = some _ from by simp [go_sem]; rfl); have q3 := (hb1.cell (p := ⟨w.heap.size, 3, none⟩) (by simp)).trans (show _ = some _ from by simp [go_sem]; rfl); have q4 := (hb1.cell (p := ⟨w.heap.size, 4, none⟩) (by simp)).trans (show _ = some _ from by simp [go_sem]; rfl); have q5 := (hb1.cell (p := ⟨w.heap.size, 5, none⟩) (by simp)).trans (show _ = some _ from by simp [go_sem]; rfl); have q6 := (hb1.cell (p := ⟨w.heap.size, 6, none⟩) (by simp)).trans (show _ = some _ from by simp [go_sem]; rfl); have q7 := (hb1.cell (p := ⟨w.heap.size, 7, none⟩) (by simp)).trans (show _ = some _ from by simp [go_sem]; rfl); have q8 := (hb1.cell (p := ⟨w.heap.size, 8, none⟩) (by simp)).trans (show _ = some _ from by simp [go_sem]; rfl))
    | (go_at_call 81; refine (l24Row_any b w1 (Hok.out _ hbw) HP.out (HT.out.later hbw)).mono ?_; rintro e w2 ⟨rfl, hb2⟩))
  go_ret2
  exact ⟨rfl, hbw.trans (hb2.mono hbw.size)⟩
theorem sRowOfBand_f (b : Bnd) (w : World) (h : b.Ok w) (hp : ¬ bandP b) :
    Calls Tryd.prog 31 #[.agg #[.string b.m.name, .int .i64 b.m.stage, .slice b.m.A b.m.x.length b.m.c, .string b.bob, .string b.sing, .int .i64 b.step, .string b.call, .string b.tru, .slice b.RA b.rx.length b.rc]] w fun e w' => e = .returned (.tuple #[.string ⟨#[]⟩, .bool false]) ∧ Below w.heap.size w w' := by
  have e1 := B_f hp
  have hok : ∀ W, Below w.heap.size w W → b.Ok W := fun W hb => ⟨(h.ch.below hb (Nat.le_refl _)).more hb.size, (h.ri.below hb (Nat.le_refl _)).more hb.size, h.nm, h.cl, h.cs, h.bs, h.ss, h.ks, h.ts, h.rl⟩
  have Hok := Lib.hid hok
  have hb0 : Hid (Below w.heap.size w (w.alloc (.cells #[.string b.m.name, .int .i64 b.m.stage, .slice b.m.A b.m.x.length b.m.c, .string b.bob, .string b.sing, .int .i64 b.step, .string b.call, .string b.tru, .slice b.RA b.rx.length b.rc] 65))) := Lib.hid ((Below.refl _ _).alloc (Nat.le_refl _) _)
  clear hok h hp
  go_enter Tryd.func31, Tryd.ntmps31
  go_wp2_with (go_at_call 80; go_loud (refine (calls_bool (l24Good_any b _ (Hok.out _ hb0.out)) e1).mono ?_; rintro e w1 ⟨rfl, hb1⟩; have hbw := hb0.out.trans (hb1.mono hb0.out.size)))
  go_ret2
  exact ⟨rfl, hbw⟩
set_option maxHeartbeats 1600000 in
theorem iRowOfBand_t (b : Bnd) (w : World) (h : b.Ok w) (hp : bandP b) (htab : Tab w) :
    Calls Tryd.prog 33 #[.agg #[.string b.m.name, .int .i64 b.m.stage, .slice b.m.A b.m.x.length b.m.c, .string b.bob, .string b.sing, .int .i64 b.step, .string b.call, .string b.tru, .slice b.RA b.rx.length b.rc]] w fun e w' => e = .returned (.tuple #[.string (rbO b.rx b.rx.length), .bool true]) ∧ Below w.heap.size w w' := by
  have e1 := B_t hp
  have hok : ∀ W, Below w.heap.size w W → b.Ok W := fun W hb => ⟨(h.ch.below hb (Nat.le_refl _)).more hb.size, (h.ri.below hb (Nat.le_refl _)).more hb.size, h.nm, h.cl, h.cs, h.bs, h.ss, h.ks, h.ts, h.rl⟩
  have Hok := Lib.hid hok
  have HP := Lib.hid hp
  have HT := Lib.hid htab
  have hb0 : Hid (Below w.heap.size w (w.alloc (.cells #[.string b.m.name, .int .i64 b.m.stage, .slice b.m.A b.m.x.length b.m.c, .string b.bob, .string b.sing, .int .i64 b.step, .string b.call, .string b.tru, .slice b.RA b.rx.length b.rc] 65))) := Lib.hid ((Below.refl _ _).alloc (Nat.le_refl _) _)
  have hs0 : w.heap.size < ((w.alloc (.cells #[.string b.m.name, .int .i64 b.m.stage, .slice b.m.A b.m.x.length b.m.c, .string b.bob, .string b.sing, .int .i64 b.step, .string b.call, .string b.tru, .slice b.RA b.rx.length b.rc] 65))).heap.size := by simp
  clear hok h hp htab
  go_enter Tryd.func33, Tryd.ntmps33
  go_wp2_with (first
    | (go_at_call 83; refine (calls_bool (iBand_any b _ (Hok.out _ hb0.out)) e1).mono ?_; rintro e w1 ⟨rfl, hb1⟩; have hbw := hb0.out.trans (hb1.mono hb0.out.size); have q0 := (hb1.cell (p := ⟨w.heap.size, 0, none⟩) (by simp)).trans (show _ = some _ from by simp [go_sem]; rfl); have q1 := (hb1.cell (p := ⟨w.heap.size, 1, none⟩) (by simp)).trans (show _ = some _ from by simp [go_sem]; rfl); have q2 := (hb1.cell (p := ⟨w.heap.size, 2, none⟩) (by simp)).trans (show _ = some _ from by simp [go_sem]; rfl); have q3 := (hb1.cell (p := ⟨w.heap.size, 3, none⟩) (by simp)).trans (show _ = some _ from by simp [go_sem]; rfl); have q4 := (hb1.cell (p := ⟨w.heap.size, 4, none⟩) (by simp)).trans (show _ = some _ from by simp [go_sem]; rfl); have q5 := (hb1.cell (p := ⟨w.heap.size, 5, none⟩) (by simp)).trans (show _ = some _ from by simp [go_sem]; rfl); have q6 := (hb1.cell (p := ⟨w.heap.size, 6, none⟩) (by simp)).trans (show _ = some _ from by simp [go_sem]; rfl); have q7 := (hb1.cell (p := ⟨w.heap.size, 7, none⟩) (by simp)).trans (show _ = some _ from by simp [go_sem]; rfl); have q8 := (hb1.cell (p := ⟨w.heap.size, 8, none⟩) (by simp)).trans (show _ = some _ from by simp [go_sem]; rfl))
    | (go_at_call 84; refine (rowOfBand_any b w1 (Hok.out _ hbw) HP.out (HT.out.later hbw)).mono ?_; rintro e w2 ⟨rfl, hb2⟩))
  go_ret2
  exact ⟨rfl, hbw.trans (hb2.mono hbw.size)⟩
theorem iRowOfBand_f (b : Bnd) (w : World) (h : b.Ok w) (hp : ¬ bandP b) :
    Calls Tryd.prog 33 #[.agg #[.string b.m.name, .int .i64 b.m.stage, .slice b.m.A b.m.x.length b.m.c, .string b.bob, .string b.sing, .int .i64 b.step, .string b.call, .string b.tru, .slice b.RA b.rx.length b.rc]] w fun e w' => e = .returned (.tuple #[.string ⟨#[]⟩, .bool false]) ∧ Below w.heap.size w w' := by
  have e1 := B_f hp
  have hok : ∀ W, Below w.heap.size w W → b.Ok W := fun W hb => ⟨(h.ch.below hb (Nat.le_refl _)).more hb.size, (h.ri.below hb (Nat.le_refl _)).more hb.size, h.nm, h.cl, h.cs, h.bs, h.ss, h.ks, h.ts, h.rl⟩
  have Hok := Lib.hid hok
  have hb0 : Hid (Below w.heap.size w (w.alloc (.cells #[.string b.m.name, .int .i64 b.m.stage, .slice b.m.A b.m.x.length b.m.c, .string b.bob, .string b.sing, .int .i64 b.step, .string b.call, .string b.tru, .slice b.RA b.rx.length b.rc] 65))) := Lib.hid ((Below.refl _ _).alloc (Nat.le_refl _) _)
  clear hok h hp
  go_enter Tryd.func33, Tryd.ntmps33
  go_wp2_with (go_at_call 83; go_loud (refine (calls_bool (iBand_any b _ (Hok.out _ hb0.out)) e1).mono ?_; rintro e w1 ⟨rfl, hb1⟩; have hbw := hb0.out.trans (hb1.mono hb0.out.size)))
  go_ret2
  exact ⟨rfl, hbw⟩
end Go.Proofs.YtpedfjcidbopiaaDoor
