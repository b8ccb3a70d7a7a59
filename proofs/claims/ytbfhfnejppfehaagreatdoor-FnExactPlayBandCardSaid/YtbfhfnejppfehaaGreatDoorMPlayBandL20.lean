import Derived.Test.YtbfhfnejppfehaaGreatDoorMPlayBandL00
import Derived.Test.YtbfhfnejppfehaaGreatDoorMPlayBandL19
import Derived.Test.YtbfhfnejppfehaaGreatDoorShelf
import Derived.Test.YtbfhfnejppfehaaGreatDoorRows
import Derived.Lib.LaidTab
import Derived.Deep.CutRange
import Derived.Lib.ItoaNum
import Derived.Shelf.Strconv.Itoa3
import Derived.Test.YtbfhfnejppfehaaGreatDoorMPlayBandL01
import Derived.Test.YtbfhfnejppfehaaGreatDoorCards
import Derived.Test.YtbfhfnejppfehaaGreatDoorTie
import Derived.ProofKit
import Derived.LaidMore
import Derived.OpenShut
import Derived.Stop.Joined
import Derived.Stop.LaidErr
import Derived.MakeChecks
import Derived.SevenTiedAt
import Derived.Test.YtbfhfnejppfehaaGreatDoorMPlayBandL07
import Derived.Test.YtbfhfnejppfehaaGreatDoorMPlayBandL08
/-
  Decimal numbers: contracts of both sides (the library's Itoa by the shelf).
-/
namespace Go.Proofs.YtbfhfnejppfehaaGreatDoor
open Go.RowKit
set_option linter.unusedVariables false
set_option linter.unusedSimpArgs false
set_option maxRecDepth 100000

/-- The library's table of powers lies as its text lays it. -/
def Tab (w : World) : Prop := Lib.TabIs Tryz.prog w "internal/strconv.uint64pow10" .u64 Lib.pow10Tab
theorem Tab.later {w w' : World} (h : Tab w) (hb : Below w.heap.size w w') : Tab w' := by
  unfold Tab Lib.TabIs World.var? at *
  cases hg : (Tryz.prog).globalNamed "internal/strconv.uint64pow10" with
  | none => rw [hg] at h; simp at h
  | some g =>
    rw [hg] at h
    simp only [Option.bind_some] at h ⊢
    have hlt : g < w.heap.size := by
      rcases Nat.lt_or_ge g w.heap.size with x | x
      · exact x
      · rw [Array.getElem?_eq_none x] at h; simp at h
    rw [hb.block g hlt]; exact h
/-- A number in decimal. -/
def numS (n : Nat) : ByteArray := ⟨(Lib.decDigits n).toArray⟩
theorem numS_small {n : Nat} (h : n < 10) : numS n = ⟨#[UInt8.ofNat (48 + n)]⟩ := by unfold numS; rw [Lib.decDigits_one h]
theorem numS_big {n : Nat} (h : ¬ n < 10) : numS n = numS (n / 10) ++ ⟨#[UInt8.ofNat (48 + n % 10)]⟩ := by
  unfold numS
  rw [Lib.decDigits, dif_neg h]
  apply ByteArray.ext
  simp [ByteArray.data_append]
theorem numS_size (n : Nat) : (numS n).size = Lib.nDigits n := by
  unfold numS
  have := Lib.decDigits_length n
  simpa [ByteArray.size] using this
theorem nDigits_le : ∀ (k n : Nat), n < 10 ^ k → Lib.nDigits n ≤ k + 1
  | 0, n, h => by
    have : n = 0 := by simpa using h
    subst this; unfold Lib.nDigits; rw [dif_pos (by omega)]; omega
  | k + 1, n, h => by
    unfold Lib.nDigits
    split
    · omega
    · have := nDigits_le k (n / 10) (by rw [Nat.pow_succ] at h; omega)
      omega
theorem numS_bd {n : Nat} (h : n < 1000000000) : (numS n).size ≤ 10 := by rw [numS_size]; exact nDigits_le 9 n h
theorem mkS_dig (d : Nat) (h : d < 10) : mkS [48 + (d : Int)] = ⟨#[UInt8.ofNat (48 + d)]⟩ := by
  unfold mkS
  have : ((48 : Int) + (d : Int)).toNat = 48 + d := by omega
  simp [this]
theorem decimal_any (n : Nat) (w : World) (h : n ≤ 1000000000000) (ht : Tab w) : Calls Tryz.prog 98 #[.int .i64 (n : Int)] w fun e w' => e = .returned (.string (numS n)) ∧ Below w.heap.size w w' := by
  have hcon := Tryz.strconv_Itoa (n : Int) (by omega) (by omega) w ht
  have he : Lib.itoa (n : Int) = Lib.decDigits n := by unfold Lib.itoa; rw [if_neg (by omega)]; simp
  rw [he] at hcon
  change Calls Tryz.prog 169 _ _ _ at hcon
  have Hcon := Lib.hid hcon
  clear hcon ht he
  go_enter Tryz.func98, Tryz.ntmps98
  go_wp2_with (go_at_call 169; refine Hcon.out.mono ?_; rintro e w' ⟨rfl, k, os, rfl⟩)
  go_ret
  refine ⟨rfl, ⟨rfl, rfl, rfl, ?_, fun i hi => ?_⟩⟩
  · show w.heap.size ≤ (Sort.grow (w.drewN k) os).heap.size
    unfold Sort.grow; simp
  · show (Sort.grow (w.drewN k) os).heap[i]? = w.heap[i]?
    unfold Sort.grow
    rw [Array.getElem?_append_left (by simpa using hi)]; rfl
theorem l1Num_any : ∀ (f n : Nat) (w : World), n ≤ f → n ≤ 1000000000000 → Calls Tryz.prog 100 #[.int .i64 (n : Int)] w fun e w' => e = .returned (.string (numS n)) ∧ Below w.heap.size w w' := by
  intro f
  induction f with
  | zero =>
    intro n w h h9
    obtain rfl : n = 0 := by omega
    have e := Lib.hid (numS_small (n := 0) (by omega))
    go_enter Tryz.func100, Tryz.ntmps100
    go_wp2
    go_ret
    exact ⟨ret_str (by rw [e.out]; rfl), (Below.refl _ _).alloc (Nat.le_refl _) _⟩
  | succ f ih =>
    intro n w h h9
    by_cases hs : n < 10
    · have e := Lib.hid (numS_small hs)
      have e2 := Lib.hid (mkS_dig n hs)
      go_enter Tryz.func100, Tryz.ntmps100
      go_wp2
      go_ret
      exact ⟨ret_str (by rw [e.out, ← e2.out]), (Below.refl _ _).alloc (Nat.le_refl _) _⟩
    · have e := Lib.hid (numS_big hs)
      have e2 := Lib.hid (mkS_dig (n % 10) (by omega))
      have hih : Hid (∀ W, Calls Tryz.prog 100 #[.int .i64 ((n : Int) / 10)] W fun e w' => ∃ v, e = .returned v ∧ (v = .string (numS (n / 10)) ∧ Below W.heap.size W w')) := Lib.hid (fun W => by have := ih (n / 10) W (by omega) (by omega); rw [show ((n / 10 : Nat) : Int) = (n : Int) / 10 by omega] at this; exact this.mono fun e w' h => ⟨_, h.1, rfl, h.2⟩)
      have hsz : (numS (n / 10)).size ≤ 20 := by rw [numS_size]; exact Nat.le_trans (nDigits_le 12 _ (by omega)) (by omega)
      have hsz2 : (mkS [48 + (n : Int) % 10]).size ≤ 1 := by simp [mkS, ByteArray.size]
      have e3 : Hid (numS (n / 10) ++ mkS [48 + (n : Int) % 10] = numS n) := Lib.hid (by rw [e.out, ← e2.out, show ((n % 10 : Nat) : Int) = (n : Int) % 10 by omega])
      have hsum : ¬ 9223372036854775807 < (numS (n / 10)).size + (mkS [48 + (n : Int) % 10]).size := by omega
      have a1 : IntKind.i64.wrap ((n : Int) / 10) = (n : Int) / 10 := IntWalk.i64_in _ (by omega)
      have a2 : (n : Int).tmod 10 = (n : Int) % 10 := Int.tmod_eq_emod_of_nonneg (by omega)
      have a3 : IntKind.i64.wrap (48 + (n : Int) % 10) = 48 + (n : Int) % 10 := IntWalk.i64_in _ (by omega)
      have a4 : IntKind.u8.wrap (48 + (n : Int) % 10) = 48 + (n : Int) % 10 := IntWalk.u8_in _ (by omega)
      clear ih
      go_enter Tryz.func100, Tryz.ntmps100
      have hc1 : (convert 22 9 (.slice (some ⟨w.heap.size, 0, none⟩) 1 1)).run Tryz.prog (w.alloc (.cells #[.int .u8 (48 + (n : Int) % 10)] 5)).drew = .ok (.string (mkS [48 + (n : Int) % 10])) (w.alloc (.cells #[.int .u8 (48 + (n : Int) % 10)] 5)).drew := run_convert_bytes_arg (P := Tryz.prog) _ 22 5 (by rfl) (by rfl) w.heap.size 0 1 1 [48 + (n : Int) % 10] rfl (fun i hi => by
        obtain rfl : i = 0 := by simp at hi; omega
        show (w.alloc (.cells #[.int .u8 (48 + (n : Int) % 10)] 5)).cell? _ = _
        rw [World.cell?_alloc_new]; rfl) 9 (by rfl)
      go_upto_region 3 with fail
      go_region_law (refine step_callsX (by rfl) 100 (by rfl) #[.int .i64 ((n : Int) / 10)] (by go_simp) (hih.out _) ?_; rintro v w2 ⟨rfl, hb2⟩; (first | (have hq : (convert 22 9 (.slice (some ⟨w.heap.size, 0, none⟩) 1 1)).run Tryz.prog w2 = .ok (.string (mkS [48 + (n : Int) % 10])) w2 := run_convert_bytes_arg (P := Tryz.prog) w2 22 5 (by rfl) (by rfl) w.heap.size 0 1 1 [48 + (n : Int) % 10] rfl (fun i hi => by obtain rfl : i = 0 := (by simp at hi; omega); refine (hb2.cell (p := ⟨w.heap.size, 0 + 0, none⟩) (by simp)).trans ?_; first | (show (w.alloc (.cells #[.int .u8 (48 + (n : Int) % 10)] 5)).cell? _ = _; rw [World.cell?_alloc_new]; rfl) | (show (w.drew.alloc (.cells #[.int .u8 (48 + (n : Int) % 10)] 5)).cell? _ = _; rw [World.cell?_alloc_new]; rfl)) 9 (by rfl)) | (have hq := True.intro)))
      all_goals
        go_wp2
        go_ret
        refine ⟨ret_str e3.out, ?_⟩
        first
          | exact ((Below.refl _ _).drew.trans hb2).alloc (by have := hb2.size; simpa using this) _
          | exact (((Below.refl _ w).alloc (Nat.le_refl _) _).drew).trans (hb2.mono (by simp))
          | exact ((Below.refl _ w).drew.alloc (Nat.le_refl _) _).trans (hb2.mono (by simp))
end Go.Proofs.YtbfhfnejppfehaaGreatDoor

/-
  What a tied card wants beyond a plain row: the library's table of powers out of the row's condition.
-/
namespace Go.Proofs.YtbfhfnejppfehaaGreatDoor
open Go.RowKit
set_option linter.unusedVariables false
set_option linter.unusedSimpArgs false
set_option maxRecDepth 100000

theorem tab_data : (Rows.laid_internal_strconv_uint64pow10 : DataW Unit) = Lib.tabData .u64 Lib.pow10Tab := by kernel_rfl
theorem tab_of {x y : String × DataW Unit} {r : List (String × DataW Unit)} {W : World} (h : laidMet Tryz.prog (x :: y :: ("internal/strconv.uint64pow10", Rows.laid_internal_strconv_uint64pow10) :: r) W) : Tab W := by
  have h1 := h.tail.tail
  rw [tab_data] at h1
  exact Lib.tabIs_of_head (g := 1) (t := 216) (e := 97) (n := 20) (by kernel_rfl) (by kernel_rfl) (by rfl) (by rfl) (by kernel_rfl) (by kernel_rfl) h1
end Go.Proofs.YtbfhfnejppfehaaGreatDoor

/-
  The row of a band: contracts of both sides.
-/
namespace Go.Proofs.YtbfhfnejppfehaaGreatDoor
open Go.RowKit
set_option linter.unusedVariables false
set_option linter.unusedSimpArgs false
set_option maxRecDepth 100000

/-- Behind s the bells, up to the first k, whose ringers stand at p. -/
def rbI (l : List Rgr) (p : Int) (s : ByteArray) : Nat → ByteArray
  | 0 => s
  | k + 1 => match l[k]? with
    | some r => if r.place = p then rbI l p s k ++ numS (k + 1) else rbI l p s k
    | none => rbI l p s k
theorem rbI_y {l : List Rgr} {p : Int} {s : ByteArray} {k : Nat} (hk : k < l.length) (h : l[k].place = p) : rbI l p s (k + 1) = rbI l p s k ++ numS (k + 1) := by
  simp only [rbI, List.getElem?_eq_getElem hk]; rw [if_pos h]
theorem rbI_n {l : List Rgr} {p : Int} {s : ByteArray} {k : Nat} (hk : k < l.length) (h : ¬ l[k].place = p) : rbI l p s (k + 1) = rbI l p s k := by
  simp only [rbI, List.getElem?_eq_getElem hk]; rw [if_neg h]
/-- The bells by places. -/
def rbO (l : List Rgr) : Nat → ByteArray
  | 0 => ⟨#[]⟩
  | p + 1 => rbI l ((p : Int) + 1) (rbO l p) l.length



set_option maxHeartbeats 3200000 in
theorem l24Row_anyR (b : Bnd) (w : World) (hri : RdL w w.heap.size b.RA 2 Rgr.enc b.rx) (hp : bandP b) (htab : Tab w) :
    Calls Tryz.prog 134 #[.agg #[.string b.m.name, .int .i64 b.m.stage, .slice b.m.A b.m.x.length b.m.c, .string b.bob, .string b.sing, .int .i64 b.step, .string b.call, .string b.tru, .slice b.RA b.rx.length b.rc]] w fun e w' => e = .returned (.string (rbO b.rx b.rx.length)) ∧ Below w.heap.size w w' := by
  have hst : (b.rx.length : Int) = b.m.stage := hp.2.2.2.2.1
  have h3 : 0 < b.rx.length := by have := hp.2.2.2.2.1; have := hp.2.2.2.1.1; have := hp.2.2.2.1.2.1; omega
  have hrl : b.rx.length ≤ 8 := by have := hp.2.2.2.2.1; have := hp.2.2.2.1.1; have := hp.2.2.2.1.2.2.1; have := hp.2.2.2.1.2; have h8 := hp.2.2.2.1.2.2; have h9 := hp.2.2.2.1.2.1; omega
  have Hr := Lib.hid hri
  have HT := Lib.hid htab
  obtain ⟨g, off, hA, hg, _⟩ := Hr.out.at h3
  have HA := Lib.hid hA
  clear hri hp htab hA
  obtain ⟨W0, hW0, hb0, a1, a8, hs0⟩ : ∃ W0 : World, Hid ((w.alloc (.cells #[.string b.m.name, .int .i64 b.m.stage, .slice b.m.A b.m.x.length b.m.c, .string b.bob, .string b.sing, .int .i64 b.step, .string b.call, .string b.tru, .slice b.RA b.rx.length b.rc] 36)) = W0) ∧ Hid (Below w.heap.size w W0) ∧ Hid (W0.cell? ⟨w.heap.size, 1, none⟩ = some (.int .i64 b.m.stage)) ∧ Hid (W0.cell? ⟨w.heap.size, 8, none⟩ = some (.slice b.RA b.rx.length b.rc)) ∧ w.heap.size < W0.heap.size :=
    ⟨_, Lib.hid rfl, Lib.hid ((Below.refl _ _).alloc (Nat.le_refl _) _), Lib.hid (by simp [go_sem]), Lib.hid (by simp [go_sem]), by simp⟩
  have Hst := Lib.hid hst
  clear hst
  go_enter Tryz.func134, Tryz.ntmps134
  go_upto_region 3 with fail
  rw [hW0.out, HA.out]
  rw [← Hst.out] at a1
  rw [HA.out] at a8
  have hA := HA.out
  clear hW0
  obtain ⟨n, hn⟩ : ∃ n, Hid (b.rx.length = n) := ⟨_, Lib.hid rfl⟩
  obtain ⟨RX, hRX⟩ : ∃ RX, Hid (b.rx = RX) := ⟨_, Lib.hid rfl⟩
  rw [hRX.out] at Hr hn ⊢
  rw [hRX.out] at a8 a1 h3 hrl
  rw [hn.out] at a8 a1 h3 hrl ⊢
  go_loopw [3, 4] (fun v i wr => ∃ (p : Nat) (S : ByteArray), p ≤ n ∧ i = .int .i64 ((p : Int) + 1) ∧ v = .string S ∧ Hid (S = rbO RX p) ∧ S.size ≤ 80 * p ∧ Below W0.heap.size W0 wr) (fun _ i _ => n + 1 - (intOf i).toNat)
  case atStart => exact ⟨0, _, by omega, by rfl, rfl, Lib.hid rfl, by decide, Below.refl _ _⟩
  case round =>
    obtain ⟨p, S, hp, rfl, rfl, hS, hsz, hbl⟩ := hrel
    have Hbl := Lib.hid hbl
    have hz0 := hbl.size
    have s1 := (Hbl.out.cell (p := ⟨w.heap.size, 1, none⟩) hs0).trans a1.out
    have s8 := (Hbl.out.cell (p := ⟨w.heap.size, 8, none⟩) hs0).trans a8.out
    clear hbl
    have w1 : IntKind.i64.wrap ((p : Int) + 1) = (p : Int) + 1 := IntWalk.i64_in _ (by omega)
    by_cases hlt : p < n
    · have d1 : decide ((p : Int) + 1 ≤ (n : Int)) = true := by simp; omega
      go_upto_region 6 with fail
      clear s1 s8
      obtain ⟨wo, rfl⟩ : ∃ wo, wo = wr := ⟨wr, rfl⟩
      go_loopw [3, 17] (fun v i wr => ∃ (k : Nat) (T : ByteArray), k ≤ n ∧ i = .int .i64 (k : Int) ∧ v = .string T ∧ Hid (T = rbI RX ((p : Int) + 1) S k) ∧ T.size ≤ 80 * p + 10 * k ∧ Below W0.heap.size W0 wr) (fun _ i _ => n - (intOf i).toNat)
      case atStart => exact ⟨0, S, by omega, by rfl, rfl, Lib.hid rfl, by omega, Hbl.out⟩
      case round =>
        obtain ⟨k, T, hk, rfl, rfl, hT2, hsz2, hbl2⟩ := hrel
        have Hb2 := Lib.hid hbl2
        have hz2 := hbl2.size
        have hbw : Hid (Below w.heap.size w wr) := Lib.hid (hb0.out.trans (hbl2.mono hb0.out.size))
        clear hbl2
        by_cases hlk : k < n
        · have hlR : k < RX.length := by have := hn.out; omega
          obtain ⟨g', off', hA', hg', hcell⟩ := Hr.out.at hlR
          rw [hA] at hA'
          simp only [Option.some.injEq, Addr.mk.injEq, and_true] at hA'
          obtain ⟨rfl, rfl⟩ := hA'
          have r0 := (hbw.out.cell (p := ⟨g, off + k * 2, none⟩) hg).trans (hcell 0 _ rfl)
          have r1 := (hbw.out.cell (p := ⟨g, off + k * 2 + 1, none⟩) hg).trans (hcell 1 _ rfl)
          have hy : Hid (RX[k].place = (p : Int) + 1 → rbI RX ((p : Int) + 1) S (k + 1) = rbI RX ((p : Int) + 1) S k ++ numS (k + 1)) := Lib.hid (rbI_y hlR)
          have hno : Hid (¬ RX[k].place = (p : Int) + 1 → rbI RX ((p : Int) + 1) S (k + 1) = rbI RX ((p : Int) + 1) S k) := Lib.hid (rbI_n hlR)
          obtain ⟨x, hx⟩ : ∃ x, Hid (RX[k] = x) := ⟨_, Lib.hid rfl⟩
          rw [hx.out] at r0 r1 hy hno
          clear hcell
          have w2 : IntKind.i64.wrap ((k : Int) + 1) = (k : Int) + 1 := IntWalk.i64_in _ (by omega)
          by_cases hc : x.place = (p : Int) + 1
          · have Hy := Lib.hid (hy.out hc)
            have e5 : (x.place == (p : Int) + 1) = true := by simpa using hc
            obtain ⟨NU, hNU⟩ : ∃ x, Hid (numS (k + 1) = x) := ⟨_, Lib.hid rfl⟩
            have hn10 : NU.size ≤ 10 := by rw [← hNU.out]; exact numS_bd (by omega)
            rw [hNU.out] at Hy
            have Hnum : Hid (∀ W, Below w.heap.size w W → Calls Tryz.prog 100 #[.int .i64 ((k : Int) + 1)] W fun e w' => e = .returned (.string NU) ∧ Below W.heap.size W w') := Lib.hid fun W hb => by
              have := l1Num_any (k + 1) (k + 1) W (Nat.le_refl _) (by omega)
              rw [hNU.out, show ((k + 1 : Nat) : Int) = (k : Int) + 1 by omega] at this; exact this
            have k1 : ¬ 9223372036854775807 < T.size + NU.size := by omega
            clear hc hy hno
            go_wp2_with (go_at_call 100; refine (Hnum.out _ (hbw.out.alloc hbw.out.size _)).mono ?_; rintro e w5 ⟨rfl, hb5⟩; have HB5 := Lib.hid ((Hb2.out.alloc hz2 _).trans (hb5.mono (by simp; omega))); clear hb5)
            go_roundw
            case rel => exact ⟨k + 1, T ++ NU, by omega, by go_num, rfl, Lib.hid (by rw [Hy.out, ← hT2.out]), by rw [ByteArray.size_append]; omega, HB5.out⟩
            case measure => simp [intOf]; omega
          · have Hy := Lib.hid (hno.out hc)
            have e5 : (x.place == (p : Int) + 1) = false := by simpa using hc
            clear hc hy hno
            go_wp2
            go_roundw
            case rel => exact ⟨k + 1, T, by omega, by go_num, rfl, Lib.hid (by rw [Hy.out, ← hT2.out]), by omega, Hb2.out.alloc hz2 _⟩
            case measure => simp [intOf]; omega
        · obtain rfl : k = n := by omega
          have Hy : Hid (rbO RX (p + 1) = rbI RX ((p : Int) + 1) S k) := Lib.hid (by simp only [rbO]; rw [hS.out, hn.out])
          go_wp2
          go_roundw
          case rel => exact ⟨p + 1, T, by omega, by go_num, rfl, Lib.hid (by rw [Hy.out, ← hT2.out]), by omega, Hb2.out⟩
          case measure => simp [intOf]; omega
    · obtain rfl : p = n := by omega
      have d1 : decide ((p : Int) + 1 ≤ (p : Int)) = false := by simp; omega
      go_wp2
      go_ret
      have e9 := hS.out
      subst e9
      exact ⟨by rw [hRX.out, hn.out]; rfl, hb0.out.trans (Hbl.out.mono hb0.out.size)⟩
set_option maxHeartbeats 3200000 in
theorem rowOfBand_anyR (b : Bnd) (w : World) (hri : RdL w w.heap.size b.RA 2 Rgr.enc b.rx) (hp : bandP b) (htab : Tab w) :
    Calls Tryz.prog 133 #[.agg #[.string b.m.name, .int .i64 b.m.stage, .slice b.m.A b.m.x.length b.m.c, .string b.bob, .string b.sing, .int .i64 b.step, .string b.call, .string b.tru, .slice b.RA b.rx.length b.rc]] w fun e w' => e = .returned (.string (rbO b.rx b.rx.length)) ∧ Below w.heap.size w w' := by
  have hst : (b.rx.length : Int) = b.m.stage := hp.2.2.2.2.1
  have h3 : 0 < b.rx.length := by have := hp.2.2.2.2.1; have := hp.2.2.2.1.1; have := hp.2.2.2.1.2.1; omega
  have hrl : b.rx.length ≤ 8 := by have := hp.2.2.2.2.1; have := hp.2.2.2.1.1; have := hp.2.2.2.1.2.2.1; have := hp.2.2.2.1.2; have h8 := hp.2.2.2.1.2.2; have h9 := hp.2.2.2.1.2.1; omega
  have Hr := Lib.hid hri
  have HT := Lib.hid htab
  obtain ⟨g, off, hA, hg, _⟩ := Hr.out.at h3
  have HA := Lib.hid hA
  clear hri hp htab hA
  obtain ⟨W0, hW0, hb0, a1, a8, hs0⟩ : ∃ W0 : World, Hid ((w.alloc (.cells #[.string b.m.name, .int .i64 b.m.stage, .slice b.m.A b.m.x.length b.m.c, .string b.bob, .string b.sing, .int .i64 b.step, .string b.call, .string b.tru, .slice b.RA b.rx.length b.rc] 36)) = W0) ∧ Hid (Below w.heap.size w W0) ∧ Hid (W0.cell? ⟨w.heap.size, 1, none⟩ = some (.int .i64 b.m.stage)) ∧ Hid (W0.cell? ⟨w.heap.size, 8, none⟩ = some (.slice b.RA b.rx.length b.rc)) ∧ w.heap.size < W0.heap.size :=
    ⟨_, Lib.hid rfl, Lib.hid ((Below.refl _ _).alloc (Nat.le_refl _) _), Lib.hid (by simp [go_sem]), Lib.hid (by simp [go_sem]), by simp⟩
  have Hst := Lib.hid hst
  clear hst
  go_enter Tryz.func133, Tryz.ntmps133
  go_upto_region 3 with fail
  rw [hW0.out, HA.out]
  rw [← Hst.out] at a1
  rw [HA.out] at a8
  have hA := HA.out
  clear hW0
  obtain ⟨n, hn⟩ : ∃ n, Hid (b.rx.length = n) := ⟨_, Lib.hid rfl⟩
  obtain ⟨RX, hRX⟩ : ∃ RX, Hid (b.rx = RX) := ⟨_, Lib.hid rfl⟩
  rw [hRX.out] at Hr hn ⊢
  rw [hRX.out] at a8 a1 h3 hrl
  rw [hn.out] at a8 a1 h3 hrl ⊢
  go_loopw [3, 4] (fun v i wr => ∃ (p : Nat) (S : ByteArray), p ≤ n ∧ i = .int .i64 ((p : Int) + 1) ∧ v = .string S ∧ Hid (S = rbO RX p) ∧ S.size ≤ 80 * p ∧ Below W0.heap.size W0 wr) (fun _ i _ => n + 1 - (intOf i).toNat)
  case atStart => exact ⟨0, _, by omega, by rfl, rfl, Lib.hid rfl, by decide, Below.refl _ _⟩
  case round =>
    obtain ⟨p, S, hp, rfl, rfl, hS, hsz, hbl⟩ := hrel
    have Hbl := Lib.hid hbl
    have hz0 := hbl.size
    have s1 := (Hbl.out.cell (p := ⟨w.heap.size, 1, none⟩) hs0).trans a1.out
    have s8 := (Hbl.out.cell (p := ⟨w.heap.size, 8, none⟩) hs0).trans a8.out
    clear hbl
    have w1 : IntKind.i64.wrap ((p : Int) + 1) = (p : Int) + 1 := IntWalk.i64_in _ (by omega)
    by_cases hlt : p < n
    · have d1 : decide ((p : Int) + 1 ≤ (n : Int)) = true := by simp; omega
      go_upto_region 6 with fail
      clear s1 s8
      obtain ⟨wo, rfl⟩ : ∃ wo, wo = wr := ⟨wr, rfl⟩
      go_loopw [3, 17] (fun v i wr => ∃ (k : Nat) (T : ByteArray), k ≤ n ∧ i = .int .i64 (k : Int) ∧ v = .string T ∧ Hid (T = rbI RX ((p : Int) + 1) S k) ∧ T.size ≤ 80 * p + 10 * k ∧ Below W0.heap.size W0 wr) (fun _ i _ => n - (intOf i).toNat)
      case atStart => exact ⟨0, S, by omega, by rfl, rfl, Lib.hid rfl, by omega, Hbl.out⟩
      case round =>
        obtain ⟨k, T, hk, rfl, rfl, hT2, hsz2, hbl2⟩ := hrel
        have Hb2 := Lib.hid hbl2
        have hz2 := hbl2.size
        have hbw : Hid (Below w.heap.size w wr) := Lib.hid (hb0.out.trans (hbl2.mono hb0.out.size))
        clear hbl2
        by_cases hlk : k < n
        · have hlR : k < RX.length := by have := hn.out; omega
          obtain ⟨g', off', hA', hg', hcell⟩ := Hr.out.at hlR
          rw [hA] at hA'
          simp only [Option.some.injEq, Addr.mk.injEq, and_true] at hA'
          obtain ⟨rfl, rfl⟩ := hA'
          have r0 := (hbw.out.cell (p := ⟨g, off + k * 2, none⟩) hg).trans (hcell 0 _ rfl)
          have r1 := (hbw.out.cell (p := ⟨g, off + k * 2 + 1, none⟩) hg).trans (hcell 1 _ rfl)
          have hy : Hid (RX[k].place = (p : Int) + 1 → rbI RX ((p : Int) + 1) S (k + 1) = rbI RX ((p : Int) + 1) S k ++ numS (k + 1)) := Lib.hid (rbI_y hlR)
          have hno : Hid (¬ RX[k].place = (p : Int) + 1 → rbI RX ((p : Int) + 1) S (k + 1) = rbI RX ((p : Int) + 1) S k) := Lib.hid (rbI_n hlR)
          obtain ⟨x, hx⟩ : ∃ x, Hid (RX[k] = x) := ⟨_, Lib.hid rfl⟩
          rw [hx.out] at r0 r1 hy hno
          clear hcell
          have w2 : IntKind.i64.wrap ((k : Int) + 1) = (k : Int) + 1 := IntWalk.i64_in _ (by omega)
          by_cases hc : x.place = (p : Int) + 1
          · have Hy := Lib.hid (hy.out hc)
            have e5 : (x.place == (p : Int) + 1) = true := by simpa using hc
            obtain ⟨NU, hNU⟩ : ∃ x, Hid (numS (k + 1) = x) := ⟨_, Lib.hid rfl⟩
            have hn10 : NU.size ≤ 10 := by rw [← hNU.out]; exact numS_bd (by omega)
            rw [hNU.out] at Hy
            have Hnum : Hid (∀ W, Below w.heap.size w W → Calls Tryz.prog 98 #[.int .i64 ((k : Int) + 1)] W fun e w' => e = .returned (.string NU) ∧ Below W.heap.size W w') := Lib.hid fun W hb => by
              have := decimal_any (k + 1) W (by omega) (HT.out.later hb)
              rw [hNU.out, show ((k + 1 : Nat) : Int) = (k : Int) + 1 by omega] at this; exact this
            have k1 : ¬ 9223372036854775807 < T.size + NU.size := by omega
            clear hc hy hno
            go_wp2_with (go_at_call 98; refine (Hnum.out _ (hbw.out.alloc hbw.out.size _)).mono ?_; rintro e w5 ⟨rfl, hb5⟩; have HB5 := Lib.hid ((Hb2.out.alloc hz2 _).trans (hb5.mono (by simp; omega))); clear hb5)
            go_roundw
            case rel => exact ⟨k + 1, T ++ NU, by omega, by go_num, rfl, Lib.hid (by rw [Hy.out, ← hT2.out]), by rw [ByteArray.size_append]; omega, HB5.out⟩
            case measure => simp [intOf]; omega
          · have Hy := Lib.hid (hno.out hc)
            have e5 : (x.place == (p : Int) + 1) = false := by simpa using hc
            clear hc hy hno
            go_wp2
            go_roundw
            case rel => exact ⟨k + 1, T, by omega, by go_num, rfl, Lib.hid (by rw [Hy.out, ← hT2.out]), by omega, Hb2.out.alloc hz2 _⟩
            case measure => simp [intOf]; omega
        · obtain rfl : k = n := by omega
          have Hy : Hid (rbO RX (p + 1) = rbI RX ((p : Int) + 1) S k) := Lib.hid (by simp only [rbO]; rw [hS.out, hn.out])
          go_wp2
          go_roundw
          case rel => exact ⟨p + 1, T, by omega, by go_num, rfl, Lib.hid (by rw [Hy.out, ← hT2.out]), by omega, Hb2.out⟩
          case measure => simp [intOf]; omega
    · obtain rfl : p = n := by omega
      have d1 : decide ((p : Int) + 1 ≤ (p : Int)) = false := by simp; omega
      go_wp2
      go_ret
      have e9 := hS.out
      subst e9
      exact ⟨by rw [hRX.out, hn.out]; rfl, hb0.out.trans (Hbl.out.mono hb0.out.size)⟩


set_option maxHeartbeats 1600000 in
theorem sRowOfBand_t (b : Bnd) (w : World) (h : b.Ok w) (hp : bandP b) (htab : Tab w) :
    Calls Tryz.prog 63 #[.agg #[.string b.m.name, .int .i64 b.m.stage, .slice b.m.A b.m.x.length b.m.c, .string b.bob, .string b.sing, .int .i64 b.step, .string b.call, .string b.tru, .slice b.RA b.rx.length b.rc]] w fun e w' => e = .returned (.tuple #[.string (rbO b.rx b.rx.length), .bool true]) ∧ Below w.heap.size w w' := by
  have e1 := B_t hp
  have hok : ∀ W, Below w.heap.size w W → b.Ok W := fun W hb => ⟨(h.ch.below hb (Nat.le_refl _)).more hb.size, (h.ri.below hb (Nat.le_refl _)).more hb.size, h.nm, h.cl, h.cs, h.bs, h.ss, h.ks, h.ts, h.rl⟩
  have Hok := Lib.hid hok
  have HP := Lib.hid hp
  have HT := Lib.hid htab
  have hb0 : Hid (Below w.heap.size w (w.alloc (.cells #[.string b.m.name, .int .i64 b.m.stage, .slice b.m.A b.m.x.length b.m.c, .string b.bob, .string b.sing, .int .i64 b.step, .string b.call, .string b.tru, .slice b.RA b.rx.length b.rc] 36))) := Lib.hid ((Below.refl _ _).alloc (Nat.le_refl _) _)
  have hs0 : w.heap.size < ((w.alloc (.cells #[.string b.m.name, .int .i64 b.m.stage, .slice b.m.A b.m.x.length b.m.c, .string b.bob, .string b.sing, .int .i64 b.step, .string b.call, .string b.tru, .slice b.RA b.rx.length b.rc] 36))).heap.size := by simp
  clear hok h hp htab
  go_enter Tryz.func63, Tryz.ntmps63
  go_wp2_with (first
    | (go_at_call 81; refine (calls_bool (l24Good_any b _ (Hok.out _ hb0.out)) e1).mono ?_; rintro e w1 ⟨rfl, hb1⟩; have hbw := hb0.out.trans (hb1.mono hb0.out.size); have q0 := (hb1.cell (p := ⟨w.heap.size, 0, none⟩) (by simp)).trans (show _ = some _ from by simp [go_sem]; rfl); have q1 := (hb1.cell (p := ⟨w.heap.size, 1, none⟩) (by simp)).trans (show _ = some _ from by simp [go_sem]; rfl); have q2 := (hb1.cell (p := ⟨w.heap.size, 2, none⟩) (by simp)).trans (show _ = some _ from by simp [go_sem]; rfl); have q3 := (hb1.cell (p := ⟨w.heap.size, 3, none⟩) (by simp)).trans (show _ = some _ from by simp [go_sem]; rfl); have q4 := (hb1.cell (p := ⟨w.heap.size, 4, none⟩) (by simp)).trans (show _ = some _ from by simp [go_sem]; rfl); have q5 := (hb1.cell (p := ⟨w.heap.size, 5, none⟩) (by simp)).trans (show _ = some _ from by simp [go_sem]; rfl); have q6 := (hb1.cell (p := ⟨w.heap.size, 6, none⟩) (by simp)).trans (show _ = some _ from by simp [go_sem]; rfl); have q7 := (hb1.cell (p := ⟨w.heap.size, 7, none⟩) (by simp)).trans (show _ = some _ from by simp [go_sem]; rfl); have q8 := (hb1.cell (p := ⟨w.heap.size, 8, none⟩) (by simp)).trans (show _ = some _ from by simp [go_sem]; rfl))
    | (go_at_call 134; refine (l24Row_anyR b w1 (Hok.out _ hbw).ri HP.out (HT.out.later hbw)).mono ?_; rintro e w2 ⟨rfl, hb2⟩))
  go_ret2
  exact ⟨rfl, hbw.trans (hb2.mono hbw.size)⟩
theorem sRowOfBand_f (b : Bnd) (w : World) (h : b.Ok w) (hp : ¬ bandP b) :
    Calls Tryz.prog 63 #[.agg #[.string b.m.name, .int .i64 b.m.stage, .slice b.m.A b.m.x.length b.m.c, .string b.bob, .string b.sing, .int .i64 b.step, .string b.call, .string b.tru, .slice b.RA b.rx.length b.rc]] w fun e w' => e = .returned (.tuple #[.string ⟨#[]⟩, .bool false]) ∧ Below w.heap.size w w' := by
  have e1 := B_f hp
  have hok : ∀ W, Below w.heap.size w W → b.Ok W := fun W hb => ⟨(h.ch.below hb (Nat.le_refl _)).more hb.size, (h.ri.below hb (Nat.le_refl _)).more hb.size, h.nm, h.cl, h.cs, h.bs, h.ss, h.ks, h.ts, h.rl⟩
  have Hok := Lib.hid hok
  have hb0 : Hid (Below w.heap.size w (w.alloc (.cells #[.string b.m.name, .int .i64 b.m.stage, .slice b.m.A b.m.x.length b.m.c, .string b.bob, .string b.sing, .int .i64 b.step, .string b.call, .string b.tru, .slice b.RA b.rx.length b.rc] 36))) := Lib.hid ((Below.refl _ _).alloc (Nat.le_refl _) _)
  clear hok h hp
  go_enter Tryz.func63, Tryz.ntmps63
  go_wp2_with (go_at_call 81; go_loud (refine (calls_bool (l24Good_any b _ (Hok.out _ hb0.out)) e1).mono ?_; rintro e w1 ⟨rfl, hb1⟩; have hbw := hb0.out.trans (hb1.mono hb0.out.size)))
  go_ret2
  exact ⟨rfl, hbw⟩
set_option maxHeartbeats 1600000 in
theorem iRowOfBand_t (b : Bnd) (w : World) (h : b.Ok w) (hp : bandP b) (htab : Tab w) :
    Calls Tryz.prog 58 #[.agg #[.string b.m.name, .int .i64 b.m.stage, .slice b.m.A b.m.x.length b.m.c, .string b.bob, .string b.sing, .int .i64 b.step, .string b.call, .string b.tru, .slice b.RA b.rx.length b.rc]] w fun e w' => e = .returned (.tuple #[.string (rbO b.rx b.rx.length), .bool true]) ∧ Below w.heap.size w w' := by
  have e1 := B_t hp
  have hok : ∀ W, Below w.heap.size w W → b.Ok W := fun W hb => ⟨(h.ch.below hb (Nat.le_refl _)).more hb.size, (h.ri.below hb (Nat.le_refl _)).more hb.size, h.nm, h.cl, h.cs, h.bs, h.ss, h.ks, h.ts, h.rl⟩
  have Hok := Lib.hid hok
  have HP := Lib.hid hp
  have HT := Lib.hid htab
  have hb0 : Hid (Below w.heap.size w (w.alloc (.cells #[.string b.m.name, .int .i64 b.m.stage, .slice b.m.A b.m.x.length b.m.c, .string b.bob, .string b.sing, .int .i64 b.step, .string b.call, .string b.tru, .slice b.RA b.rx.length b.rc] 36))) := Lib.hid ((Below.refl _ _).alloc (Nat.le_refl _) _)
  have hs0 : w.heap.size < ((w.alloc (.cells #[.string b.m.name, .int .i64 b.m.stage, .slice b.m.A b.m.x.length b.m.c, .string b.bob, .string b.sing, .int .i64 b.step, .string b.call, .string b.tru, .slice b.RA b.rx.length b.rc] 36))).heap.size := by simp
  clear hok h hp htab
  go_enter Tryz.func58, Tryz.ntmps58
  go_wp2_with (first
    | (go_at_call 17; refine (calls_bool (iBand_any b _ (Hok.out _ hb0.out)) e1).mono ?_; rintro e w1 ⟨rfl, hb1⟩; have hbw := hb0.out.trans (hb1.mono hb0.out.size); have q0 := (hb1.cell (p := ⟨w.heap.size, 0, none⟩) (by simp)).trans (show _ = some _ from by simp [go_sem]; rfl); have q1 := (hb1.cell (p := ⟨w.heap.size, 1, none⟩) (by simp)).trans (show _ = some _ from by simp [go_sem]; rfl); have q2 := (hb1.cell (p := ⟨w.heap.size, 2, none⟩) (by simp)).trans (show _ = some _ from by simp [go_sem]; rfl); have q3 := (hb1.cell (p := ⟨w.heap.size, 3, none⟩) (by simp)).trans (show _ = some _ from by simp [go_sem]; rfl); have q4 := (hb1.cell (p := ⟨w.heap.size, 4, none⟩) (by simp)).trans (show _ = some _ from by simp [go_sem]; rfl); have q5 := (hb1.cell (p := ⟨w.heap.size, 5, none⟩) (by simp)).trans (show _ = some _ from by simp [go_sem]; rfl); have q6 := (hb1.cell (p := ⟨w.heap.size, 6, none⟩) (by simp)).trans (show _ = some _ from by simp [go_sem]; rfl); have q7 := (hb1.cell (p := ⟨w.heap.size, 7, none⟩) (by simp)).trans (show _ = some _ from by simp [go_sem]; rfl); have q8 := (hb1.cell (p := ⟨w.heap.size, 8, none⟩) (by simp)).trans (show _ = some _ from by simp [go_sem]; rfl))
    | (go_at_call 133; refine (rowOfBand_anyR b w1 (Hok.out _ hbw).ri HP.out (HT.out.later hbw)).mono ?_; rintro e w2 ⟨rfl, hb2⟩))
  go_ret2
  exact ⟨rfl, hbw.trans (hb2.mono hbw.size)⟩
theorem iRowOfBand_f (b : Bnd) (w : World) (h : b.Ok w) (hp : ¬ bandP b) :
    Calls Tryz.prog 58 #[.agg #[.string b.m.name, .int .i64 b.m.stage, .slice b.m.A b.m.x.length b.m.c, .string b.bob, .string b.sing, .int .i64 b.step, .string b.call, .string b.tru, .slice b.RA b.rx.length b.rc]] w fun e w' => e = .returned (.tuple #[.string ⟨#[]⟩, .bool false]) ∧ Below w.heap.size w w' := by
  have e1 := B_f hp
  have hok : ∀ W, Below w.heap.size w W → b.Ok W := fun W hb => ⟨(h.ch.below hb (Nat.le_refl _)).more hb.size, (h.ri.below hb (Nat.le_refl _)).more hb.size, h.nm, h.cl, h.cs, h.bs, h.ss, h.ks, h.ts, h.rl⟩
  have Hok := Lib.hid hok
  have hb0 : Hid (Below w.heap.size w (w.alloc (.cells #[.string b.m.name, .int .i64 b.m.stage, .slice b.m.A b.m.x.length b.m.c, .string b.bob, .string b.sing, .int .i64 b.step, .string b.call, .string b.tru, .slice b.RA b.rx.length b.rc] 36))) := Lib.hid ((Below.refl _ _).alloc (Nat.le_refl _) _)
  clear hok h hp
  go_enter Tryz.func58, Tryz.ntmps58
  go_wp2_with (go_at_call 17; go_loud (refine (calls_bool (iBand_any b _ (Hok.out _ hb0.out)) e1).mono ?_; rintro e w1 ⟨rfl, hb1⟩; have hbw := hb0.out.trans (hb1.mono hb0.out.size)))
  go_ret2
  exact ⟨rfl, hbw⟩
end Go.Proofs.YtbfhfnejppfehaaGreatDoor
