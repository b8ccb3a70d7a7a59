import Derived.Test.YtkegbbndmfnolaaGreatDoorMHeardL00
import Derived.Test.YtkegbbndmfnolaaGreatDoorMHeardL13
import Derived.Test.YtkegbbndmfnolaaGreatDoorMHeardLSh
import Derived.Test.YtkegbbndmfnolaaGreatDoorRows
import Derived.Lib.LaidTab
import Derived.Deep.CutRange
import Derived.Lib.ItoaNum
import Derived.Shelf.Strconv.Itoa3
import Derived.Test.YtkegbbndmfnolaaGreatDoorMHeardL01
import Derived.Test.YtkegbbndmfnolaaGreatDoorCards
import Derived.Test.YtkegbbndmfnolaaGreatDoorTie
import Derived.ProofKit
import Derived.LaidMore
import Derived.OpenShut
import Derived.Stop.Joined
import Derived.Stop.LaidErr
import Derived.MakeChecks
import Derived.SevenTiedAt
import Derived.Test.YtkegbbndmfnolaaGreatDoorMHeardL22
/-
  Decimal numbers: contracts of both sides (the library's Itoa by the shelf).
-/
namespace Go.Proofs.YtkegbbndmfnolaaGreatDoor
open Go.RowKit
set_option linter.unusedVariables false
set_option linter.unusedSimpArgs false
set_option maxRecDepth 100000

/-- The library's table of powers lies as its text lays it. -/
def Tab (w : World) : Prop := Lib.TabIs Tryz.prog w "internal/strconv.uint64pow10" .u64 Lib.pow10Tab
theorem Tab.later {w w' : World} (h : Tab w) (hb : Below w.heap.size w w') : Tab w' := by
  unfold Tab Lib.TabIs World.var? at *
  cases hg : (Tryz.prog).globalNamed "internal/strconv.uint64pow10" with
  | none => rw [hg] at h; simp at h
  | some g =>
    rw [hg] at h
    simp only [Option.bind_some] at h ⊢
    have hlt : g < w.heap.size := by
      rcases Nat.lt_or_ge g w.heap.size with x | x
      · exact x
      · rw [Array.getElem?_eq_none x] at h; simp at h
    rw [hb.block g hlt]; exact h
/-- A number in decimal. -/
def numS (n : Nat) : ByteArray := ⟨(Lib.decDigits n).toArray⟩
theorem numS_small {n : Nat} (h : n < 10) : numS n = ⟨#[UInt8.ofNat (48 + n)]⟩ := by unfold numS; rw [Lib.decDigits_one h]
theorem numS_big {n : Nat} (h : ¬ n < 10) : numS n = numS (n / 10) ++ ⟨#[UInt8.ofNat (48 + n % 10)]⟩ := by
  unfold numS
  rw [Lib.decDigits, dif_neg h]
  apply ByteArray.ext
  simp [ByteArray.data_append]
theorem numS_size (n : Nat) : (numS n).size = Lib.nDigits n := by
  unfold numS
  have := Lib.decDigits_length n
  simpa [ByteArray.size] using this
theorem nDigits_le : ∀ (k n : Nat), n < 10 ^ k → Lib.nDigits n ≤ k + 1
  | 0, n, h => by
    have : n = 0 := by simpa using h
    subst this; unfold Lib.nDigits; rw [dif_pos (by omega)]; omega
  | k + 1, n, h => by
    unfold Lib.nDigits
    split
    · omega
    · have := nDigits_le k (n / 10) (by rw [Nat.pow_succ] at h; omega)
      omega
theorem numS_bd {n : Nat} (h : n < 1000000000) : (numS n).size ≤ 10 := by rw [numS_size]; exact nDigits_le 9 n h
theorem mkS_dig (d : Nat) (h : d < 10) : mkS [48 + (d : Int)] = ⟨#[UInt8.ofNat (48 + d)]⟩ := by
  unfold mkS
  have : ((48 : Int) + (d : Int)).toNat = 48 + d := by omega
  simp [this]
theorem decimal_any (n : Nat) (w : World) (h : n ≤ 1000000000000) (ht : Tab w) : Calls Tryz.prog 85 #[.int .i64 (n : Int)] w fun e w' => e = .returned (.string (numS n)) ∧ Below w.heap.size w w' := by
  have hcon := Tryz.strconv_Itoa (n : Int) (by omega) (by omega) w ht
  have he : Lib.itoa (n : Int) = Lib.decDigits n := by unfold Lib.itoa; rw [if_neg (by omega)]; simp
  rw [he] at hcon
  change Calls Tryz.prog 139 _ _ _ at hcon
  have Hcon := Lib.hid hcon
  clear hcon ht he
  go_enter Tryz.func85, Tryz.ntmps85
  go_wp2_with (go_at_call 139; refine Hcon.out.mono ?_; rintro e w' ⟨rfl, k, os, rfl⟩)
  go_ret
  refine ⟨rfl, ⟨rfl, rfl, rfl, ?_, fun i hi => ?_⟩⟩
  · show w.heap.size ≤ (Sort.grow (w.drewN k) os).heap.size
    unfold Sort.grow; simp
  · show (Sort.grow (w.drewN k) os).heap[i]? = w.heap[i]?
    unfold Sort.grow
    rw [Array.getElem?_append_left (by simpa using hi)]; rfl
theorem l1Num_any : ∀ (f n : Nat) (w : World), n ≤ f → n ≤ 1000000000000 → Calls Tryz.prog 87 #[.int .i64 (n : Int)] w fun e w' => e = .returned (.string (numS n)) ∧ Below w.heap.size w w' := by
  intro f
  induction f with
  | zero =>
    intro n w h h9
    obtain rfl : n = 0 := by omega
    have e := Lib.hid (numS_small (n := 0) (by omega))
    go_enter Tryz.func87, Tryz.ntmps87
    go_wp2
    go_ret
    exact ⟨ret_str (by rw [e.out]; rfl), (Below.refl _ _).alloc (Nat.le_refl _) _⟩
  | succ f ih =>
    intro n w h h9
    by_cases hs : n < 10
    · have e := Lib.hid (numS_small hs)
      have e2 := Lib.hid (mkS_dig n hs)
      go_enter Tryz.func87, Tryz.ntmps87
      go_wp2
      go_ret
      exact ⟨ret_str (by rw [e.out, ← e2.out]), (Below.refl _ _).alloc (Nat.le_refl _) _⟩
    · have e := Lib.hid (numS_big hs)
      have e2 := Lib.hid (mkS_dig (n % 10) (by omega))
      have hih : Hid (∀ W, Calls Tryz.prog 87 #[.int .i64 ((n : Int) / 10)] W fun e w' => ∃ v, e = .returned v ∧ (v = .string (numS (n / 10)) ∧ Below W.heap.size W w')) := Lib.hid (fun W => by have := ih (n / 10) W (by omega) (by omega); rw [show ((n / 10 : Nat) : Int) = (n : Int) / 10 by omega] at this; exact this.mono fun e w' h => ⟨_, h.1, rfl, h.2⟩)
      have hsz : (numS (n / 10)).size ≤ 20 := by rw [numS_size]; exact Nat.le_trans (nDigits_le 12 _ (by omega)) (by omega)
      have hsz2 : (mkS [48 + (n : Int) % 10]).size ≤ 1 := by simp [mkS, ByteArray.size]
      have e3 : Hid (numS (n / 10) ++ mkS [48 + (n : Int) % 10] = numS n) := Lib.hid (by rw [e.out, ← e2.out, show ((n % 10 : Nat) : Int) = (n : Int) % 10 by omega])
      have hsum : ¬ 9223372036854775807 < (numS (n / 10)).size + (mkS [48 + (n : Int) % 10]).size := by omega
      have a1 : IntKind.i64.wrap ((n : Int) / 10) = (n : Int) / 10 := IntWalk.i64_in _ (by omega)
      have a2 : (n : Int).tmod 10 = (n : Int) % 10 := Int.tmod_eq_emod_of_nonneg (by omega)
      have a3 : IntKind.i64.wrap (48 + (n : Int) % 10) = 48 + (n : Int) % 10 := IntWalk.i64_in _ (by omega)
      have a4 : IntKind.u8.wrap (48 + (n : Int) % 10) = 48 + (n : Int) % 10 := IntWalk.u8_in _ (by omega)
      clear ih
      go_enter Tryz.func87, Tryz.ntmps87
      have hc1 : (convert 22 9 (.slice (some ⟨w.heap.size, 0, none⟩) 1 1)).run Tryz.prog (w.alloc (.cells #[.int .u8 (48 + (n : Int) % 10)] 5)).drew = .ok (.string (mkS [48 + (n : Int) % 10])) (w.alloc (.cells #[.int .u8 (48 + (n : Int) % 10)] 5)).drew := run_convert_bytes_arg (P := Tryz.prog) _ 22 5 (by rfl) (by rfl) w.heap.size 0 1 1 [48 + (n : Int) % 10] rfl (fun i hi => by
        obtain rfl : i = 0 := by simp at hi; omega
        show (w.alloc (.cells #[.int .u8 (48 + (n : Int) % 10)] 5)).cell? _ = _
        rw [World.cell?_alloc_new]; rfl) 9 (by rfl)
      go_upto_region 3 with fail
      go_region_law (refine step_callsX (by rfl) 87 (by rfl) #[.int .i64 ((n : Int) / 10)] (by go_simp) (hih.out _) ?_; rintro v w2 ⟨rfl, hb2⟩; (first | (have hq : (convert 22 9 (.slice (some ⟨w.heap.size, 0, none⟩) 1 1)).run Tryz.prog w2 = .ok (.string (mkS [48 + (n : Int) % 10])) w2 := run_convert_bytes_arg (P := Tryz.prog) w2 22 5 (by rfl) (by rfl) w.heap.size 0 1 1 [48 + (n : Int) % 10] rfl (fun i hi => by obtain rfl : i = 0 := (by simp at hi; omega); refine (hb2.cell (p := ⟨w.heap.size, 0 + 0, none⟩) (by simp)).trans ?_; first | (show (w.alloc (.cells #[.int .u8 (48 + (n : Int) % 10)] 5)).cell? _ = _; rw [World.cell?_alloc_new]; rfl) | (show (w.drew.alloc (.cells #[.int .u8 (48 + (n : Int) % 10)] 5)).cell? _ = _; rw [World.cell?_alloc_new]; rfl)) 9 (by rfl)) | (have hq := True.intro)))
      all_goals
        go_wp2
        go_ret
        refine ⟨ret_str e3.out, ?_⟩
        first
          | exact ((Below.refl _ _).drew.trans hb2).alloc (by have := hb2.size; simpa using this) _
          | exact (((Below.refl _ w).alloc (Nat.le_refl _) _).drew).trans (hb2.mono (by simp))
          | exact ((Below.refl _ w).drew.alloc (Nat.le_refl _) _).trans (hb2.mono (by simp))
end Go.Proofs.YtkegbbndmfnolaaGreatDoor

/-
  What a tied card wants beyond a plain row: the library's table of powers out of the row's condition.
-/
namespace Go.Proofs.YtkegbbndmfnolaaGreatDoor
open Go.RowKit
set_option linter.unusedVariables false
set_option linter.unusedSimpArgs false
set_option maxRecDepth 100000

theorem tab_data : (Rows.laid_internal_strconv_uint64pow10 : DataW Unit) = Lib.tabData .u64 Lib.pow10Tab := by kernel_rfl
theorem tab_of {x y : String × DataW Unit} {r : List (String × DataW Unit)} {W : World} (h : laidMet Tryz.prog (x :: y :: ("internal/strconv.uint64pow10", Rows.laid_internal_strconv_uint64pow10) :: r) W) : Tab W := by
  have h1 := h.tail.tail
  rw [tab_data] at h1
  exact Lib.tabIs_of_head (g := 1) (t := 184) (e := 82) (n := 20) (by kernel_rfl) (by kernel_rfl) (by rfl) (by rfl) (by kernel_rfl) (by kernel_rfl) h1
end Go.Proofs.YtkegbbndmfnolaaGreatDoor

/-
  SpokenText of the program returns what the reference's returns, for all arguments, the library's tables as its text lays them.
-/
namespace Go.Proofs.YtkegbbndmfnolaaGreatDoor
open Go.RowKit
set_option linter.unusedVariables false
set_option linter.unusedSimpArgs false
set_option maxRecDepth 100000

/-- The lines of the first k spoken words. -/
def spkTo (l : List Spk) : Nat → ByteArray
  | 0 => ⟨#[]⟩
  | k + 1 => spkTo l k ++ (((numS ((l.map Spk.row).getD k 0).toNat ++ ⟨#[32]⟩) ++ (l.map Spk.word).getD k ⟨#[]⟩) ++ ⟨#[10]⟩)
theorem spkTo_succ {l : List Spk} {k : Nat} (h : k < l.length) : spkTo l (k + 1) = spkTo l k ++ (((numS l[k].row.toNat ++ ⟨#[32]⟩) ++ l[k].word) ++ ⟨#[10]⟩) := by
  simp [spkTo, h]
theorem spoken_size {s : ByteArray} (h : spokenP s) : s.size ≤ 6 := by
  unfold spokenP spokenWords at h
  simp only [List.mem_cons, List.mem_nil_iff, or_false] at h
  rcases h with rfl | rfl | rfl | rfl | rfl <;> decide


theorem sSpokenText_f (l : List Spk) (A : Option Addr) (c : Nat) (w : World) (h : RdL w w.heap.size A 2 Spk.enc l) (hl : l.length ≤ 1048576) (hp : ¬ spokenLP l) :
    Calls Tryz.prog 26 #[.slice A l.length c] w fun e w' => e = .returned (.tuple #[.string ⟨#[]⟩, .bool false]) ∧ Below w.heap.size w w' := by
  have e1 := B_f hp
  have HG := Lib.hid (l26Good_any l A c w h hl)
  rw [e1] at HG
  clear h hp e1
  go_enter Tryz.func26, Tryz.ntmps26
  go_wp2_with (go_at_call 86; refine HG.out.mono ?_; rintro e w1 ⟨rfl, hb1⟩)
  go_ret2
  exact ⟨rfl, hb1⟩
set_option maxHeartbeats 1600000 in
theorem sSpokenText0_t (l : List Spk) (A : Option Addr) (c : Nat) (w : World) (h : RdL w w.heap.size A 2 Spk.enc l) (hl : l.length ≤ 1048576)  (hp : spokenLP l) :
    Calls Tryz.prog 26 #[.slice A l.length c] w fun e w' => e = .returned (.tuple #[.string (spkTo l l.length), .bool true]) ∧ Below w.heap.size w w' := by
  have H := Lib.hid h
  have HP := Lib.hid hp
  skip
  have e1 := B_t hp
  have hl63 : l.length ≤ 63 := hp.1
  have HG := Lib.hid (l26Good_any l A c w h hl)
  rw [e1] at HG
  clear h hp  e1
  go_enter Tryz.func26, Tryz.ntmps26
  go_wp2_with (go_at_call 86; refine HG.out.mono ?_; rintro e w1 ⟨rfl, hb1⟩; have HB1 := Lib.hid hb1; clear hb1)
  go_loopw [4, 12] (fun v i wr => ∃ (k : Nat) (S : ByteArray), k ≤ l.length ∧ i = .int .i64 k ∧ v = .string S ∧ Hid (S = spkTo l k) ∧ S.size ≤ 64 * k ∧ Below w.heap.size w wr) (fun _ i _ => l.length - (intOf i).toNat)
  case atStart => exact ⟨0, _, by omega, by rfl, rfl, Lib.hid rfl, by decide, HB1.out⟩
  case round =>
    obtain ⟨k, S, hk, rfl, rfl, hS, hsz, hbl⟩ := hrel
    have Hbl := Lib.hid hbl
    have hwz := hbl.size
    clear hbl
    by_cases hlt : k < l.length
    · have hsu := Lib.hid (spkTo_succ hlt)
      obtain ⟨⟨g1, g2⟩, g3, _⟩ := HP.out.2 k hlt
      have hw6 := spoken_size g3
      obtain ⟨g, off, hA, hg, hcell⟩ := H.out.at hlt
      have r0 := (Hbl.out.cell (p := ⟨g, off + k * 2, none⟩) hg).trans (hcell 0 _ rfl)
      have r1 := (Hbl.out.cell (p := ⟨g, off + k * 2 + 1, none⟩) hg).trans (hcell 1 _ rfl)
      subst hA
      clear hcell g3
      obtain ⟨r, hr⟩ := Int.eq_ofNat_of_zero_le g1
      rw [hr] at r0 g2
      have hsu2 := hsu.out
      rw [hr, Int.toNat_natCast] at hsu2
      generalize l[k].word = y at *
      have hr3 : r ≤ 3000 := by omega
      obtain ⟨NU, hNU⟩ : ∃ x, Hid (numS r = x) := ⟨_, Lib.hid rfl⟩
      have hn10 : NU.size ≤ 10 := by rw [← hNU.out]; exact numS_bd (by omega)
      rw [hNU.out] at hsu2
      have Hsu := Lib.hid hsu2
      have Hnum : Hid (∀ W, Below w.heap.size w W → Calls Tryz.prog 87 #[.int .i64 (r : Int)] W fun e w' => ∃ v, e = .returned v ∧ (v = .string NU ∧ Below W.heap.size W w')) := Lib.hid fun W hb => by rw [← hNU.out]; exact (l1Num_any r r W (Nat.le_refl _) (by omega)).mono fun e w' h => ⟨_, h.1, rfl, h.2⟩
      clear hsu hsu2 hr g1 g2
      go_upto_region 7 with fail
      obtain ⟨W5, hW5, C0, C1, HB5, hs5⟩ : ∃ W5 : World, Hid (wr.alloc (.cells #[.int .i64 (r : Int), .string y] 108) = W5) ∧ W5.cell? ⟨wr.heap.size, 0, none⟩ = some (.int .i64 (r : Int)) ∧ W5.cell? ⟨wr.heap.size, 1, none⟩ = some (.string y) ∧ Hid (Below w.heap.size w W5) ∧ wr.heap.size < W5.heap.size :=
        ⟨_, Lib.hid rfl, by rw [World.cell?_alloc_new]; rfl, by rw [World.cell?_alloc_new]; rfl, Lib.hid (Hbl.out.alloc hwz _), by simp⟩
      rw [hW5.out]
      clear r0 r1 hW5
      have hs1 : (NU ++ (⟨#[32]⟩ : ByteArray)).size = NU.size + 1 := by simp [ByteArray.size_append]; rfl
      have hs2 : ((NU ++ (⟨#[32]⟩ : ByteArray)) ++ y).size = NU.size + 1 + y.size := by rw [ByteArray.size_append, hs1]
      have hs3 : (((NU ++ (⟨#[32]⟩ : ByteArray)) ++ y) ++ (⟨#[10]⟩ : ByteArray)).size = NU.size + 1 + y.size + 1 := by rw [ByteArray.size_append, hs2]; rfl
      have k1 : ¬ 9223372036854775807 < NU.size + 1 := by omega
      have k2 : ¬ 9223372036854775807 < NU.size + 1 + y.size := by omega
      have k3 : ¬ 9223372036854775807 < NU.size + 1 + y.size + 1 := by omega
      have k4 : ¬ 9223372036854775807 < S.size + (NU.size + 1 + y.size + 1) := by omega
      go_region_law (refine step_callsX (by rfl) 87 (by rfl) #[.int .i64 (r : Int)] (by go_simp) (Hnum.out _ HB5.out.drew) ?_; rintro v w2 ⟨rfl, hb2⟩; have q1 := (hb2.cell (p := ⟨wr.heap.size, 1, none⟩) hs5).trans C1)
      all_goals
        clear q1 C0 C1
        go_wp2
        go_roundw
        case rel => exact ⟨k + 1, S ++ (((NU ++ ⟨#[32]⟩) ++ y) ++ ⟨#[10]⟩), by omega, by go_num, rfl, Lib.hid (by rw [Hsu.out, ← hS.out]), by rw [ByteArray.size_append, hs3]; omega, HB5.out.drew.trans (hb2.mono HB5.out.size)⟩
        case measure => simp [intOf]; omega
    · obtain rfl : k = l.length := by omega
      go_wp2
      go_ret2
      exact ⟨by rw [← hS.out]; rfl, Hbl.out⟩
theorem iSpokenText_f (l : List Spk) (A : Option Addr) (c : Nat) (w : World) (h : RdL w w.heap.size A 2 Spk.enc l) (hl : l.length ≤ 1048576) (hp : ¬ spokenLP l) :
    Calls Tryz.prog 25 #[.slice A l.length c] w fun e w' => e = .returned (.tuple #[.string ⟨#[]⟩, .bool false]) ∧ Below w.heap.size w w' := by
  have e1 := B_f hp
  have HG := Lib.hid (goodSpoken_any l A c w h hl)
  rw [e1] at HG
  clear h hp e1
  go_enter Tryz.func25, Tryz.ntmps25
  go_wp2_with (go_at_call 84; refine HG.out.mono ?_; rintro e w1 ⟨rfl, hb1⟩)
  go_ret2
  exact ⟨rfl, hb1⟩
set_option maxHeartbeats 1600000 in
theorem iSpokenText_t (l : List Spk) (A : Option Addr) (c : Nat) (w : World) (h : RdL w w.heap.size A 2 Spk.enc l) (hl : l.length ≤ 1048576) (htab : Tab w) (hp : spokenLP l) :
    Calls Tryz.prog 25 #[.slice A l.length c] w fun e w' => e = .returned (.tuple #[.string (spkTo l l.length), .bool true]) ∧ Below w.heap.size w w' := by
  have H := Lib.hid h
  have HP := Lib.hid hp
  have HT := Lib.hid htab
  have e1 := B_t hp
  have hl63 : l.length ≤ 63 := hp.1
  have HG := Lib.hid (goodSpoken_any l A c w h hl)
  rw [e1] at HG
  clear h hp htab e1
  go_enter Tryz.func25, Tryz.ntmps25
  go_wp2_with (go_at_call 84; refine HG.out.mono ?_; rintro e w1 ⟨rfl, hb1⟩; have HB1 := Lib.hid hb1; clear hb1)
  go_loopw [4, 12] (fun v i wr => ∃ (k : Nat) (S : ByteArray), k ≤ l.length ∧ i = .int .i64 k ∧ v = .string S ∧ Hid (S = spkTo l k) ∧ S.size ≤ 64 * k ∧ Below w.heap.size w wr) (fun _ i _ => l.length - (intOf i).toNat)
  case atStart => exact ⟨0, _, by omega, by rfl, rfl, Lib.hid rfl, by decide, HB1.out⟩
  case round =>
    obtain ⟨k, S, hk, rfl, rfl, hS, hsz, hbl⟩ := hrel
    have Hbl := Lib.hid hbl
    have hwz := hbl.size
    clear hbl
    by_cases hlt : k < l.length
    · have hsu := Lib.hid (spkTo_succ hlt)
      obtain ⟨⟨g1, g2⟩, g3, _⟩ := HP.out.2 k hlt
      have hw6 := spoken_size g3
      obtain ⟨g, off, hA, hg, hcell⟩ := H.out.at hlt
      have r0 := (Hbl.out.cell (p := ⟨g, off + k * 2, none⟩) hg).trans (hcell 0 _ rfl)
      have r1 := (Hbl.out.cell (p := ⟨g, off + k * 2 + 1, none⟩) hg).trans (hcell 1 _ rfl)
      subst hA
      clear hcell g3
      obtain ⟨r, hr⟩ := Int.eq_ofNat_of_zero_le g1
      rw [hr] at r0 g2
      have hsu2 := hsu.out
      rw [hr, Int.toNat_natCast] at hsu2
      generalize l[k].word = y at *
      have hr3 : r ≤ 3000 := by omega
      obtain ⟨NU, hNU⟩ : ∃ x, Hid (numS r = x) := ⟨_, Lib.hid rfl⟩
      have hn10 : NU.size ≤ 10 := by rw [← hNU.out]; exact numS_bd (by omega)
      rw [hNU.out] at hsu2
      have Hsu := Lib.hid hsu2
      have Hnum : Hid (∀ W, Below w.heap.size w W → Calls Tryz.prog 85 #[.int .i64 (r : Int)] W fun e w' => ∃ v, e = .returned v ∧ (v = .string NU ∧ Below W.heap.size W w')) := Lib.hid fun W hb => by rw [← hNU.out]; exact (decimal_any r W (by omega) (HT.out.later hb)).mono fun e w' h => ⟨_, h.1, rfl, h.2⟩
      clear hsu hsu2 hr g1 g2
      go_upto_region 7 with fail
      obtain ⟨W5, hW5, C0, C1, HB5, hs5⟩ : ∃ W5 : World, Hid (wr.alloc (.cells #[.int .i64 (r : Int), .string y] 108) = W5) ∧ W5.cell? ⟨wr.heap.size, 0, none⟩ = some (.int .i64 (r : Int)) ∧ W5.cell? ⟨wr.heap.size, 1, none⟩ = some (.string y) ∧ Hid (Below w.heap.size w W5) ∧ wr.heap.size < W5.heap.size :=
        ⟨_, Lib.hid rfl, by rw [World.cell?_alloc_new]; rfl, by rw [World.cell?_alloc_new]; rfl, Lib.hid (Hbl.out.alloc hwz _), by simp⟩
      rw [hW5.out]
      clear r0 r1 hW5
      have hs1 : (NU ++ (⟨#[32]⟩ : ByteArray)).size = NU.size + 1 := by simp [ByteArray.size_append]; rfl
      have hs2 : ((NU ++ (⟨#[32]⟩ : ByteArray)) ++ y).size = NU.size + 1 + y.size := by rw [ByteArray.size_append, hs1]
      have hs3 : (((NU ++ (⟨#[32]⟩ : ByteArray)) ++ y) ++ (⟨#[10]⟩ : ByteArray)).size = NU.size + 1 + y.size + 1 := by rw [ByteArray.size_append, hs2]; rfl
      have k1 : ¬ 9223372036854775807 < NU.size + 1 := by omega
      have k2 : ¬ 9223372036854775807 < NU.size + 1 + y.size := by omega
      have k3 : ¬ 9223372036854775807 < NU.size + 1 + y.size + 1 := by omega
      have k4 : ¬ 9223372036854775807 < S.size + (NU.size + 1 + y.size + 1) := by omega
      go_region_law (refine step_callsX (by rfl) 85 (by rfl) #[.int .i64 (r : Int)] (by go_simp) (Hnum.out _ HB5.out.drew) ?_; rintro v w2 ⟨rfl, hb2⟩; have q1 := (hb2.cell (p := ⟨wr.heap.size, 1, none⟩) hs5).trans C1)
      all_goals
        clear q1 C0 C1
        go_wp2
        go_roundw
        case rel => exact ⟨k + 1, S ++ (((NU ++ ⟨#[32]⟩) ++ y) ++ ⟨#[10]⟩), by omega, by go_num, rfl, Lib.hid (by rw [Hsu.out, ← hS.out]), by rw [ByteArray.size_append, hs3]; omega, HB5.out.drew.trans (hb2.mono HB5.out.size)⟩
        case measure => simp [intOf]; omega
    · obtain rfl : k = l.length := by omega
      go_wp2
      go_ret2
      exact ⟨by rw [← hS.out]; rfl, Hbl.out⟩
end Go.Proofs.YtkegbbndmfnolaaGreatDoor
