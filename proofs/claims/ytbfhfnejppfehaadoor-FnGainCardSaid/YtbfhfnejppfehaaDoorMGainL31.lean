import Derived.Test.YtbfhfnejppfehaaDoorMGainL00
import Derived.Test.YtbfhfnejppfehaaDoorMGainL05
import Derived.Test.YtbfhfnejppfehaaDoorShelf
import Derived.Test.YtbfhfnejppfehaaDoorRows
import Derived.Lib.LaidTab
import Derived.Deep.CutRange
import Derived.Lib.ItoaNum
import Derived.Shelf.Strconv.Itoa3
import Derived.Test.YtbfhfnejppfehaaDoorMGainL04
import Derived.Test.YtbfhfnejppfehaaDoorCards
import Derived.Test.YtbfhfnejppfehaaDoorTie
import Derived.ProofKit
import Derived.LaidMore
import Derived.OpenShut
import Derived.Stop.Joined
import Derived.Stop.LaidErr
import Derived.MakeChecks
import Derived.SevenTiedAt
import Derived.Test.YtbfhfnejppfehaaDoorMGainL01
import Derived.Test.YtbfhfnejppfehaaDoorMGainL26
import Derived.Lib.Join
/-
  Decimal numbers: contracts of both sides (the library's Itoa by the shelf).
-/
namespace Go.Proofs.YtbfhfnejppfehaaDoor
open Go.RowKit
set_option linter.unusedVariables false
set_option linter.unusedSimpArgs false
set_option maxRecDepth 100000

/-- The library's table of powers lies as its text lays it. -/
def Tab (w : World) : Prop := Lib.TabIs Tryd.prog w "internal/strconv.uint64pow10" .u64 Lib.pow10Tab
theorem Tab.later {w w' : World} (h : Tab w) (hb : Below w.heap.size w w') : Tab w' := by
  unfold Tab Lib.TabIs World.var? at *
  cases hg : (Tryd.prog).globalNamed "internal/strconv.uint64pow10" with
  | none => rw [hg] at h; simp at h
  | some g =>
    rw [hg] at h
    simp only [Option.bind_some] at h ⊢
    have hlt : g < w.heap.size := by
      rcases Nat.lt_or_ge g w.heap.size with x | x
      · exact x
      · rw [Array.getElem?_eq_none x] at h; simp at h
    rw [hb.block g hlt]; exact h
/-- A number in decimal. -/
def numS (n : Nat) : ByteArray := ⟨(Lib.decDigits n).toArray⟩
theorem numS_small {n : Nat} (h : n < 10) : numS n = ⟨#[UInt8.ofNat (48 + n)]⟩ := by unfold numS; rw [Lib.decDigits_one h]
theorem numS_big {n : Nat} (h : ¬ n < 10) : numS n = numS (n / 10) ++ ⟨#[UInt8.ofNat (48 + n % 10)]⟩ := by
  unfold numS
  rw [Lib.decDigits, dif_neg h]
  apply ByteArray.ext
  simp [ByteArray.data_append]
theorem numS_size (n : Nat) : (numS n).size = Lib.nDigits n := by
  unfold numS
  have := Lib.decDigits_length n
  simpa [ByteArray.size] using this
theorem nDigits_le : ∀ (k n : Nat), n < 10 ^ k → Lib.nDigits n ≤ k + 1
  | 0, n, h => by
    have : n = 0 := by simpa using h
    subst this; unfold Lib.nDigits; rw [dif_pos (by omega)]; omega
  | k + 1, n, h => by
    unfold Lib.nDigits
    split
    · omega
    · have := nDigits_le k (n / 10) (by rw [Nat.pow_succ] at h; omega)
      omega
theorem numS_bd {n : Nat} (h : n < 1000000000) : (numS n).size ≤ 10 := by rw [numS_size]; exact nDigits_le 9 n h
theorem mkS_dig (d : Nat) (h : d < 10) : mkS [48 + (d : Int)] = ⟨#[UInt8.ofNat (48 + d)]⟩ := by
  unfold mkS
  have : ((48 : Int) + (d : Int)).toNat = 48 + d := by omega
  simp [this]
theorem decimal_any (n : Nat) (w : World) (h : n ≤ 1000000000000) (ht : Tab w) : Calls Tryd.prog 52 #[.int .i64 (n : Int)] w fun e w' => e = .returned (.string (numS n)) ∧ Below w.heap.size w w' := by
  have hcon := Tryd.strconv_Itoa (n : Int) (by omega) (by omega) w ht
  have he : Lib.itoa (n : Int) = Lib.decDigits n := by unfold Lib.itoa; rw [if_neg (by omega)]; simp
  rw [he] at hcon
  change Calls Tryd.prog 88 _ _ _ at hcon
  have Hcon := Lib.hid hcon
  clear hcon ht he
  go_enter Tryd.func52, Tryd.ntmps52
  go_wp2_with (go_at_call 88; refine Hcon.out.mono ?_; rintro e w' ⟨rfl, k, os, rfl⟩)
  go_ret
  refine ⟨rfl, ⟨rfl, rfl, rfl, ?_, fun i hi => ?_⟩⟩
  · show w.heap.size ≤ (Sort.grow (w.drewN k) os).heap.size
    unfold Sort.grow; simp
  · show (Sort.grow (w.drewN k) os).heap[i]? = w.heap[i]?
    unfold Sort.grow
    rw [Array.getElem?_append_left (by simpa using hi)]; rfl
theorem l1Num_any : ∀ (f n : Nat) (w : World), n ≤ f → n ≤ 1000000000000 → Calls Tryd.prog 90 #[.int .i64 (n : Int)] w fun e w' => e = .returned (.string (numS n)) ∧ Below w.heap.size w w' := by
  intro f
  induction f with
  | zero =>
    intro n w h h9
    obtain rfl : n = 0 := by omega
    have e := Lib.hid (numS_small (n := 0) (by omega))
    go_enter Tryd.func90, Tryd.ntmps90
    go_wp2
    go_ret
    exact ⟨ret_str (by rw [e.out]; rfl), (Below.refl _ _).alloc (Nat.le_refl _) _⟩
  | succ f ih =>
    intro n w h h9
    by_cases hs : n < 10
    · have e := Lib.hid (numS_small hs)
      have e2 := Lib.hid (mkS_dig n hs)
      go_enter Tryd.func90, Tryd.ntmps90
      go_wp2
      go_ret
      exact ⟨ret_str (by rw [e.out, ← e2.out]), (Below.refl _ _).alloc (Nat.le_refl _) _⟩
    · have e := Lib.hid (numS_big hs)
      have e2 := Lib.hid (mkS_dig (n % 10) (by omega))
      have hih : Hid (∀ W, Calls Tryd.prog 90 #[.int .i64 ((n : Int) / 10)] W fun e w' => ∃ v, e = .returned v ∧ (v = .string (numS (n / 10)) ∧ Below W.heap.size W w')) := Lib.hid (fun W => by have := ih (n / 10) W (by omega) (by omega); rw [show ((n / 10 : Nat) : Int) = (n : Int) / 10 by omega] at this; exact this.mono fun e w' h => ⟨_, h.1, rfl, h.2⟩)
      have hsz : (numS (n / 10)).size ≤ 20 := by rw [numS_size]; exact Nat.le_trans (nDigits_le 12 _ (by omega)) (by omega)
      have hsz2 : (mkS [48 + (n : Int) % 10]).size ≤ 1 := by simp [mkS, ByteArray.size]
      have e3 : Hid (numS (n / 10) ++ mkS [48 + (n : Int) % 10] = numS n) := Lib.hid (by rw [e.out, ← e2.out, show ((n % 10 : Nat) : Int) = (n : Int) % 10 by omega])
      have hsum : ¬ 9223372036854775807 < (numS (n / 10)).size + (mkS [48 + (n : Int) % 10]).size := by omega
      have a1 : IntKind.i64.wrap ((n : Int) / 10) = (n : Int) / 10 := IntWalk.i64_in _ (by omega)
      have a2 : (n : Int).tmod 10 = (n : Int) % 10 := Int.tmod_eq_emod_of_nonneg (by omega)
      have a3 : IntKind.i64.wrap (48 + (n : Int) % 10) = 48 + (n : Int) % 10 := IntWalk.i64_in _ (by omega)
      have a4 : IntKind.u8.wrap (48 + (n : Int) % 10) = 48 + (n : Int) % 10 := IntWalk.u8_in _ (by omega)
      clear ih
      go_enter Tryd.func90, Tryd.ntmps90
      have hc1 : (convert 40 9 (.slice (some ⟨w.heap.size, 0, none⟩) 1 1)).run Tryd.prog (w.alloc (.cells #[.int .u8 (48 + (n : Int) % 10)] 5)).drew = .ok (.string (mkS [48 + (n : Int) % 10])) (w.alloc (.cells #[.int .u8 (48 + (n : Int) % 10)] 5)).drew := run_convert_bytes_arg (P := Tryd.prog) _ 40 5 (by rfl) (by rfl) w.heap.size 0 1 1 [48 + (n : Int) % 10] rfl (fun i hi => by
        obtain rfl : i = 0 := by simp at hi; omega
        show (w.alloc (.cells #[.int .u8 (48 + (n : Int) % 10)] 5)).cell? _ = _
        rw [World.cell?_alloc_new]; rfl) 9 (by rfl)
      go_upto_region 3 with fail
      go_region_law (refine step_callsX (by rfl) 90 (by rfl) #[.int .i64 ((n : Int) / 10)] (by go_simp) (hih.out _) ?_; rintro v w2 ⟨rfl, hb2⟩; (first | (have hq : (convert 40 9 (.slice (some ⟨w.heap.size, 0, none⟩) 1 1)).run Tryd.prog w2 = .ok (.string (mkS [48 + (n : Int) % 10])) w2 := run_convert_bytes_arg (P := Tryd.prog) w2 40 5 (by rfl) (by rfl) w.heap.size 0 1 1 [48 + (n : Int) % 10] rfl (fun i hi => by obtain rfl : i = 0 := (by simp at hi; omega); refine (hb2.cell (p := ⟨w.heap.size, 0 + 0, none⟩) (by simp)).trans ?_; first | (show (w.alloc (.cells #[.int .u8 (48 + (n : Int) % 10)] 5)).cell? _ = _; rw [World.cell?_alloc_new]; rfl) | (show (w.drew.alloc (.cells #[.int .u8 (48 + (n : Int) % 10)] 5)).cell? _ = _; rw [World.cell?_alloc_new]; rfl)) 9 (by rfl)) | (have hq := True.intro)))
      all_goals
        go_wp2
        go_ret
        refine ⟨ret_str e3.out, ?_⟩
        first
          | exact ((Below.refl _ _).drew.trans hb2).alloc (by have := hb2.size; simpa using this) _
          | exact (((Below.refl _ w).alloc (Nat.le_refl _) _).drew).trans (hb2.mono (by simp))
          | exact ((Below.refl _ w).drew.alloc (Nat.le_refl _) _).trans (hb2.mono (by simp))
end Go.Proofs.YtbfhfnejppfehaaDoor

/-
  What a tied card wants beyond a plain row: the library's table of powers out of the row's condition.
-/
namespace Go.Proofs.YtbfhfnejppfehaaDoor
open Go.RowKit
set_option linter.unusedVariables false
set_option linter.unusedSimpArgs false
set_option maxRecDepth 100000

theorem tab_data : (Rows.laid_internal_strconv_uint64pow10 : DataW Unit) = Lib.tabData .u64 Lib.pow10Tab := by kernel_rfl
theorem tab_of {x y : String × DataW Unit} {r : List (String × DataW Unit)} {W : World} (h : laidMet Tryd.prog (x :: y :: ("internal/strconv.uint64pow10", Rows.laid_internal_strconv_uint64pow10) :: r) W) : Tab W := by
  have h1 := h.tail.tail
  rw [tab_data] at h1
  exact Lib.tabIs_of_head (g := 1) (t := 167) (e := 74) (n := 20) (by kernel_rfl) (by kernel_rfl) (by rfl) (by rfl) (by kernel_rfl) (by kernel_rfl) h1
end Go.Proofs.YtbfhfnejppfehaaDoor

/-
  Words put together with a sign between them: the library's Join by the shelf.
-/
namespace Go.Proofs.YtbfhfnejppfehaaDoor
open Go.RowKit
set_option linter.unusedVariables false
set_option linter.unusedSimpArgs false
set_option maxRecDepth 100000

/-- The words with the sign between them. -/
def joinS (xs : List ByteArray) (sep : ByteArray) : ByteArray := ⟨(Lib.join (xs.map (·.data.toList)) sep.data.toList).toArray⟩
theorem joinS_one (x sep : ByteArray) : joinS [x] sep = x := by
  unfold joinS
  rw [List.map_cons, List.map_nil, Lib.join_one, Lib.mk_data]
theorem joinS_snoc (y : ByteArray) (ys : List ByteArray) (x sep : ByteArray) : joinS ((y :: ys) ++ [x]) sep = (joinS (y :: ys) sep ++ sep) ++ x := by
  unfold joinS
  apply ByteArray.ext
  simp [ByteArray.data_append, Lib.join_cons, Lib.joinTail]
theorem joined_any (xs : List ByteArray) (sep : ByteArray) (A : Option Addr) (c : Nat) (w : World) (h : RdL w w.heap.size A 1 encString xs) (h0 : 0 < xs.length) (hc : xs.length ≤ c) (hl : xs.length ≤ 1048576) (hs : (joinS xs sep).size ≤ 1048576) :
    Calls Tryd.prog 53 #[.slice A xs.length c, .string sep] w fun e w' => e = .returned (.string (joinS xs sep)) ∧ Below w.heap.size w w' := by
  obtain ⟨g, off, rfl, hg, _⟩ := h.at h0
  have hJ := Tryd.strings_Join g off c xs sep w (fun j x hj => by
    obtain ⟨hj1, hj2⟩ := List.getElem?_eq_some_iff.1 hj
    obtain ⟨g', off', hA, _, hcell⟩ := h.at hj1
    simp only [Option.some.injEq, Addr.mk.injEq, and_true] at hA
    obtain ⟨rfl, rfl⟩ := hA
    have := hcell 0 _ rfl
    rw [Nat.mul_one, Nat.add_zero, hj2] at this
    exact this) hg (by omega) hc (by have : (joinS xs sep).size = (Lib.join (xs.map (·.data.toList)) sep.data.toList).length := by simp [joinS, ByteArray.size]
                                     omega)
  have HJ := Lib.hid hJ
  clear hJ h
  go_enter Tryd.func53, Tryd.ntmps53
  go_wp2_with (go_at_call 89; refine HJ.out.mono ?_; rintro e w1 ⟨rfl, hb1⟩)
  go_ret
  exact ⟨rfl, hb1⟩
end Go.Proofs.YtbfhfnejppfehaaDoor
