/-
  Contracts of chapter 1, the reference's side: products and inverses of rows; two rows of one stage.
-/
import Derived.Test.YtpedfjcidbopiaaL1b
namespace Go.Proofs.Ytpedfjcidbopiaa
open Go.RowKit
set_option linter.unusedVariables false
set_option linter.unusedSimpArgs false
set_option maxRecDepth 100000

theorem l1At_k (s : ByteArray) (k : Nat) (p : Int) (w : World) (hp : p = k + 1) (h2 : k < s.size) (hs : s.size ≤ 1000000) (h3 : 48 ≤ bat s k) :
    Calls Try.prog 171 #[.string s, .int .i64 p] w fun e w' => e = .returned (.int .i64 (bat s k - 48)) ∧ w = w' := by
  have e : p - 1 = k := by omega
  have := l1At_any s p w (by omega) (by omega) (by omega) (by rw [e]; exact h3)
  rw [e] at this; exact this

theorem take_snoc {l : List Int} {k : Nat} (h : k < l.length) : l.take (k + 1) = l.take k ++ [l[k]] := List.take_succ_eq_append_getElem h
theorem mkS_snoc (l : List Int) (s : ByteArray) (v : Int) (hs : s.size = 1) (hv : bat s 0 = v) : mkS l ++ s = mkS (l ++ [v]) := by
  refine str_ext (by rw [size_app, size_mkS, size_mkS, hs]; simp) fun i hi => ?_
  rw [size_app, size_mkS, hs] at hi
  have h1 := bat_lo s 0
  have h2 := bat_hi s 0
  by_cases h : i < l.length
  · rw [bat_append_l _ _ _ (by rw [size_mkS]; exact h)]
    unfold bat mkS
    simp [List.getElem?_append_left, h]
  · obtain rfl : i = l.length := by omega
    have := bat_append_r (mkS l) s 0
    rw [size_mkS] at this
    rw [show (l.length : Nat) = l.length + 0 from rfl, this]
    rw [bat_mkS _ _ (by simp) (by simp; omega) (by simp; omega)]
    simp; exact hv

set_option maxHeartbeats 800000 in
theorem l1Times_any (a b : ByteArray) (w : World) (hb : b.size ≤ 1000000) (ha : a.size ≤ 1000000) (h : ∀ i : Nat, i < b.size → 49 ≤ bat b i ∧ bat b i < 49 + a.size) :
    Calls Try.prog 157 #[.string a, .string b] w fun e w' => e = .returned (.string (timesS a b)) ∧ w = w' := by
  have H := Lib.hid h
  clear h
  go_enter Try.func157, Try.ntmps157
  go_wp2
  go_loop [5, 6] (fun s i => ∃ (k : Nat) (o : ByteArray), k ≤ b.size ∧ i = .int .i64 (k + 1) ∧ s = .string o ∧ o.size ≤ k ∧ Hid (o = mkS ((timesL a b).take k))) (fun _ i => b.size + 1 - (intOf i).toNat)
  case atStart => exact ⟨0, ⟨#[]⟩, by omega, by rfl, rfl, by decide, rfl⟩
  case round =>
    obtain ⟨k, o, hk, rfl, rfl, ho, he⟩ := hrel
    by_cases hlt : k < b.size
    · obtain ⟨h1, h2⟩ := H.out k hlt
      have hy := bat_hi b k
      go_wp2_with (go_at_call 171; refine (l1At_k b k _ _ (by omega) hlt hb (by omega)).mono ?_; rintro e w' ⟨rfl, rfl⟩)
      go_round
      case rel =>
        have hsz : (a.extract ((bat b k - 48).toNat - 1) (bat b k - 48).toNat).size = 1 := by rw [size_ext]; omega
        refine ⟨k + 1, _, by omega, by go_num, rfl, by rw [size_app, hsz]; omega, ?_⟩
        have hl : k < (timesL a b).length := by simp [timesL]; omega
        show _ = _
        rw [take_snoc hl, he.out]
        refine mkS_snoc _ _ _ hsz ?_
        have := bat_ext a ((bat b k - 48).toNat - 1) (bat b k - 48).toNat 0 (by omega)
        rw [show ((0 : Nat) : Int) = 0 from rfl] at this
        rw [this]
        have e : (((bat b k - 48).toNat - 1 + 0 : Nat) : Int) = bat b k - 49 := by omega
        rw [e]; simp [timesL]
      case measure => simp [intOf]; omega
    · go_wp2
      go_ret
      exact ⟨by rw [he.out, List.take_of_length_le (by simp [timesL]; omega)]; rfl, rfl⟩

/-- Two rows of one stage. -/
def two (a b : ByteArray) : Prop := isRow a ∧ isRow b ∧ a.size = b.size
theorem l1Row_t (s : ByteArray) (w : World) (h : isRow s) : Calls Try.prog 115 #[.string s] w fun e w' => e = .returned (.bool true) ∧ ∃ n, w' = w.drewN n := by
  have := l1Row_any s w; rw [B_t h] at this; exact this
theorem l1Row_f (s : ByteArray) (w : World) (h : ¬ isRow s) : Calls Try.prog 115 #[.string s] w fun e w' => e = .returned (.bool false) ∧ ∃ n, w' = w.drewN n := by
  have := l1Row_any s w; rw [B_f h] at this; exact this
end Go.Proofs.Ytpedfjcidbopiaa