/-
  Contracts of chapter 1, the reference's side: products and inverses of rows; two rows of one stage.
-/
import Derived.Test.YtdecjijldcbnjaaL1b
namespace Go.Proofs.Ytdecjijldcbnjaa
open Go.RowKit
set_option linter.unusedVariables false
set_option linter.unusedSimpArgs false
set_option maxRecDepth 100000

theorem l1At_k (s : ByteArray) (k : Nat) (p : Int) (w : World) (hp : p = k + 1) (h2 : k < s.size) (hs : s.size ≤ 1000000) (h3 : 48 ≤ bat s k) :
    Calls Try.prog 94 #[.string s, .int .i64 p] w fun e w' => e = .returned (.int .i64 (bat s k - 48)) ∧ w = w' := by
  have e : p - 1 = k := by omega
  have := l1At_any s p w (by omega) (by omega) (by omega) (by rw [e]; exact h3)
  rw [e] at this; exact this

theorem take_snoc {l : List Int} {k : Nat} (h : k < l.length) : l.take (k + 1) = l.take k ++ [l[k]] := List.take_succ_eq_append_getElem h
theorem mkS_snoc (l : List Int) (s : ByteArray) (v : Int) (hs : s.size = 1) (hv : bat s 0 = v) : mkS l ++ s = mkS (l ++ [v]) := by
  refine str_ext (by rw [size_app, size_mkS, size_mkS, hs]; simp) fun i hi => ?_
  rw [size_app, size_mkS, hs] at hi
  have h1 := bat_lo s 0
  have h2 := bat_hi s 0
  by_cases h : i < l.length
  · rw [bat_append_l _ _ _ (by rw [size_mkS]; exact h)]
    unfold bat mkS
    simp [List.getElem?_append_left, h]
  · obtain rfl : i = l.length := by omega
    have := bat_append_r (mkS l) s 0
    rw [size_mkS] at this
    rw [show (l.length : Nat) = l.length + 0 from rfl, this]
    rw [bat_mkS _ _ (by simp) (by simp; omega) (by simp; omega)]
    simp; exact hv

set_option maxHeartbeats 800000 in
theorem l1Times_any (a b : ByteArray) (w : World) (hb : b.size ≤ 1000000) (ha : a.size ≤ 1000000) (h : ∀ i : Nat, i < b.size → 49 ≤ bat b i ∧ bat b i < 49 + a.size) :
    Calls Try.prog 97 #[.string a, .string b] w fun e w' => e = .returned (.string (timesS a b)) ∧ w = w' := by
  have H := Lib.hid h
  clear h
  go_enter Try.func97, Try.ntmps97
  go_wp2
  go_loop [5, 6] (fun s i => ∃ (k : Nat) (o : ByteArray), k ≤ b.size ∧ i = .int .i64 (k + 1) ∧ s = .string o ∧ o.size ≤ k ∧ Hid (o = mkS ((timesL a b).take k))) (fun _ i => b.size + 1 - (intOf i).toNat)
  case atStart => exact ⟨0, ⟨#[]⟩, by omega, by rfl, rfl, by decide, rfl⟩
  case round =>
    obtain ⟨k, o, hk, rfl, rfl, ho, he⟩ := hrel
    by_cases hlt : k < b.size
    · obtain ⟨h1, h2⟩ := H.out k hlt
      have hy := bat_hi b k
      go_wp2_with (go_at_call 94; refine (l1At_k b k _ _ (by omega) hlt hb (by omega)).mono ?_; rintro e w' ⟨rfl, rfl⟩)
      go_round
      case rel =>
        have hsz : (a.extract ((bat b k - 48).toNat - 1) (bat b k - 48).toNat).size = 1 := by rw [size_ext]; omega
        refine ⟨k + 1, _, by omega, by go_num, rfl, by rw [size_app, hsz]; omega, ?_⟩
        have hl : k < (timesL a b).length := by simp [timesL]; omega
        show _ = _
        rw [take_snoc hl, he.out]
        refine mkS_snoc _ _ _ hsz ?_
        have := bat_ext a ((bat b k - 48).toNat - 1) (bat b k - 48).toNat 0 (by omega)
        rw [show ((0 : Nat) : Int) = 0 from rfl] at this
        rw [this]
        have e : (((bat b k - 48).toNat - 1 + 0 : Nat) : Int) = bat b k - 49 := by omega
        rw [e]; simp [timesL]
      case measure => simp [intOf]; omega
    · go_wp2
      go_ret
      exact ⟨by rw [he.out, List.take_of_length_le (by simp [timesL]; omega)]; rfl, rfl⟩

set_option maxHeartbeats 800000 in
theorem l1Turn_any (a : ByteArray) (w : World) (ha : isRow a) :
    Calls Try.prog 98 #[.string a] w fun e w' => e = .returned (.string (turnS a)) ∧ Below w.heap.size w w' := by
  have h8 := ha.2.1
  have Ha := Lib.hid ha
  clear ha
  go_enter Try.func98, Try.ntmps98
  go_wp2_with (refine wpList_bytes rfl _ 9 22 5 rfl rfl rfl rfl a rfl ?_; intro c w1 hc1 hb1)
  go_loopw [4] (fun i wr => ∃ k : Nat, k ≤ a.size ∧ i = .int .i64 (k + 1) ∧ Cells wr w.heap.size a.size (fun p => .int .u8 (turnAt a (fun p => bat a p) k p)) ∧ Below w.heap.size w wr) (fun i _ => a.size + 1 - (intOf i).toNat)
  case atStart => exact ⟨0, by omega, by rfl, hc1.congr (fun i _ => by simp [turnAt, placeAt]), hb1⟩
  case round =>
    obtain ⟨k, hk, rfl, hc, hbl⟩ := hrel
    by_cases hlt : k < a.size
    · obtain ⟨h1, h2⟩ := Ha.out.2.2.1 k hlt
      obtain ⟨q, hq⟩ : ∃ q : Nat, bat a k = 49 + q := ⟨(bat a k - 49).toNat, by omega⟩
      have hy := bat_hi a k
      have hqs : q < a.size := by omega
      have hcell := hc.cell hqs
      have hfree := hc.free hqs
      have Hq := Lib.hid hq
      have Hc := Lib.hid hc
      have Hbl := Lib.hid hbl
      have hcell : wr.cell? ⟨w.heap.size, (bat a k - 48).toNat - 1, none⟩ = some (.int .u8 (turnAt a (fun p => bat a p) k q)) := by rw [hq]; rw [← hcell]; congr 2; omega
      have hfree : wr.frozen? ⟨w.heap.size, (bat a k - 48).toNat - 1, none⟩ = false := by rw [hq]; rw [← hfree]; congr 2; omega
      clear hc hbl hc1 hb1 hq
      go_wp2_with (go_at_call 94; refine (l1At_k a k _ _ (by omega) hlt (by omega) (by omega)).mono ?_; rintro e w' ⟨rfl, rfl⟩)
      go_roundw
      case rel =>
        have hq := Hq.out
        refine ⟨k + 1, by omega, by go_num, ?_, Hbl.out.setCell (p := ⟨w.heap.size, (bat a k - 48).toNat - 1, none⟩) (Nat.le_refl _) _⟩
        rw [show (bat a k - 48).toNat - 1 = q from by omega]
        refine (Hc.out.set hqs _).congr fun j _ => ?_
        have := turnAt_step (fun p => bat a p) k q hq j
        by_cases e : j = q
        · subst e; rw [upd_same]; rw [if_pos rfl] at this; rw [← this]; congr 1; omega
        · rw [upd_other _ _ _ _ e]; rw [if_neg e] at this; rw [← this]
      case measure => simp [intOf]; omega
    · obtain rfl : k = a.size := by omega
      have hs := hc.str (P := Try.prog) (turnL a) (by simp [turnL]) (fun i hi => by rw [turnAt_end Ha.out _ i hi]; simp [turnL]) 22 5 9 c rfl rfl rfl
      have Hbl := Lib.hid hbl
      clear hc hbl hc1 hb1
      go_wp2
      go_ret
      exact ⟨rfl, Hbl.out⟩

/-- Two rows of one stage. -/
def two (a b : ByteArray) : Prop := isRow a ∧ isRow b ∧ a.size = b.size
theorem l1Row_t (s : ByteArray) (w : World) (h : isRow s) : Calls Try.prog 100 #[.string s] w fun e w' => e = .returned (.bool true) ∧ ∃ n, w' = w.drewN n := by
  have := l1Row_any s w; rw [B_t h] at this; exact this
theorem l1Row_f (s : ByteArray) (w : World) (h : ¬ isRow s) : Calls Try.prog 100 #[.string s] w fun e w' => e = .returned (.bool false) ∧ ∃ n, w' = w.drewN n := by
  have := l1Row_any s w; rw [B_f h] at this; exact this
theorem l1Two_any (a b : ByteArray) (w : World) :
    Calls Try.prog 90 #[.string a, .string b] w fun e w' => e = .returned (.bool (B (two a b))) ∧ ∃ n, w' = w.drewN n := by
  by_cases h1 : isRow a
  · have e1 := B_t h1
    have h8 := h1.2.1
    by_cases h2 : isRow b
    · have e2 := B_t h2
      have h9 := h2.2.1
      by_cases h3 : a.size = b.size
      · have h3b : ((a.size : Int) == b.size) = true := by simp [h3]
        have H3 := Lib.hid h3
        clear h3
        go_enter Try.func90, Try.ntmps90
        go_wp2_with (go_at_call 100; refine (l1Row_any _ _).mono ?_; rintro e w' ⟨rfl, n1, rfl⟩)
        go_ret
        exact ⟨ret_t ⟨h1, h2, H3.out⟩, _, rfl⟩
      · have h3b : ((a.size : Int) == b.size) = false := by simp; omega
        have H3 := Lib.hid h3
        clear h3
        go_enter Try.func90, Try.ntmps90
        go_wp2_with (go_at_call 100; refine (l1Row_any _ _).mono ?_; rintro e w' ⟨rfl, n1, rfl⟩)
        go_ret
        exact ⟨ret_f (fun x => H3.out x.2.2), _, rfl⟩
    · have e2 := B_f h2
      go_enter Try.func90, Try.ntmps90
      go_wp2_with (go_at_call 100; refine (l1Row_any _ _).mono ?_; rintro e w' ⟨rfl, n1, rfl⟩)
      go_ret
      exact ⟨ret_f (fun x => h2 x.2.1), _, rfl⟩
  · have e1 := B_f h1
    go_enter Try.func90, Try.ntmps90
    go_wp2_with (go_at_call 100; refine (l1Row_any _ _).mono ?_; rintro e w' ⟨rfl, n1, rfl⟩)
    go_ret
    exact ⟨ret_f (fun x => h1 x.1), _, rfl⟩
end Go.Proofs.Ytdecjijldcbnjaa