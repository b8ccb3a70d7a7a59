import Derived.Test.YtbfhfnejppfehaaMSlipsL08
import Derived.Test.YtbfhfnejppfehaaMSlipsL06
import Derived.Test.YtbfhfnejppfehaaMSlipsL26
import Derived.Test.YtbfhfnejppfehaaMSlipsL28
import Derived.Test.YtbfhfnejppfehaaMSlipsL30
import Derived.Test.YtbfhfnejppfehaaMSlipsL31
import Derived.Test.YtbfhfnejppfehaaMSlipsL22
/-
  Contracts: lists that are the same (the laws' comparisons).
-/
namespace Go.Proofs.Ytbfhfnejppfehaa
open Go.RowKit
set_option linter.unusedVariables false
set_option linter.unusedSimpArgs false
set_option maxRecDepth 100000

set_option maxHeartbeats 1600000 in
theorem qSameN_t (l : List Int) (A A' : Option Addr) (c c' : Nat) (w : World) (h : RdL w w.heap.size A 1 encInt l) (h' : RdL w w.heap.size A' 1 encInt l) (hl : l.length ≤ 1048576) :
    Calls Try.prog 63 #[.slice A l.length c, .slice A' l.length c'] w fun e w' => e = .returned (.bool true) ∧ ∃ n, w' = w.drewN n := by
  have H := Lib.hid h
  have H' := Lib.hid h'
  clear h h'
  go_enter Try.func63, Try.ntmps63
  go_wp2
  go_loopw [13] (fun i wr => ∃ k : Nat, k ≤ l.length ∧ i = .int .i64 k ∧ ∃ n, wr = w.drewN n) (fun i _ => l.length - (intOf i).toNat)
  case atStart => exact ⟨0, by omega, by rfl, 0, rfl⟩
  case round =>
    obtain ⟨k, hk, rfl, hdr⟩ := hrel
    have Hdr := Lib.hid hdr
    clear hdr
    by_cases hlt : k < l.length
    · obtain ⟨g, off, hA, hg, hcell⟩ := H.out.at hlt
      obtain ⟨g', off', hA', hg', hcell'⟩ := H'.out.at hlt
      subst hA hA'
      have r0 : wr.cell? ⟨g, off + k, none⟩ = some (.int .i64 l[k]) := by obtain ⟨n, e⟩ := Hdr.out; rw [e]; have := hcell 0 _ rfl; rw [Nat.mul_one] at this; exact this
      have q0 : wr.cell? ⟨g', off' + k, none⟩ = some (.int .i64 l[k]) := by obtain ⟨n, e⟩ := Hdr.out; rw [e]; have := hcell' 0 _ rfl; rw [Nat.mul_one] at this; exact this
      clear hcell hcell'
      obtain ⟨x, hx⟩ : ∃ x, Hid (l[k] = x) := ⟨_, Lib.hid rfl⟩
      rw [hx.out] at r0 q0
      go_wp2
      go_quiet (fail)
      go_wp2
      go_roundw
      case rel => exact ⟨k + 1, by omega, by go_num, by obtain ⟨n, e⟩ := Hdr.out; rw [e, drew2]; exact ⟨_, rfl⟩⟩
      case measure => simp [intOf]; omega
    · go_wp2
      go_ret
      exact ⟨rfl, Hdr.out⟩
set_option maxHeartbeats 1600000 in
theorem qSameP_t (l : List (List Int)) (A A' : Option Addr) (c c' : Nat) (w : World) (h : RdS w w.heap.size A l) (h' : RdS w w.heap.size A' l) (hl : l.length ≤ 1048576) (hx9 : ∀ x ∈ l, x.length ≤ 1048576) :
    Calls Try.prog 19 #[.slice A l.length c, .slice A' l.length c'] w fun e w' => e = .returned (.bool true) ∧ ∃ n, w' = w.drewN n := by
  obtain ⟨D, hD, hr, hi⟩ := h
  obtain ⟨D', hD', hr', hi'⟩ := h'
  have hn : l.length = D.length := by rw [← hD]; simp
  have hn' : D'.length = D.length := by rw [← hn, ← hD']; simp
  have hx : ∀ (k : Nat) (h1 : k < D.length) (h2 : k < D'.length), D'[k].x = D[k].x := fun k h1 h2 => by
    have e1 : (D.map Sl.x)[k]? = (D'.map Sl.x)[k]? := by rw [hD, hD']
    simpa [h1, h2] using e1.symm
  have hxl : ∀ (k : Nat) (h1 : k < D.length), D[k].x.length ≤ 1048576 := fun k h1 => hx9 _ (by rw [← hD]; exact List.mem_map.2 ⟨_, List.getElem_mem h1, rfl⟩)
  rw [hn] at hl ⊢
  have Hx := Lib.hid hx
  have Hxl := Lib.hid hxl
  have Hn := Lib.hid hn'
  have Hr := Lib.hid hr
  have Hr' := Lib.hid hr'
  have Hi := Lib.hid hi
  have Hi' := Lib.hid hi'
  clear hx9 hx hxl hn hn' hD hD' hr hr' hi hi'
  go_enter Try.func19, Try.ntmps19
  go_wp2
  go_loopw [13] (fun i wr => ∃ k : Nat, k ≤ D.length ∧ i = .int .i64 k ∧ ∃ n, wr = w.drewN n) (fun i _ => D.length - (intOf i).toNat)
  case atStart => exact ⟨0, by omega, by rfl, 0, rfl⟩
  case round =>
    obtain ⟨k, hk, rfl, hdr⟩ := hrel
    have Hdr := Lib.hid hdr
    clear hdr
    by_cases hlt : k < D.length
    · have hlt' : k < D'.length := by rw [Hn.out]; exact hlt

      obtain ⟨g, off, hA, hg, hcell⟩ := Hr.out.at hlt
      obtain ⟨g', off', hA', hg', hcell'⟩ := Hr'.out.at hlt'
      subst hA hA'
      have r0 : wr.cell? ⟨g, off + k, none⟩ = some (.slice D[k].A D[k].x.length D[k].c) := by obtain ⟨n, e⟩ := Hdr.out; rw [e]; have := hcell 0 _ rfl; rw [Nat.mul_one] at this; exact this
      have q0 : wr.cell? ⟨g', off' + k, none⟩ = some (.slice D'[k].A D'[k].x.length D'[k].c) := by obtain ⟨n, e⟩ := Hdr.out; rw [e]; have := hcell' 0 _ rfl; rw [Nat.mul_one] at this; exact this
      have hrk := Hi.out _ (List.getElem_mem hlt)
      have hrk' := Hi'.out _ (List.getElem_mem hlt')
      have hxk := Hxl.out k hlt
      rw [Hx.out k hlt hlt'] at q0 hrk'
      clear hcell hcell'
      have Hrk := Lib.hid hrk
      have Hrk' := Lib.hid hrk'
      clear hrk hrk'
      generalize D[k].A = a1 at r0 Hrk
      generalize D'[k].A = a2 at q0 Hrk'
      generalize D[k].c = c1 at r0
      generalize D'[k].c = c2 at q0
      generalize D[k].x = x at r0 q0 Hrk Hrk' hxk
      have hcall : Hid (∀ n, Calls Try.prog 63 #[.slice a1 x.length c1, .slice a2 x.length c2] (wr.drewN n) fun e w' => e = .returned (.bool true) ∧ ∃ m, w' = (wr.drewN n).drewN m) := Lib.hid (fun n => by
        obtain ⟨m, e⟩ := Hdr.out
        rw [e, drew2]
        exact qSameN_t x a1 a2 c1 c2 (w.drewN (m + n)) Hrk.out Hrk'.out hxk)
      go_wp2
      go_quiet ((go_at_call 63; exact Calls.quiet_of (hcall.out _)))
      go_wp2
      go_roundw
      case rel => exact ⟨k + 1, by omega, by go_num, by obtain ⟨n, e⟩ := Hdr.out; rw [e, drew2]; exact ⟨_, rfl⟩⟩
      case measure => simp [intOf]; omega
    · go_wp2
      go_ret
      exact ⟨rfl, Hdr.out⟩
end Go.Proofs.Ytbfhfnejppfehaa

/-
  Contracts on faults that hold in every case, for the laws over drawn inputs.
-/
namespace Go.Proofs.Ytbfhfnejppfehaa
open Go.RowKit
set_option linter.unusedVariables false
set_option linter.unusedSimpArgs false
set_option maxRecDepth 100000

open Classical in
noncomputable def rungR (rows : List ByteArray) (l : List Slp) : List ByteArray × Bool := if slipsP rows l then (rungTo rows l rows.length, true) else ([], false)
open Classical in
noncomputable def slR (want rung : List ByteArray) : List Slp × Bool := if slipsOfP want rung then (slipsTo want rung want.length, true) else ([], false)
open Classical in
noncomputable def fsR (a b : List ByteArray) : Int × Bool := if twoRows a b ∧ partAt a b < a.length then ((partAt a b : Int), true) else (0, false)
open Classical in
noncomputable def spR (a b : List ByteArray) : List (List Int) × Bool := if twoRows a b then (spansL a b, true) else ([], false)
theorem rungR_t {rows : List ByteArray} {l : List Slp} (h : slipsP rows l) : rungR rows l = (rungTo rows l rows.length, true) := if_pos h
theorem rungR_f {rows : List ByteArray} {l : List Slp} (h : ¬ slipsP rows l) : rungR rows l = ([], false) := if_neg h
theorem slR_t {a b : List ByteArray} (h : slipsOfP a b) : slR a b = (slipsTo a b a.length, true) := if_pos h
theorem slR_f {a b : List ByteArray} (h : ¬ slipsOfP a b) : slR a b = ([], false) := if_neg h
theorem rungR_len (rows : List ByteArray) (l : List Slp) : (rungR rows l).1.length ≤ rows.length := by
  unfold rungR; split
  · simp only; rw [rungTo_len]; exact Nat.le_refl _
  · exact Nat.zero_le _
theorem slR_len (a b : List ByteArray) : (slR a b).1.length ≤ 20 := by
  unfold slR; split
  · rename_i h; exact h.2
  · exact Nat.zero_le _
theorem spR_len (a b : List ByteArray) : (spR a b).1.length ≤ 800 ∧ tot (spR a b).1 ≤ 1600 := by
  unfold spR; split
  · rename_i h; exact spansL_len h
  · exact ⟨Nat.zero_le _, Nat.zero_le _⟩
theorem rungTo_at (rows : List ByteArray) (l : List Slp) (k i : Nat) (h : i < (rungTo rows l k).length) : (rungTo rows l k)[i] = slpAll (rows.getD i ⟨#[]⟩) i l := by simp [rungTo]
theorem rungR_small {rows : List ByteArray} {l : List Slp} : ∀ r ∈ (rungR rows l).1, r.size ≤ 8 := by
  unfold rungR; split
  · rename_i h
    intro r hr
    obtain ⟨i, hi, rfl⟩ := List.getElem_of_mem hr
    rw [rungTo_at]
    have hl : i < rows.length := by rw [rungTo_len] at hi; exact hi
    have hk := h.rung i hl
    have := slpAll_row (r := rows[i]) (i := (i : Int)) (l := l) hk.1 hk.2
    rw [List.getD_eq_getElem?_getD, List.getElem?_eq_getElem hl]
    have h8 := hk.1.2.1
    simp only [Option.getD_some]; omega
  · simp


theorem sRung_r (rows : List ByteArray) (l : List Slp) (A A' : Option Addr) (c c' : Nat) (w : World) (h : RdL w w.heap.size A 1 encString rows) (h' : RdL w w.heap.size A' 3 Slp.enc l) (hl : rows.length ≤ 1048576) (hl' : l.length ≤ 1048576) (hs : ∀ x ∈ rows, String_small 1048576 x) :
    Calls Try.prog 11 #[.slice A rows.length c, .slice A' l.length c'] w fun e w' => ∃ A2 c2, e = .returned (.tuple #[.slice A2 (rungR rows l).1.length c2, .bool (rungR rows l).2]) ∧ Aw w' w.heap.size A2 1 encString (rungR rows l).1 ∧ Below w.heap.size w w' := by
  by_cases hp : slipsP rows l
  · rw [rungR_t hp]
    exact (sRung_t rows l A A' c c' w h h' hl hl' hs hp).mono fun e w' ⟨A2, c2, h1, h2, h3⟩ => ⟨A2, c2, h1, Aw.own h2 encString_len (Nat.le_refl _), h3⟩
  · rw [rungR_f hp]
    exact (sRung_f rows l A A' c c' w h h' hl hl' hs hp).mono fun e w' ⟨h1, h3⟩ => ⟨none, 0, h1, ⟨.inl rfl, .inl rfl⟩, h3⟩
theorem iRung_r (rows : List ByteArray) (l : List Slp) (A A' : Option Addr) (c c' : Nat) (w : World) (h : RdL w w.heap.size A 1 encString rows) (h' : RdL w w.heap.size A' 3 Slp.enc l) (hl : rows.length ≤ 1048576) (hl' : l.length ≤ 1048576) (hs : ∀ x ∈ rows, String_small 1048576 x) :
    Calls Try.prog 10 #[.slice A rows.length c, .slice A' l.length c'] w fun e w' => ∃ A2 c2, e = .returned (.tuple #[.slice A2 (rungR rows l).1.length c2, .bool (rungR rows l).2]) ∧ Aw w' w.heap.size A2 1 encString (rungR rows l).1 ∧ Below w.heap.size w w' := by
  by_cases hp : slipsP rows l
  · rw [rungR_t hp]
    exact (iRung_t rows l A A' c c' w h h' hl hl' hs hp).mono fun e w' ⟨A2, c2, h1, h2, h3⟩ => ⟨A2, c2, h1, Aw.own h2 encString_len (Nat.le_refl _), h3⟩
  · rw [rungR_f hp]
    exact (iRung_f rows l A A' c c' w h h' hl hl' hs hp).mono fun e w' ⟨h1, h3⟩ => ⟨none, 0, h1, ⟨.inl rfl, .inl rfl⟩, h3⟩


theorem sFirst_r (a b : List ByteArray) (A A' : Option Addr) (c c' : Nat) (w : World) (h : RdL w w.heap.size A 1 encString a) (h' : RdL w w.heap.size A' 1 encString b) (hl : a.length ≤ 1048576) (hl' : b.length ≤ 1048576) (hs : ∀ x ∈ a, String_small 1048576 x) (hs' : ∀ x ∈ b, String_small 1048576 x) :
    Calls Try.prog 14 #[.slice A a.length c, .slice A' b.length c'] w fun e w' => e = .returned (.tuple #[.int .i64 (fsR a b).1, .bool (fsR a b).2]) ∧ Below w.heap.size w w' := by
  unfold fsR
  by_cases ht : twoRows a b
  · by_cases hp : partAt a b < a.length
    · rw [if_pos ⟨ht, hp⟩]; exact sFirst_t a b A A' c c' w h h' hl hl' hs hs' ht hp
    · rw [if_neg (fun e => hp e.2)]; exact sFirst_e a b A A' c c' w h h' hl hl' hs hs' ht hp
  · rw [if_neg (fun e => ht e.1)]; exact sFirst_f a b A A' c c' w h h' hl hl' hs hs' ht
theorem iFirst_r (a b : List ByteArray) (A A' : Option Addr) (c c' : Nat) (w : World) (h : RdL w w.heap.size A 1 encString a) (h' : RdL w w.heap.size A' 1 encString b) (hl : a.length ≤ 1048576) (hl' : b.length ≤ 1048576) (hs : ∀ x ∈ a, String_small 1048576 x) (hs' : ∀ x ∈ b, String_small 1048576 x) :
    Calls Try.prog 13 #[.slice A a.length c, .slice A' b.length c'] w fun e w' => e = .returned (.tuple #[.int .i64 (fsR a b).1, .bool (fsR a b).2]) ∧ Below w.heap.size w w' := by
  unfold fsR
  by_cases ht : twoRows a b
  · by_cases hp : partAt a b < a.length
    · rw [if_pos ⟨ht, hp⟩]; exact iFirst_t a b A A' c c' w h h' hl hl' hs hs' ht hp
    · rw [if_neg (fun e => hp e.2)]; exact iFirst_e a b A A' c c' w h h' hl hl' hs hs' ht hp
  · rw [if_neg (fun e => ht e.1)]; exact iFirst_f a b A A' c c' w h h' hl hl' hs hs' ht

theorem sSpans_r (a b : List ByteArray) (A A' : Option Addr) (c c' : Nat) (w : World) (h : RdL w w.heap.size A 1 encString a) (h' : RdL w w.heap.size A' 1 encString b) (hl : a.length ≤ 1048576) (hl' : b.length ≤ 1048576) (hs : ∀ x ∈ a, String_small 1048576 x) (hs' : ∀ x ∈ b, String_small 1048576 x) :
    Calls Try.prog 16 #[.slice A a.length c, .slice A' b.length c'] w fun e w' => ∃ A2 c2, e = .returned (.tuple #[.slice A2 (spR a b).1.length c2, .bool (spR a b).2]) ∧ RdS w' w'.heap.size A2 (spR a b).1 ∧ Below w.heap.size w w' := by
  unfold spR
  by_cases ht : twoRows a b
  · rw [if_pos ht]
    exact (sSpans_t a b A A' c c' w h h' hl hl' hs hs' ht).mono fun e w' ⟨A2, c2, h1, h2, h3⟩ => ⟨A2, c2, h1, h2.rd trivial, h3⟩
  · rw [if_neg ht]
    exact (sSpans_f a b A A' c c' w h h' hl hl' hs hs' ht).mono fun e w' ⟨h1, h3⟩ => ⟨none, 0, h1, ⟨[], rfl, .inl rfl, by simp⟩, h3⟩
theorem iSpans_r (a b : List ByteArray) (A A' : Option Addr) (c c' : Nat) (w : World) (h : RdL w w.heap.size A 1 encString a) (h' : RdL w w.heap.size A' 1 encString b) (hl : a.length ≤ 1048576) (hl' : b.length ≤ 1048576) (hs : ∀ x ∈ a, String_small 1048576 x) (hs' : ∀ x ∈ b, String_small 1048576 x) :
    Calls Try.prog 15 #[.slice A a.length c, .slice A' b.length c'] w fun e w' => ∃ A2 c2, e = .returned (.tuple #[.slice A2 (spR a b).1.length c2, .bool (spR a b).2]) ∧ RdS w' w'.heap.size A2 (spR a b).1 ∧ Below w.heap.size w w' := by
  unfold spR
  by_cases ht : twoRows a b
  · rw [if_pos ht]
    exact (iSpans_t a b A A' c c' w h h' hl hl' hs hs' ht).mono fun e w' ⟨A2, c2, h1, h2, h3⟩ => ⟨A2, c2, h1, h2.rd trivial, h3⟩
  · rw [if_neg ht]
    exact (iSpans_f a b A A' c c' w h h' hl hl' hs hs' ht).mono fun e w' ⟨h1, h3⟩ => ⟨none, 0, h1, ⟨[], rfl, .inl rfl, by simp⟩, h3⟩

theorem sSlips_r (a b : List ByteArray) (A A' : Option Addr) (c c' : Nat) (w : World) (h : RdL w w.heap.size A 1 encString a) (h' : RdL w w.heap.size A' 1 encString b) (hl : a.length ≤ 1048576) (hl' : b.length ≤ 1048576) (hs : ∀ x ∈ a, String_small 1048576 x) (hs' : ∀ x ∈ b, String_small 1048576 x) (hc : a.length ≤ c) :
    Calls Try.prog 8 #[.slice A a.length c, .slice A' b.length c'] w fun e w' => ∃ A2 c2, e = .returned (.tuple #[.slice A2 (slR a b).1.length c2, .bool (slR a b).2]) ∧ RdL w' w'.heap.size A2 3 Slp.enc (slR a b).1 ∧ Below w.heap.size w w' := by
  by_cases hp : slipsOfP a b
  · rw [slR_t hp]
    exact (sSlips_t a b A A' c c' w h h' hl hl' hs hs' hc hp.1 hp.2).mono fun e w' ⟨A2, c2, h1, h2, h3⟩ => ⟨A2, c2, h1, h2.rd Slp_enc_len, h3⟩
  · rw [slR_f hp]
    exact (sSlips_f a b A A' c c' w h h' hl hl' hs hs' hc hp).mono fun e w' ⟨h1, h3⟩ => ⟨none, 0, h1, .inl rfl, h3⟩
theorem iSlips_r (a b : List ByteArray) (A A' : Option Addr) (c c' : Nat) (w : World) (h : RdL w w.heap.size A 1 encString a) (h' : RdL w w.heap.size A' 1 encString b) (hl : a.length ≤ 1048576) (hl' : b.length ≤ 1048576) (hs : ∀ x ∈ a, String_small 1048576 x) (hs' : ∀ x ∈ b, String_small 1048576 x) (hc : a.length ≤ c) :
    Calls Try.prog 7 #[.slice A a.length c, .slice A' b.length c'] w fun e w' => ∃ A2 c2, e = .returned (.tuple #[.slice A2 (slR a b).1.length c2, .bool (slR a b).2]) ∧ RdL w' w'.heap.size A2 3 Slp.enc (slR a b).1 ∧ Below w.heap.size w w' := by
  by_cases hp : slipsOfP a b
  · rw [slR_t hp]
    exact (iSlips_t a b A A' c c' w h h' hl hl' hs hs' hc hp.1 hp.2).mono fun e w' ⟨A2, c2, h1, h2, h3⟩ => ⟨A2, c2, h1, h2.rd Slp_enc_len, h3⟩
  · rw [slR_f hp]
    exact (iSlips_f a b A A' c c' w h h' hl hl' hs hs' hc hp).mono fun e w' ⟨h1, h3⟩ => ⟨none, 0, h1, .inl rfl, h3⟩
end Go.Proofs.Ytbfhfnejppfehaa
