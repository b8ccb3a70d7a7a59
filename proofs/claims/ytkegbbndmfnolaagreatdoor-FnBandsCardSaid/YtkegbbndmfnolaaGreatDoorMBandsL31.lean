import Derived.Test.YtkegbbndmfnolaaGreatDoorMBandsL01
import Derived.Test.YtkegbbndmfnolaaGreatDoorMBandsL04
import Derived.Test.YtkegbbndmfnolaaGreatDoorMBandsL02
import Derived.Test.YtkegbbndmfnolaaGreatDoorMBandsL08
import Derived.Deep.Cut
import Derived.Test.YtkegbbndmfnolaaGreatDoorMBandsL00
import Derived.Test.YtkegbbndmfnolaaGreatDoorMBandsL25
import Derived.Test.YtkegbbndmfnolaaGreatDoorMBandsL13
import Derived.Test.YtkegbbndmfnolaaGreatDoorMBandsL14
/-
 Contracts: lists of ints and of strings, methods and bands that are the same (the laws' comparisons).
-/
namespace Go.Proofs.YtkegbbndmfnolaaGreatDoor
open Go.RowKit
set_option linter.unusedVariables false
set_option linter.unusedSimpArgs false
set_option maxRecDepth 100000


set_option maxHeartbeats 1600000 in
theorem sameTexts_t (l : List ByteArray) (A A' : Option Addr) (c c' : Nat) (w : World) (h : RdL w w.heap.size A 1 encString l) (h' : RdL w w.heap.size A' 1 encString l) (hl : l.length ≤ 1048576) :
  Calls Tryz.prog 10 #[.slice A l.length c, .slice A' l.length c'] w fun e w' => e = .returned (.bool true) ∧ ∃ n, w' = w.drewN n := by
 have H := Lib.hid h
 have H' := Lib.hid h'
 clear h h'
 go_enter Tryz.func10, Tryz.ntmps10
 go_wp2
 go_loopw [13] (fun i wr => ∃ k : Nat, k ≤ l.length ∧ i = .int .i64 k ∧ ∃ n, wr = w.drewN n) (fun i _ => l.length - (intOf i).toNat)
 case atStart => exact ⟨0, by omega, by rfl, 0, rfl⟩
 case round =>
  obtain ⟨k, hk, rfl, hdr⟩ := hrel
  have Hdr := Lib.hid hdr
  clear hdr
  by_cases hlt : k < l.length
  ·obtain ⟨g, off, hA, hg, hcell⟩ := H.out.at hlt
   obtain ⟨g', off', hA', hg', hcell'⟩ := H'.out.at hlt
   subst hA hA'
   have r0 : wr.cell? ⟨g, off + k, none⟩ = some (.string l[k]) := by obtain ⟨n, e⟩ := Hdr.out; rw [e]; have := hcell 0 _ rfl; rw [Nat.mul_one] at this; exact this
   have q0 : wr.cell? ⟨g', off' + k, none⟩ = some (.string l[k]) := by obtain ⟨n, e⟩ := Hdr.out; rw [e]; have := hcell' 0 _ rfl; rw [Nat.mul_one] at this; exact this
   clear hcell hcell'
   obtain ⟨x, hx⟩ : ∃ x, Hid (l[k] = x) := ⟨_, Lib.hid rfl⟩
   rw [hx.out] at r0 q0
   go_wp2
   go_quiet (fail)
   go_wp2
   go_roundw
   case rel => exact ⟨k + 1, by omega, by go_num, by obtain ⟨n, e⟩ := Hdr.out; rw [e, drew2]; exact ⟨_, rfl⟩⟩
   case measure => simp [intOf]; omega
  ·go_wp2
   go_ret
   exact ⟨rfl, Hdr.out⟩
set_option maxHeartbeats 1600000 in
theorem l1SameS_t (l : List ByteArray) (A A' : Option Addr) (c c' : Nat) (w : World) (h : RdL w w.heap.size A 1 encString l) (h' : RdL w w.heap.size A' 1 encString l) (hl : l.length ≤ 1048576) :
  Calls Tryz.prog 125 #[.slice A l.length c, .slice A' l.length c'] w fun e w' => e = .returned (.bool true) ∧ ∃ n, w' = w.drewN n := by
 have H := Lib.hid h
 have H' := Lib.hid h'
 clear h h'
 go_enter Tryz.func125, Tryz.ntmps125
 go_wp2
 go_loopw [13] (fun i wr => ∃ k : Nat, k ≤ l.length ∧ i = .int .i64 k ∧ ∃ n, wr = w.drewN n) (fun i _ => l.length - (intOf i).toNat)
 case atStart => exact ⟨0, by omega, by rfl, 0, rfl⟩
 case round =>
  obtain ⟨k, hk, rfl, hdr⟩ := hrel
  have Hdr := Lib.hid hdr
  clear hdr
  by_cases hlt : k < l.length
  ·obtain ⟨g, off, hA, hg, hcell⟩ := H.out.at hlt
   obtain ⟨g', off', hA', hg', hcell'⟩ := H'.out.at hlt
   subst hA hA'
   have r0 : wr.cell? ⟨g, off + k, none⟩ = some (.string l[k]) := by obtain ⟨n, e⟩ := Hdr.out; rw [e]; have := hcell 0 _ rfl; rw [Nat.mul_one] at this; exact this
   have q0 : wr.cell? ⟨g', off' + k, none⟩ = some (.string l[k]) := by obtain ⟨n, e⟩ := Hdr.out; rw [e]; have := hcell' 0 _ rfl; rw [Nat.mul_one] at this; exact this
   clear hcell hcell'
   obtain ⟨x, hx⟩ : ∃ x, Hid (l[k] = x) := ⟨_, Lib.hid rfl⟩
   rw [hx.out] at r0 q0
   go_wp2
   go_quiet (fail)
   go_wp2
   go_roundw
   case rel => exact ⟨k + 1, by omega, by go_num, by obtain ⟨n, e⟩ := Hdr.out; rw [e, drew2]; exact ⟨_, rfl⟩⟩
   case measure => simp [intOf]; omega
  ·go_wp2
   go_ret
   exact ⟨rfl, Hdr.out⟩


set_option maxHeartbeats 1600000 in
theorem sameMethod_t (nm : ByteArray) (st : Int) (x : List ByteArray) (A A' : Option Addr) (c c' : Nat) (w : World) (h : RdL w w.heap.size A 1 encString x) (h' : RdL w w.heap.size A' 1 encString x) (hl : x.length ≤ 1048576) :
  Calls Tryz.prog 69 #[.agg #[Value.string nm, .int .i64 st, .slice A x.length c], .agg #[Value.string nm, .int .i64 st, .slice A' x.length c']] w fun e w' => e = .returned (.bool true) ∧ Below w.heap.size w w' := by
 have hB : Hid (Below w.heap.size w ((w.alloc (.cells #[Value.string nm, .int .i64 st, .slice A x.length c] 26)).alloc (.cells #[Value.string nm, .int .i64 st, .slice A' x.length c'] 26))) := Lib.hid (((Below.refl _ _).alloc (Nat.le_refl _) _).alloc (by simp) _)
 have H := Lib.hid h
 have H' := Lib.hid h'
 clear h h'
 go_enter Tryz.func69, Tryz.ntmps69
 go_wp2_with (first | (go_at_call 125; refine (l1SameS_t x A A' c c' _ ((H.out.below hB.out (Nat.le_refl _)).more hB.out.size) ((H'.out.below hB.out (Nat.le_refl _)).more hB.out.size) hl).mono ?_; rintro e w1 ⟨rfl, k, rfl⟩))
 go_ret
 exact ⟨rfl, (below_drewN hB.out _)⟩


set_option maxHeartbeats 3200000 in
theorem sameBand_t (d : Bd) (A1 : Option Addr) (c1 : Nat) (A3 : Option Addr) (c3 : Nat) (B1 : Option Addr) (e1 : Nat) (B3 : Option Addr) (e3 : Nat) (w : World) (h1 : RdL w w.heap.size A1 1 encString d.x) (h2 : RdL w w.heap.size B1 1 encString d.x) (h3 : RdL w w.heap.size A3 2 Rgr.enc d.rx) (h4 : RdL w w.heap.size B3 2 Rgr.enc d.rx) (hl : d.x.length ≤ 1048576) (hrl : d.rx.length ≤ 1048576) :
  Calls Tryz.prog 15 #[.agg #[Value.string d.name, .int .i64 d.stage, .slice A1 d.x.length c1, .string d.bob, .string d.sing, .int .i64 d.step, .string d.call, .string d.tru, .slice A3 d.rx.length c3], .agg #[Value.string d.name, .int .i64 d.stage, .slice B1 d.x.length e1, .string d.bob, .string d.sing, .int .i64 d.step, .string d.call, .string d.tru, .slice B3 d.rx.length e3]] w fun e w' => e = .returned (.bool true) ∧ Below w.heap.size w w' := by
 obtain ⟨W, hWe, hWs, hWb, hA, hB⟩ : ∃ W : World, Hid (((w.alloc (.cells #[Value.string d.name, .int .i64 d.stage, .slice A1 d.x.length c1, .string d.bob, .string d.sing, .int .i64 d.step, .string d.call, .string d.tru, .slice A3 d.rx.length c3] 36)).alloc (.cells #[Value.string d.name, .int .i64 d.stage, .slice B1 d.x.length e1, .string d.bob, .string d.sing, .int .i64 d.step, .string d.call, .string d.tru, .slice B3 d.rx.length e3] 36)) = W) ∧ Hid (W.heap.size = w.heap.size + 2) ∧ Hid (Below w.heap.size w W) ∧ Hid (Cells W w.heap.size 9 (fun i => (#[Value.string d.name, .int .i64 d.stage, .slice A1 d.x.length c1, .string d.bob, .string d.sing, .int .i64 d.step, .string d.call, .string d.tru, .slice A3 d.rx.length c3] : Array Value).getD i undef)) ∧ Hid (Cells W (w.heap.size + 1) 9 (fun i => (#[Value.string d.name, .int .i64 d.stage, .slice B1 d.x.length e1, .string d.bob, .string d.sing, .int .i64 d.step, .string d.call, .string d.tru, .slice B3 d.rx.length e3] : Array Value).getD i undef)) := by
  have z1 : w.heap.size + 1 = (w.alloc (.cells #[Value.string d.name, .int .i64 d.stage, .slice A1 d.x.length c1, .string d.bob, .string d.sing, .int .i64 d.step, .string d.call, .string d.tru, .slice A3 d.rx.length c3] 36)).heap.size := by simp
  refine ⟨_, Lib.hid rfl, Lib.hid (by simp), Lib.hid (((Below.refl _ _).alloc (Nat.le_refl _) _).alloc (by simp) _), Lib.hid ?_, Lib.hid ?_⟩
  ·exact (Cells.newD _ #[Value.string d.name, .int .i64 d.stage, .slice A1 d.x.length c1, .string d.bob, .string d.sing, .int .i64 d.step, .string d.call, .string d.tru, .slice A3 d.rx.length c3] _).alloc _
  ·rw [z1]; exact Cells.newD _ #[Value.string d.name, .int .i64 d.stage, .slice B1 d.x.length e1, .string d.bob, .string d.sing, .int .i64 d.step, .string d.call, .string d.tru, .slice B3 d.rx.length e3] _
 have hWs1 : w.heap.size + 2 = W.heap.size := hWs.out.symm
 have HM := Lib.hid (fun (W' : World) (hb : Below W.heap.size W W') => sameMethod_t d.name d.stage d.x A1 B1 c1 e1 W' ((h1.below (hWb.out.trans (hb.mono hWb.out.size)) (Nat.le_refl _)).more (Nat.le_trans hWb.out.size hb.size)) ((h2.below (hWb.out.trans (hb.mono hWb.out.size)) (Nat.le_refl _)).more (Nat.le_trans hWb.out.size hb.size)) hl)
 have H3 := Lib.hid ((h3.below hWb.out (Nat.le_refl _)).more hWb.out.size)
 have H4 := Lib.hid ((h4.below hWb.out (Nat.le_refl _)).more hWb.out.size)
 clear h1 h2 h3 h4
 have u0 := hA.out.cell (i := 0) (by omega)
 have u1 := hA.out.cell (i := 1) (by omega)
 have u2 := hA.out.cell (i := 2) (by omega)
 have u3 := hA.out.cell (i := 3) (by omega)
 have u4 := hA.out.cell (i := 4) (by omega)
 have u5 := hA.out.cell (i := 5) (by omega)
 have u6 := hA.out.cell (i := 6) (by omega)
 have u7 := hA.out.cell (i := 7) (by omega)
 have u8 := hA.out.cell (i := 8) (by omega)
 have v0 := hB.out.cell (i := 0) (by omega)
 have v1 := hB.out.cell (i := 1) (by omega)
 have v2 := hB.out.cell (i := 2) (by omega)
 have v3 := hB.out.cell (i := 3) (by omega)
 have v4 := hB.out.cell (i := 4) (by omega)
 have v5 := hB.out.cell (i := 5) (by omega)
 have v6 := hB.out.cell (i := 6) (by omega)
 have v7 := hB.out.cell (i := 7) (by omega)
 have v8 := hB.out.cell (i := 8) (by omega)
 go_enter Tryz.func15, Tryz.ntmps15
 go_wp2_with fail
 rw [hWe.out]
 clear hWe
 go_upto_region 4 with (first | (go_at_call 69; refine (HM.out W (Below.refl _ _)).mono ?_; rintro e w1 ⟨rfl, hb1⟩; have HB1 := Lib.hid hb1; have hz1 := hb1.size; have hA1 := hA.out.later hb1; have hB1 := hB.out.later hb1; clear u0 u1 u2 u3 u4 u5 u6 u7 u8 v0 v1 v2 v3 v4 v5 v6 v7 v8; have u0 := hA1.cell (i := 0) (by omega); have u1 := hA1.cell (i := 1) (by omega); have u2 := hA1.cell (i := 2) (by omega); have u3 := hA1.cell (i := 3) (by omega); have u4 := hA1.cell (i := 4) (by omega); have u5 := hA1.cell (i := 5) (by omega); have u6 := hA1.cell (i := 6) (by omega); have u7 := hA1.cell (i := 7) (by omega); have u8 := hA1.cell (i := 8) (by omega); have v0 := hB1.cell (i := 0) (by omega); have v1 := hB1.cell (i := 1) (by omega); have v2 := hB1.cell (i := 2) (by omega); have v3 := hB1.cell (i := 3) (by omega); have v4 := hB1.cell (i := 4) (by omega); have v5 := hB1.cell (i := 5) (by omega); have v6 := hB1.cell (i := 6) (by omega); have v7 := hB1.cell (i := 7) (by omega); have v8 := hB1.cell (i := 8) (by omega); clear hb1 hA1 hB1))
 have hZA := Lib.hid (hA.out.later HB1.out)
 have hZB := Lib.hid (hB.out.later HB1.out)
 have HR3 := Lib.hid ((H3.out.below HB1.out (Nat.le_refl _)).more hz1)
 have HR4 := Lib.hid ((H4.out.below HB1.out (Nat.le_refl _)).more hz1)
 go_loopw [52] (fun i wr => ∃ k : Nat, k ≤ d.rx.length ∧ i = .int .i64 k ∧ ∃ n, wr = w1.drewN n) (fun i _ => d.rx.length - (intOf i).toNat)
 case atStart => exact ⟨0, by omega, by rfl, 0, rfl⟩
 case round =>
  obtain ⟨k, hk, rfl, hdr⟩ := hrel
  have Hdr := Lib.hid hdr
  clear hdr
  by_cases hlt : k < d.rx.length
  ·obtain ⟨g, off, hAA, hg, hcell⟩ := HR3.out.at hlt
   obtain ⟨g', off', hAA', hg', hcell'⟩ := HR4.out.at hlt
   subst hAA hAA'
   have r0 : wr.cell? ⟨g, off + k * 2, none⟩ = some (.int .i64 d.rx[k].place) := by obtain ⟨n, e⟩ := Hdr.out; rw [e]; exact hcell 0 _ rfl
   have r1 : wr.cell? ⟨g, off + k * 2 + 1, none⟩ = some (.bool d.rx[k].deaf) := by obtain ⟨n, e⟩ := Hdr.out; rw [e]; exact hcell 1 _ rfl
   have q0 : wr.cell? ⟨g', off' + k * 2, none⟩ = some (.int .i64 d.rx[k].place) := by obtain ⟨n, e⟩ := Hdr.out; rw [e]; exact hcell' 0 _ rfl
   have q1 : wr.cell? ⟨g', off' + k * 2 + 1, none⟩ = some (.bool d.rx[k].deaf) := by obtain ⟨n, e⟩ := Hdr.out; rw [e]; exact hcell' 1 _ rfl
   have s8 : wr.cell? ⟨w.heap.size, 8, none⟩ = some (.slice (some ⟨g, off, none⟩) d.rx.length c3) := by obtain ⟨n, e⟩ := Hdr.out; rw [e]; exact hZA.out.cell (i := 8) (by omega)
   have t8 : wr.cell? ⟨w.heap.size + 1, 8, none⟩ = some (.slice (some ⟨g', off', none⟩) d.rx.length e3) := by obtain ⟨n, e⟩ := Hdr.out; rw [e]; exact hZB.out.cell (i := 8) (by omega)
   clear hcell hcell'
   obtain ⟨⟨pl, df⟩, hx⟩ : ∃ x, Hid (d.rx[k] = x) := ⟨_, Lib.hid rfl⟩
   rw [hx.out] at r0 r1 q0 q1
   simp only at r0 r1 q0 q1
   go_wp2
   go_quiet (fail)
   go_wp2
   go_roundw
   case rel => exact ⟨k + 1, by omega, by go_num, by obtain ⟨n, e⟩ := Hdr.out; rw [e, drew2]; exact ⟨_, rfl⟩⟩
   case measure => simp [intOf]; omega
  ·obtain ⟨n, hn⟩ := Hdr.out
   go_wp2
   go_ret
   exact ⟨rfl, by first | exact below_drewN (hWb.out.trans (HB1.out.mono hWb.out.size)) _ | (rw [hn]; exact below_drewN (hWb.out.trans (HB1.out.mono hWb.out.size)) _)⟩
end Go.Proofs.YtkegbbndmfnolaaGreatDoor

/-
 The laws' test of the drawn bytes' length.
-/
namespace Go.Proofs.YtkegbbndmfnolaaGreatDoor
open Go.RowKit
set_option linter.unusedVariables false
set_option linter.unusedSimpArgs false
set_option maxRecDepth 100000

theorem bigB_any (n m : Nat) (A A' : Option Addr) (c c' : Nat) (w : World) (hn : n ≤ 9223372036854775807) (hm : m ≤ 9223372036854775807) :
  Calls Tryz.prog 6 #[.slice A n c, .slice A' m c'] w fun e w' => e = .returned (.bool (B (1048576 < n + m))) ∧ w = w' := by
 by_cases h1 : 1048576 < n
 ·have d1 : decide ((1048576 : Int) < (n : Int)) = true := by simp; omega
  go_enter Tryz.func6, Tryz.ntmps6
  go_wp2
  go_ret
  exact ⟨ret_t (by omega), rfl⟩
 ·have d1 : decide ((1048576 : Int) < (n : Int)) = false := by simp; omega
  by_cases h2 : 1048576 < n + m
  ·have d2 : decide ((1048576 : Int) - (n : Int) < (m : Int)) = true := by simp; omega
   go_enter Tryz.func6, Tryz.ntmps6
   go_wp2
   go_ret
   exact ⟨ret_t h2, rfl⟩
  ·have d2 : decide ((1048576 : Int) - (n : Int) < (m : Int)) = false := by simp; omega
   go_enter Tryz.func6, Tryz.ntmps6
   go_wp2
   go_ret
   exact ⟨ret_f h2, rfl⟩
end Go.Proofs.YtkegbbndmfnolaaGreatDoor

/-
 The actions of a touch: contracts of both sides.
-/
namespace Go.Proofs.YtkegbbndmfnolaaGreatDoor
open Go.RowKit
set_option linter.unusedVariables false
set_option linter.unusedSimpArgs false
set_option maxRecDepth 100000

/-- The actions within call k, behind j steps. -/
def actsAt (t : ByteArray) (n k j : Nat) : List Act_ := actsTo t n k ++ (callA (callOf (bat t k)) :: List.replicate j stepA)
theorem actsAt_zero (t : ByteArray) (n k : Nat) : actsAt t n k 0 = actsTo t n k ++ [callA (callOf (bat t k))] := rfl
theorem actsAt_succ (t : ByteArray) (n k j : Nat) : actsAt t n k (j + 1) = actsAt t n k j ++ [stepA] := by
 unfold actsAt; rw [show List.replicate (j + 1) stepA = List.replicate j stepA ++ [stepA] from List.replicate_succ']; simp
theorem actsAt_len (t : ByteArray) (n k j : Nat) : (actsAt t n k j).length = k * (n + 1) + (1 + j) := by
 unfold actsAt; rw [List.length_append, actsTo_len, List.length_cons, List.length_replicate]; omega
theorem acts_bd {k m n : Nat} (h : k ≤ m) (hm : m ≤ 60) (hn : n ≤ 1048576) : k * (n + 1) ≤ 70000000 := by
 have h1 : k * (n + 1) ≤ 60 * 1048577 := Nat.mul_le_mul (by omega) (by omega)
 omega






set_option maxHeartbeats 3200000 in
theorem actsFor_any (nm : ByteArray) (st : Int) (x : List ByteArray) (A : Option Addr) (c : Nat) (t : ByteArray) (w : World) (ht : t.size ≤ 60) (hl : x.length ≤ 1048576) : Calls Tryz.prog 57 #[.agg #[Value.string nm, .int .i64 st, .slice A x.length c], .string t, .slice none 0 0] w fun e w' => ∃ A2 c2, e = .returned (.slice A2 (actsL t x.length).length c2) ∧ OwnL w' w.heap.size w'.heap.size A2 4 Act_.enc (actsL t x.length) ∧ Below w.heap.size w w' := by
 have Hone : Hid (∀ (a b d : Int) (s : ByteArray), ∀ u ∈ [Value.int .i64 a, .int .i64 b, .int .i64 d, .string s], u.oneCell' = true) := Lib.hid (by intro a b d s u hu; simp at hu; rcases hu with rfl | rfl | rfl | rfl <;> rfl)
 obtain ⟨n, hn⟩ : ∃ n, Hid (x.length = n) := ⟨_, Lib.hid rfl⟩
 rw [hn.out] at hl ⊢
 obtain ⟨W, hWe, hWs, hWb, u2⟩ : ∃ W : World, Hid (w.alloc (.cells #[Value.string nm, .int .i64 st, .slice A n c] 26) = W) ∧ Hid (W.heap.size = w.heap.size + 1) ∧ Hid (Below w.heap.size w W) ∧ W.cell? ⟨w.heap.size, 2, none⟩ = some (.slice A n c) :=
  ⟨_, Lib.hid rfl, Lib.hid (by simp), Lib.hid ((Below.refl _ _).alloc (Nat.le_refl _) _), by rw [World.cell?_alloc_new]; rfl⟩
 have hWs1 : w.heap.size + 1 = W.heap.size := hWs.out.symm
 go_enter Tryz.func57, Tryz.ntmps57
 go_upto_region 1 with fail
 rw [hWe.out]
 clear hWe
 go_upto_region 3 with fail
 go_loopw [7, 8, 12] (fun v i8 i wr => ∃ k : Nat, k ≤ t.size ∧ i = .int .i64 (k : Int) ∧ Grow wr W.heap.size 45 4 Act_.enc v (actsTo t n k) ∧ (∃ g cap, v = .slice (some ⟨g, 0, none⟩) (actsTo t n k).length cap ∧ (actsTo t n k).length ≤ cap) ∧ Below W.heap.size W wr) (fun _ _ i _ => t.size - (intOf i).toNat)
 case atStart => exact ⟨0, Nat.zero_le _, rfl, Grow.empty (Nat.le_refl _), ⟨_, _, rfl, Nat.le_refl _⟩, (Below.refl _ _).alloc (Nat.le_refl _) _⟩
 case round =>
  obtain ⟨k, hk, rfl, hg, hsl, hbl⟩ := hrel
  have HG := Lib.hid hg
  have HB := Lib.hid hbl
  have hzr := hbl.size
  clear hg hbl
  have v2 := (HB.out.cell (p := ⟨w.heap.size, 2, none⟩) (show w.heap.size < W.heap.size by omega)).trans u2
  have hlen := actsTo_len t n k
  have hbd := acts_bd hk ht hl
  have hlen2 : (actsTo t n k).length ≤ 70000000 := by omega
  clear hlen
  by_cases hlt : k < t.size
  ·obtain ⟨gv, cap, rfl, hcap⟩ := hsl
   have hcap' := Lib.hid hcap
   clear hcap
   have w1 : IntKind.i64.wrap ((k : Int) + 1) = (k : Int) + 1 := IntWalk.i64_in _ (by omega)
   have hcl := Lib.hid (callOf_ext hlt)
   obtain ⟨L, hL⟩ : ∃ L, Hid (actsTo t n k = L) := ⟨_, Lib.hid rfl⟩
   rw [hL.out] at HG hlen2 hcap' ⊢
   have hL0 : Hid (actsAt t n k 0 = L ++ [callA (t.extract k (k + 1))]) := Lib.hid (by rw [actsAt_zero, hL.out, hcl.out])
   go_upto_region 8 with (first
    | (at_builtin; refine wpList_pushNone rfl (.tmp 15) (.tmp 16) 37 rfl 45 rfl (by kernel_rfl) rfl rfl hcap'.out ?_)
    | ((at_builtin; refine wpList_push rfl (.tmp 18) (.tmp 25) 37 rfl W.heap.size 45 _ 4 40 Act_.enc rfl RingAct_info rfl (by omega) _ L [(callA (t.extract k (k + 1)))] 1 rfl rfl (by simp) HG.out rfl Act__enc_len (Hone.out _ _ _ _) (by simp only [List.length_singleton]; omega) (by omega) (by omega) ?_; intro av aw ag ab ak); have HGa := Lib.hid ag; have HBa := Lib.hid (HB.out.trans (ab.mono (Nat.le_refl _))); clear ag ab ak; have v3 := (HBa.out.cell (p := ⟨w.heap.size, 2, none⟩) (show w.heap.size < W.heap.size by omega)).trans u2))
   obtain ⟨wo, hwo⟩ : ∃ wo, wo = aw := ⟨_, rfl⟩
   rw [← hwo] at HGa HBa ⊢
   clear hwo v2 v3
   have hzo := HBa.out.size
   have v2 := (HBa.out.cell (p := ⟨w.heap.size, 2, none⟩) (show w.heap.size < W.heap.size by omega)).trans u2
   go_loopw [7, 30] (fun v i wr2 => ∃ j : Nat, j ≤ n ∧ i = .int .i64 (j : Int) ∧ Grow wr2 W.heap.size 45 4 Act_.enc v (actsAt t n k j) ∧ Below W.heap.size W wr2) (fun _ i _ => n - (intOf i).toNat)
   case atStart => exact ⟨0, Nat.zero_le _, rfl, by rw [hL0.out]; exact HGa.out, HBa.out⟩
   case round =>
    obtain ⟨j, hj, rfl, hg2, hbl2⟩ := hrel
    have HG2 := Lib.hid hg2
    have HB2 := Lib.hid hbl2
    have hz2 := hbl2.size
    clear hg2 hbl2
    have hlenj := actsAt_len t n k j
    have hlj : (actsAt t n k j).length ≤ 80000000 := by omega
    by_cases hjl : j < n
    ·have hS := Lib.hid (actsAt_succ t n k j)
     obtain ⟨M, hM⟩ : ∃ M, Hid (actsAt t n k j = M) := ⟨_, Lib.hid rfl⟩
     rw [hM.out] at HG2 hS hlj
     clear hlenj
     go_wp2_with ((at_builtin; refine wpList_push rfl (.tmp 32) (.tmp 34) 37 rfl W.heap.size 45 _ 4 40 Act_.enc rfl RingAct_info rfl (by omega) _ M [stepA] 1 rfl rfl (by simp) HG2.out rfl Act__enc_len (Hone.out _ _ _ _) (by simp only [List.length_singleton]; omega) (by omega) (by omega) ?_; intro bv bw bg bb bk))
     go_roundw
     case rel => exact ⟨j + 1, by omega, by go_num, by rw [hS.out]; exact bg, HB2.out.trans (bb.mono (Nat.le_refl _))⟩
     case measure => simp [intOf]; omega
    ·obtain rfl : j = n := by omega
     have hp : 0 < (actsAt t j k j).length := by omega
     obtain ⟨g5, c5, rfl, _, _, hc5⟩ := HG2.out.some_ hp
     go_wp2
     go_roundw
     case rel => exact ⟨k + 1, by omega, by go_num, HG2.out, ⟨g5, c5, rfl, hc5⟩, HB2.out⟩
     case measure => simp [intOf]; omega
  ·obtain rfl : k = t.size := by omega
   obtain ⟨A5, c5, rfl, ho5⟩ := HG.out.own Act__enc_len
   have HO5 := Lib.hid ho5
   clear ho5
   go_wp2
   go_ret
   exact ⟨_, _, rfl, HO5.out.mono (by omega) (Nat.le_refl _), hWb.out.trans (HB.out.mono (by omega))⟩
set_option maxHeartbeats 3200000 in
theorem l24Acts_any (nm : ByteArray) (st : Int) (x : List ByteArray) (A : Option Addr) (c : Nat) (t : ByteArray) (w : World) (ht : t.size ≤ 60) (hl : x.length ≤ 1048576) : Calls Tryz.prog 63 #[.agg #[Value.string nm, .int .i64 st, .slice A x.length c], .string t] w fun e w' => ∃ A2 c2, e = .returned (.slice A2 (actsL t x.length).length c2) ∧ OwnL w' w.heap.size w'.heap.size A2 4 Act_.enc (actsL t x.length) ∧ Below w.heap.size w w' := by
 have Hone : Hid (∀ (a b d : Int) (s : ByteArray), ∀ u ∈ [Value.int .i64 a, .int .i64 b, .int .i64 d, .string s], u.oneCell' = true) := Lib.hid (by intro a b d s u hu; simp at hu; rcases hu with rfl | rfl | rfl | rfl <;> rfl)
 obtain ⟨n, hn⟩ : ∃ n, Hid (x.length = n) := ⟨_, Lib.hid rfl⟩
 rw [hn.out] at hl ⊢
 obtain ⟨W, hWe, hWs, hWb, u2⟩ : ∃ W : World, Hid (w.alloc (.cells #[Value.string nm, .int .i64 st, .slice A n c] 26) = W) ∧ Hid (W.heap.size = w.heap.size + 1) ∧ Hid (Below w.heap.size w W) ∧ W.cell? ⟨w.heap.size, 2, none⟩ = some (.slice A n c) :=
  ⟨_, Lib.hid rfl, Lib.hid (by simp), Lib.hid ((Below.refl _ _).alloc (Nat.le_refl _) _), by rw [World.cell?_alloc_new]; rfl⟩
 have hWs1 : w.heap.size + 1 = W.heap.size := hWs.out.symm
 go_enter Tryz.func63, Tryz.ntmps63
 go_upto_region 1 with fail
 rw [hWe.out]
 clear hWe
 go_upto_region 3 with fail
 go_loopw [5, 6] (fun v i wr => ∃ k : Nat, k ≤ t.size ∧ i = .int .i64 (k : Int) ∧ Grow wr W.heap.size 45 4 Act_.enc v (actsTo t n k) ∧ Below W.heap.size W wr) (fun _ i _ => t.size - (intOf i).toNat)
 case atStart => exact ⟨0, Nat.zero_le _, rfl, Grow.nil, Below.refl _ _⟩
 case round =>
  obtain ⟨k, hk, rfl, hg, hbl⟩ := hrel
  have HG := Lib.hid hg
  have HB := Lib.hid hbl
  have hzr := hbl.size
  clear hg hbl
  have v2 := (HB.out.cell (p := ⟨w.heap.size, 2, none⟩) (show w.heap.size < W.heap.size by omega)).trans u2
  have hlen := actsTo_len t n k
  have hbd := acts_bd hk ht hl
  have hlen2 : (actsTo t n k).length ≤ 70000000 := by omega
  clear hlen
  by_cases hlt : k < t.size
  ·have w1 : IntKind.i64.wrap ((k : Int) + 1) = (k : Int) + 1 := IntWalk.i64_in _ (by omega)
   have hcl := Lib.hid (callOf_ext hlt)
   obtain ⟨L, hL⟩ : ∃ L, Hid (actsTo t n k = L) := ⟨_, Lib.hid rfl⟩
   rw [hL.out] at HG hlen2
   have hL0 : Hid (actsAt t n k 0 = L ++ [callA (t.extract k (k + 1))]) := Lib.hid (by rw [actsAt_zero, hL.out, hcl.out])
   go_upto_region 7 with ((at_builtin; refine wpList_push rfl (.tmp 13) (.tmp 20) 37 rfl W.heap.size 45 _ 4 40 Act_.enc rfl RingAct_info rfl (by omega) _ L [(callA (t.extract k (k + 1)))] 1 rfl rfl (by simp) HG.out rfl Act__enc_len (Hone.out _ _ _ _) (by simp only [List.length_singleton]; omega) (by omega) (by omega) ?_; intro av aw ag ab ak); have HGa := Lib.hid ag; have HBa := Lib.hid (HB.out.trans (ab.mono (Nat.le_refl _))); clear ag ab ak; have v3 := (HBa.out.cell (p := ⟨w.heap.size, 2, none⟩) (show w.heap.size < W.heap.size by omega)).trans u2)
   obtain ⟨wo, hwo⟩ : ∃ wo, wo = aw := ⟨_, rfl⟩
   rw [← hwo] at HGa HBa ⊢
   clear hwo v2 v3
   have hzo := HBa.out.size
   have v2 := (HBa.out.cell (p := ⟨w.heap.size, 2, none⟩) (show w.heap.size < W.heap.size by omega)).trans u2
   go_loopw [5, 25] (fun v i wr2 => ∃ j : Nat, j ≤ n ∧ i = .int .i64 (j : Int) ∧ Grow wr2 W.heap.size 45 4 Act_.enc v (actsAt t n k j) ∧ Below W.heap.size W wr2) (fun _ i _ => n - (intOf i).toNat)
   case atStart => exact ⟨0, Nat.zero_le _, rfl, by rw [hL0.out]; exact HGa.out, HBa.out⟩
   case round =>
    obtain ⟨j, hj, rfl, hg2, hbl2⟩ := hrel
    have HG2 := Lib.hid hg2
    have HB2 := Lib.hid hbl2
    have hz2 := hbl2.size
    clear hg2 hbl2
    have hlenj := actsAt_len t n k j
    have hlj : (actsAt t n k j).length ≤ 80000000 := by omega
    by_cases hjl : j < n
    ·have hS := Lib.hid (actsAt_succ t n k j)
     obtain ⟨M, hM⟩ : ∃ M, Hid (actsAt t n k j = M) := ⟨_, Lib.hid rfl⟩
     rw [hM.out] at HG2 hS hlj
     clear hlenj
     go_wp2_with ((at_builtin; refine wpList_push rfl (.tmp 27) (.tmp 29) 37 rfl W.heap.size 45 _ 4 40 Act_.enc rfl RingAct_info rfl (by omega) _ M [stepA] 1 rfl rfl (by simp) HG2.out rfl Act__enc_len (Hone.out _ _ _ _) (by simp only [List.length_singleton]; omega) (by omega) (by omega) ?_; intro bv bw bg bb bk))
     go_roundw
     case rel => exact ⟨j + 1, by omega, by go_num, by rw [hS.out]; exact bg, HB2.out.trans (bb.mono (Nat.le_refl _))⟩
     case measure => simp [intOf]; omega
    ·obtain rfl : j = n := by omega
     go_wp2
     go_roundw
     case rel => exact ⟨k + 1, by omega, by go_num, HG2.out, HB2.out⟩
     case measure => simp [intOf]; omega
  ·obtain rfl : k = t.size := by omega
   obtain ⟨A5, c5, rfl, ho5⟩ := HG.out.own Act__enc_len
   have HO5 := Lib.hid ho5
   clear ho5
   go_wp2
   go_ret
   exact ⟨_, _, rfl, HO5.out.mono (by omega) (Nat.le_refl _), hWb.out.trans (HB.out.mono (by omega))⟩
end Go.Proofs.YtkegbbndmfnolaaGreatDoor
