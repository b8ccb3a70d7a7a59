/-
  Contracts: lists that are the same (the laws' comparisons).
-/
import Derived.Test.YtpedfjcidbopiaaCycOf
import Derived.Test.YtpedfjcidbopiaaTyIntS
namespace Go.Proofs.Ytpedfjcidbopiaa
open Go.RowKit
set_option linter.unusedVariables false
set_option linter.unusedSimpArgs false
set_option maxRecDepth 100000

set_option maxHeartbeats 1600000 in
theorem qSameN_t (l : List Int) (A A' : Option Addr) (c c' : Nat) (w : World) (h : RdL w w.heap.size A 1 encInt l) (h' : RdL w w.heap.size A' 1 encInt l) (hl : l.length ≤ 1048576) :
    Calls Try.prog 16 #[.slice A l.length c, .slice A' l.length c'] w fun e w' => e = .returned (.bool true) ∧ ∃ n, w' = w.drewN n := by
  have H := Lib.hid h
  have H' := Lib.hid h'
  clear h h'
  go_enter Try.func16, Try.ntmps16
  go_wp2
  go_loopw [13] (fun i wr => ∃ k : Nat, k ≤ l.length ∧ i = .int .i64 k ∧ ∃ n, wr = w.drewN n) (fun i _ => l.length - (intOf i).toNat)
  case atStart => exact ⟨0, by omega, by rfl, 0, rfl⟩
  case round =>
    obtain ⟨k, hk, rfl, hdr⟩ := hrel
    have Hdr := Lib.hid hdr
    clear hdr
    by_cases hlt : k < l.length
    · obtain ⟨g, off, hA, hg, hcell⟩ := H.out.at hlt
      obtain ⟨g', off', hA', hg', hcell'⟩ := H'.out.at hlt
      subst hA hA'
      have r0 : wr.cell? ⟨g, off + k, none⟩ = some (.int .i64 l[k]) := by obtain ⟨n, e⟩ := Hdr.out; rw [e]; have := hcell 0 _ rfl; rw [Nat.mul_one] at this; exact this
      have q0 : wr.cell? ⟨g', off' + k, none⟩ = some (.int .i64 l[k]) := by obtain ⟨n, e⟩ := Hdr.out; rw [e]; have := hcell' 0 _ rfl; rw [Nat.mul_one] at this; exact this
      clear hcell hcell'
      obtain ⟨x, hx⟩ : ∃ x, Hid (l[k] = x) := ⟨_, Lib.hid rfl⟩
      rw [hx.out] at r0 q0
      go_wp2
      go_quiet (fail)
      go_wp2
      go_roundw
      case rel => exact ⟨k + 1, by omega, by go_num, by obtain ⟨n, e⟩ := Hdr.out; rw [e, drew2]; exact ⟨_, rfl⟩⟩
      case measure => simp [intOf]; omega
    · go_wp2
      go_ret
      exact ⟨rfl, Hdr.out⟩
set_option maxHeartbeats 1600000 in
theorem qSameP_t (l : List (List Int)) (A A' : Option Addr) (c c' : Nat) (w : World) (h : RdS w w.heap.size A l) (h' : RdS w w.heap.size A' l) (hl : l.length ≤ 1048576) (hx9 : ∀ x ∈ l, x.length ≤ 1048576) :
    Calls Try.prog 33 #[.slice A l.length c, .slice A' l.length c'] w fun e w' => e = .returned (.bool true) ∧ ∃ n, w' = w.drewN n := by
  obtain ⟨D, hD, hr, hi⟩ := h
  obtain ⟨D', hD', hr', hi'⟩ := h'
  have hn : l.length = D.length := by rw [← hD]; simp
  have hn' : D'.length = D.length := by rw [← hn, ← hD']; simp
  have hx : ∀ (k : Nat) (h1 : k < D.length) (h2 : k < D'.length), D'[k].x = D[k].x := fun k h1 h2 => by
    have e1 : (D.map Sl.x)[k]? = (D'.map Sl.x)[k]? := by rw [hD, hD']
    simpa [h1, h2] using e1.symm
  have hxl : ∀ (k : Nat) (h1 : k < D.length), D[k].x.length ≤ 1048576 := fun k h1 => hx9 _ (by rw [← hD]; exact List.mem_map.2 ⟨_, List.getElem_mem h1, rfl⟩)
  rw [hn] at hl ⊢
  have Hx := Lib.hid hx
  have Hxl := Lib.hid hxl
  have Hn := Lib.hid hn'
  have Hr := Lib.hid hr
  have Hr' := Lib.hid hr'
  have Hi := Lib.hid hi
  have Hi' := Lib.hid hi'
  clear hx9 hx hxl hn hn' hD hD' hr hr' hi hi'
  go_enter Try.func33, Try.ntmps33
  go_wp2
  go_loopw [13] (fun i wr => ∃ k : Nat, k ≤ D.length ∧ i = .int .i64 k ∧ ∃ n, wr = w.drewN n) (fun i _ => D.length - (intOf i).toNat)
  case atStart => exact ⟨0, by omega, by rfl, 0, rfl⟩
  case round =>
    obtain ⟨k, hk, rfl, hdr⟩ := hrel
    have Hdr := Lib.hid hdr
    clear hdr
    by_cases hlt : k < D.length
    · have hlt' : k < D'.length := by rw [Hn.out]; exact hlt

      obtain ⟨g, off, hA, hg, hcell⟩ := Hr.out.at hlt
      obtain ⟨g', off', hA', hg', hcell'⟩ := Hr'.out.at hlt'
      subst hA hA'
      have r0 : wr.cell? ⟨g, off + k, none⟩ = some (.slice D[k].A D[k].x.length D[k].c) := by obtain ⟨n, e⟩ := Hdr.out; rw [e]; have := hcell 0 _ rfl; rw [Nat.mul_one] at this; exact this
      have q0 : wr.cell? ⟨g', off' + k, none⟩ = some (.slice D'[k].A D'[k].x.length D'[k].c) := by obtain ⟨n, e⟩ := Hdr.out; rw [e]; have := hcell' 0 _ rfl; rw [Nat.mul_one] at this; exact this
      have hrk := Hi.out _ (List.getElem_mem hlt)
      have hrk' := Hi'.out _ (List.getElem_mem hlt')
      have hxk := Hxl.out k hlt
      rw [Hx.out k hlt hlt'] at q0 hrk'
      clear hcell hcell'
      have Hrk := Lib.hid hrk
      have Hrk' := Lib.hid hrk'
      clear hrk hrk'
      generalize D[k].A = a1 at r0 Hrk
      generalize D'[k].A = a2 at q0 Hrk'
      generalize D[k].c = c1 at r0
      generalize D'[k].c = c2 at q0
      generalize D[k].x = x at r0 q0 Hrk Hrk' hxk
      have hcall : Hid (∀ n, Calls Try.prog 16 #[.slice a1 x.length c1, .slice a2 x.length c2] (wr.drewN n) fun e w' => e = .returned (.bool true) ∧ ∃ m, w' = (wr.drewN n).drewN m) := Lib.hid (fun n => by
        obtain ⟨m, e⟩ := Hdr.out
        rw [e, drew2]
        exact qSameN_t x a1 a2 c1 c2 (w.drewN (m + n)) Hrk.out Hrk'.out hxk)
      go_wp2
      go_quiet ((go_at_call 16; exact Calls.quiet_of (hcall.out _)))
      go_wp2
      go_roundw
      case rel => exact ⟨k + 1, by omega, by go_num, by obtain ⟨n, e⟩ := Hdr.out; rw [e, drew2]; exact ⟨_, rfl⟩⟩
      case measure => simp [intOf]; omega
    · go_wp2
      go_ret
      exact ⟨rfl, Hdr.out⟩
end Go.Proofs.Ytpedfjcidbopiaa
