/-
  Contracts for the law of exchanges: equal lists, products and turned rows of the reference, drawn pairs of rows.
-/
import Derived.Test.YtdecjijldcbnjaaCycOf
import Derived.Test.YtdecjijldcbnjaaTyIntS
import Derived.Test.YtdecjijldcbnjaaCurRow
import Derived.Test.YtdecjijldcbnjaaDrift
import Derived.Test.YtdecjijldcbnjaaWrong
import Derived.Test.YtdecjijldcbnjaaLeastSwaps
import Derived.Test.YtdecjijldcbnjaaSideSwaps
namespace Go.Proofs.Ytdecjijldcbnjaa
open Go.RowKit
set_option linter.unusedVariables false
set_option linter.unusedSimpArgs false
set_option maxRecDepth 100000

set_option maxHeartbeats 1600000 in
theorem qSameN_t (l : List Int) (A A' : Option Addr) (c c' : Nat) (w : World) (h : RdL w w.heap.size A 1 encInt l) (h' : RdL w w.heap.size A' 1 encInt l) (hl : l.length ≤ 1048576) :
    Calls Try.prog 21 #[.slice A l.length c, .slice A' l.length c'] w fun e w' => e = .returned (.bool true) ∧ ∃ n, w' = w.drewN n := by
  have H := Lib.hid h
  have H' := Lib.hid h'
  clear h h'
  go_enter Try.func21, Try.ntmps21
  go_wp2
  go_loopw [13] (fun i wr => ∃ k : Nat, k ≤ l.length ∧ i = .int .i64 k ∧ ∃ n, wr = w.drewN n) (fun i _ => l.length - (intOf i).toNat)
  case atStart => exact ⟨0, by omega, by rfl, 0, rfl⟩
  case round =>
    obtain ⟨k, hk, rfl, hdr⟩ := hrel
    have Hdr := Lib.hid hdr
    clear hdr
    by_cases hlt : k < l.length
    · obtain ⟨g, off, hA, hg, hcell⟩ := H.out.at hlt
      obtain ⟨g', off', hA', hg', hcell'⟩ := H'.out.at hlt
      subst hA hA'
      have r0 : wr.cell? ⟨g, off + k, none⟩ = some (.int .i64 l[k]) := by obtain ⟨n, e⟩ := Hdr.out; rw [e]; have := hcell 0 _ rfl; rw [Nat.mul_one] at this; exact this
      have q0 : wr.cell? ⟨g', off' + k, none⟩ = some (.int .i64 l[k]) := by obtain ⟨n, e⟩ := Hdr.out; rw [e]; have := hcell' 0 _ rfl; rw [Nat.mul_one] at this; exact this
      clear hcell hcell'
      obtain ⟨x, hx⟩ : ∃ x, Hid (l[k] = x) := ⟨_, Lib.hid rfl⟩
      rw [hx.out] at r0 q0
      go_wp2
      go_quiet (fail)
      go_wp2
      go_roundw
      case rel => exact ⟨k + 1, by omega, by go_num, by obtain ⟨n, e⟩ := Hdr.out; rw [e, drew2]; exact ⟨_, rfl⟩⟩
      case measure => simp [intOf]; omega
    · go_wp2
      go_ret
      exact ⟨rfl, Hdr.out⟩
set_option maxHeartbeats 1600000 in
theorem qSameP_t (l : List (List Int)) (A A' : Option Addr) (c c' : Nat) (w : World) (h : RdS w w.heap.size A l) (h' : RdS w w.heap.size A' l) (hl : l.length ≤ 1048576) (hx9 : ∀ x ∈ l, x.length ≤ 1048576) :
    Calls Try.prog 20 #[.slice A l.length c, .slice A' l.length c'] w fun e w' => e = .returned (.bool true) ∧ ∃ n, w' = w.drewN n := by
  obtain ⟨D, hD, hr, hi⟩ := h
  obtain ⟨D', hD', hr', hi'⟩ := h'
  have hn : l.length = D.length := by rw [← hD]; simp
  have hn' : D'.length = D.length := by rw [← hn, ← hD']; simp
  have hx : ∀ (k : Nat) (h1 : k < D.length) (h2 : k < D'.length), D'[k].x = D[k].x := fun k h1 h2 => by
    have e1 : (D.map Sl.x)[k]? = (D'.map Sl.x)[k]? := by rw [hD, hD']
    simpa [h1, h2] using e1.symm
  have hxl : ∀ (k : Nat) (h1 : k < D.length), D[k].x.length ≤ 1048576 := fun k h1 => hx9 _ (by rw [← hD]; exact List.mem_map.2 ⟨_, List.getElem_mem h1, rfl⟩)
  rw [hn] at hl ⊢
  have Hx := Lib.hid hx
  have Hxl := Lib.hid hxl
  have Hn := Lib.hid hn'
  have Hr := Lib.hid hr
  have Hr' := Lib.hid hr'
  have Hi := Lib.hid hi
  have Hi' := Lib.hid hi'
  clear hx9 hx hxl hn hn' hD hD' hr hr' hi hi'
  go_enter Try.func20, Try.ntmps20
  go_wp2
  go_loopw [13] (fun i wr => ∃ k : Nat, k ≤ D.length ∧ i = .int .i64 k ∧ ∃ n, wr = w.drewN n) (fun i _ => D.length - (intOf i).toNat)
  case atStart => exact ⟨0, by omega, by rfl, 0, rfl⟩
  case round =>
    obtain ⟨k, hk, rfl, hdr⟩ := hrel
    have Hdr := Lib.hid hdr
    clear hdr
    by_cases hlt : k < D.length
    · have hlt' : k < D'.length := by rw [Hn.out]; exact hlt

      obtain ⟨g, off, hA, hg, hcell⟩ := Hr.out.at hlt
      obtain ⟨g', off', hA', hg', hcell'⟩ := Hr'.out.at hlt'
      subst hA hA'
      have r0 : wr.cell? ⟨g, off + k, none⟩ = some (.slice D[k].A D[k].x.length D[k].c) := by obtain ⟨n, e⟩ := Hdr.out; rw [e]; have := hcell 0 _ rfl; rw [Nat.mul_one] at this; exact this
      have q0 : wr.cell? ⟨g', off' + k, none⟩ = some (.slice D'[k].A D'[k].x.length D'[k].c) := by obtain ⟨n, e⟩ := Hdr.out; rw [e]; have := hcell' 0 _ rfl; rw [Nat.mul_one] at this; exact this
      have hrk := Hi.out _ (List.getElem_mem hlt)
      have hrk' := Hi'.out _ (List.getElem_mem hlt')
      have hxk := Hxl.out k hlt
      rw [Hx.out k hlt hlt'] at q0 hrk'
      clear hcell hcell'
      have Hrk := Lib.hid hrk
      have Hrk' := Lib.hid hrk'
      clear hrk hrk'
      generalize D[k].A = a1 at r0 Hrk
      generalize D'[k].A = a2 at q0 Hrk'
      generalize D[k].c = c1 at r0
      generalize D'[k].c = c2 at q0
      generalize D[k].x = x at r0 q0 Hrk Hrk' hxk
      have hcall : Hid (∀ n, Calls Try.prog 21 #[.slice a1 x.length c1, .slice a2 x.length c2] (wr.drewN n) fun e w' => e = .returned (.bool true) ∧ ∃ m, w' = (wr.drewN n).drewN m) := Lib.hid (fun n => by
        obtain ⟨m, e⟩ := Hdr.out
        rw [e, drew2]
        exact qSameN_t x a1 a2 c1 c2 (w.drewN (m + n)) Hrk.out Hrk'.out hxk)
      go_wp2
      go_quiet ((go_at_call 21; exact Calls.quiet_of (hcall.out _)))
      go_wp2
      go_roundw
      case rel => exact ⟨k + 1, by omega, by go_num, by obtain ⟨n, e⟩ := Hdr.out; rw [e, drew2]; exact ⟨_, rfl⟩⟩
      case measure => simp [intOf]; omega
    · go_wp2
      go_ret
      exact ⟨rfl, Hdr.out⟩
theorem sTimes_t (a b : ByteArray) (w : World) (h : two a b) :
    Calls Try.prog 23 #[.string a, .string b] w fun e w' => e = .returned (.tuple #[.string (timesS a b), .bool true]) ∧ Below w.heap.size w w' := by
  have H := Lib.hid h
  have e1 := B_t h
  clear h
  go_enter Try.func23, Try.ntmps23
  go_wp2_with (first | (go_at_call 90; refine (l1Two_any a b _).mono ?_; rintro e w1 ⟨rfl, k, rfl⟩) | (go_at_call 97; refine (l1Times_any a b _ (by have := H.out.2.1.2.1; omega) (by have := H.out.1.2.1; omega) (fun i hi => by have h1 := H.out.2.1.2.2.1 i hi; have h2 := H.out.2.2; omega)).mono ?_; rintro e w' ⟨rfl, rfl⟩))
  go_ret2
  exact ⟨rfl, below_drewN (Below.refl _ _) _⟩
theorem sTurnRow_t (a : ByteArray) (w : World) (h : isRow a) :
    Calls Try.prog 24 #[.string a] w fun e w' => e = .returned (.tuple #[.string (turnS a), .bool true]) ∧ Below w.heap.size w w' := by
  have H := Lib.hid h
  have e1 := B_t h
  clear h
  go_enter Try.func24, Try.ntmps24
  go_wp2_with (first | (go_at_call 100; refine (l1Row_any a _).mono ?_; rintro e w1 ⟨rfl, k, rfl⟩) | (go_at_call 98; refine (l1Turn_any a _ H.out).mono ?_; rintro e w2 ⟨rfl, hb2⟩))
  go_ret2
  exact ⟨rfl, (below_drewN (Below.refl w.heap.size w) k).trans hb2⟩
theorem drawLeastSwaps_any (A : Option Addr) (c : Nat) (l : List Int) (w : World) (h : RdL w w.heap.size A 1 encByte l) (hb : ∀ x ∈ l, 0 ≤ x ∧ x < 256) (hl : l.length ≤ 9223372036854775807) :
    Calls Try.prog 11 #[.slice A l.length c] w fun e w' => ∃ a b : ByteArray, e = .returned (.tuple #[.string a, .string b]) ∧ a.size ≤ 10 ∧ b.size ≤ 10 ∧ Below w.heap.size w w' := by
  have H := Lib.hid h
  have Hb := Lib.hid hb
  clear h hb
  go_enter Try.func11, Try.ntmps11
  go_wp2_with (go_at_call 86; refine (drawTimes_any A c l _ H.out Hb.out hl).mono ?_; rintro e w1 ⟨a, b, rfl, ha, hb, hbl⟩)
  go_ret2
  exact ⟨a, b, rfl, ha, hb, hbl⟩
end Go.Proofs.Ytdecjijldcbnjaa
