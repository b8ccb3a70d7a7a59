import Derived.Test.YtbfhfnejppfehaaMSlipsL24
import Derived.Test.YtbfhfnejppfehaaMSlipsL01
/-
  FirstSlip of the program returns what the reference's returns, for all arguments: no condition.
-/
namespace Go.Proofs.Ytbfhfnejppfehaa
open Go.RowKit
set_option linter.unusedVariables false
set_option linter.unusedSimpArgs false
set_option maxRecDepth 100000

/-- Where two lists part first; the length where they do not. -/
def partAt : List ByteArray → List ByteArray → Nat
  | x :: a, y :: b => if x = y then partAt a b + 1 else 0
  | _, _ => 0
theorem partAt_spec : ∀ (a b : List ByteArray), a.length = b.length → partAt a b ≤ a.length ∧ (∀ (j : Nat) (h : j < a.length) (h' : j < b.length), j < partAt a b → a[j] = b[j]) ∧ (∀ (h : partAt a b < a.length) (h' : partAt a b < b.length), a[partAt a b] ≠ b[partAt a b])
  | [], _, _ => by simp [partAt]
  | x :: a, [], h => by simp at h
  | x :: a, y :: b, h => by
    obtain ⟨h1, h2, h3⟩ := partAt_spec a b (by simpa using h)
    by_cases e : x = y
    · have : partAt (x :: a) (y :: b) = partAt a b + 1 := by simp [partAt, e]
      refine ⟨by rw [this]; simpa using h1, fun j hj hj' hlt => ?_, fun hj hj' => ?_⟩
      · cases j with
        | zero => simpa using e
        | succ j => simpa using h2 j (by simpa using hj) (by simpa using hj') (by omega)
      · simp only [this]
        simpa using h3 (by rw [this] at hj; simpa using hj) (by rw [this] at hj'; simpa using hj')
    · have : partAt (x :: a) (y :: b) = 0 := by simp [partAt, e]
      refine ⟨by omega, fun j _ _ hlt => by omega, fun hj hj' => ?_⟩
      simp only [this]
      simpa using e



set_option maxHeartbeats 1600000 in
theorem iFirst_t (a b : List ByteArray) (A A' : Option Addr) (c c' : Nat) (w : World) (h : RdL w w.heap.size A 1 encString a) (h' : RdL w w.heap.size A' 1 encString b) (hl : a.length ≤ 1048576) (hl' : b.length ≤ 1048576)
    (hs : ∀ x ∈ a, String_small 1048576 x) (hs' : ∀ x ∈ b, String_small 1048576 x) (ht : twoRows a b) (hp : partAt a b < a.length) :
    Calls Try.prog 13 #[.slice A a.length c, .slice A' b.length c'] w fun e w' => e = .returned (.tuple #[.int .i64 (partAt a b), .bool true]) ∧ Below w.heap.size w w' := by
  have Hs := Lib.hid hs
  have Hs' := Lib.hid hs'
  have Hh := Lib.hid h
  have Hh' := Lib.hid h'
  have e1 := B_t ht
  have hle : a.length ≤ b.length := by have := ht.2.2.2.1; omega
  have Hsp := Lib.hid (partAt_spec a b ht.2.2.2.1)
  clear hs hs' h h' ht
  go_enter Try.func13, Try.ntmps13
  go_wp2_with (go_at_call 52; refine (comparable2_any a b _ _ _ _ _ Hh.out Hh'.out hl hl' Hs.out Hs'.out).mono ?_; rintro e w' ⟨rfl, hb1⟩)
  go_loopw [13] (fun i wr => ∃ k : Nat, k ≤ partAt a b ∧ i = .int .i64 k ∧ Below w.heap.size w wr) (fun i _ => a.length - (intOf i).toNat)
  case atStart => exact ⟨0, by omega, by rfl, hb1⟩
  case round =>
    obtain ⟨k, hk, rfl, hbl⟩ := hrel
    have Hbl := Lib.hid hbl
    clear hbl hb1
    have hlt : k < a.length := by omega
    have hlt' : k < b.length := by omega
    obtain ⟨g, off, hA, hg, hcell⟩ := Hh.out.at hlt
    obtain ⟨g', off', hA', hg', hcell'⟩ := Hh'.out.at hlt'
    subst hA hA'
    have r0 : wr.cell? ⟨g, off + k, none⟩ = some (.string a[k]) := (Hbl.out.cell (p := ⟨g, off + k, none⟩) hg).trans (by have := hcell 0 _ rfl; rw [Nat.mul_one] at this; exact this)
    have q0 : wr.cell? ⟨g', off' + k, none⟩ = some (.string b[k]) := (Hbl.out.cell (p := ⟨g', off' + k, none⟩) hg').trans (by have := hcell' 0 _ rfl; rw [Nat.mul_one] at this; exact this)
    clear hcell hcell'
    obtain ⟨x, hx⟩ : ∃ x, Hid (a[k] = x) := ⟨a[k], Lib.hid rfl⟩
    obtain ⟨y, hy⟩ : ∃ y, Hid (b[k] = y) := ⟨b[k], Lib.hid rfl⟩
    rw [hx.out] at r0
    rw [hy.out] at q0
    by_cases hc : k < partAt a b
    · have exy : x = y := by rw [← hx.out, ← hy.out]; exact Hsp.out.2.1 k hlt hlt' hc
      have e2 := eqB_t exy
      clear exy
      go_wp2
      go_quiet (fail)
      go_wp2
      go_roundw
      case rel => exact ⟨k + 1, by omega, by go_num, below_drewN Hbl.out _⟩
      case measure => simp [intOf]; omega
    · obtain rfl : k = partAt a b := by omega
      have exy : ¬ x = y := by rw [← hx.out, ← hy.out]; exact Hsp.out.2.2 hlt hlt'
      have e2 := eqB_f exy
      clear exy
      go_wp2
      go_quiet (fail)
      go_wp2
      go_ret2
      exact ⟨rfl, below_drewN Hbl.out _⟩
set_option maxHeartbeats 1600000 in
theorem iFirst_e (a b : List ByteArray) (A A' : Option Addr) (c c' : Nat) (w : World) (h : RdL w w.heap.size A 1 encString a) (h' : RdL w w.heap.size A' 1 encString b) (hl : a.length ≤ 1048576) (hl' : b.length ≤ 1048576)
    (hs : ∀ x ∈ a, String_small 1048576 x) (hs' : ∀ x ∈ b, String_small 1048576 x) (ht : twoRows a b) (hp : ¬ partAt a b < a.length) :
    Calls Try.prog 13 #[.slice A a.length c, .slice A' b.length c'] w fun e w' => e = .returned (.tuple #[.int .i64 0, .bool false]) ∧ Below w.heap.size w w' := by
  have Hs := Lib.hid hs
  have Hs' := Lib.hid hs'
  have Hh := Lib.hid h
  have Hh' := Lib.hid h'
  have e1 := B_t ht
  have hle : a.length ≤ b.length := by have := ht.2.2.2.1; omega
  have Hsp := Lib.hid (partAt_spec a b ht.2.2.2.1)
  clear hs hs' h h' ht
  go_enter Try.func13, Try.ntmps13
  go_wp2_with (go_at_call 52; refine (comparable2_any a b _ _ _ _ _ Hh.out Hh'.out hl hl' Hs.out Hs'.out).mono ?_; rintro e w' ⟨rfl, hb1⟩)
  go_loopw [13] (fun i wr => ∃ k : Nat, k ≤ a.length ∧ i = .int .i64 k ∧ Below w.heap.size w wr) (fun i _ => a.length - (intOf i).toNat)
  case atStart => exact ⟨0, by omega, by rfl, hb1⟩
  case round =>
    obtain ⟨k, hk, rfl, hbl⟩ := hrel
    have Hbl := Lib.hid hbl
    clear hbl hb1
    by_cases hlt : k < a.length
    · have hlt' : k < b.length := by omega
      obtain ⟨g, off, hA, hg, hcell⟩ := Hh.out.at hlt
      obtain ⟨g', off', hA', hg', hcell'⟩ := Hh'.out.at hlt'
      subst hA hA'
      have r0 : wr.cell? ⟨g, off + k, none⟩ = some (.string a[k]) := (Hbl.out.cell (p := ⟨g, off + k, none⟩) hg).trans (by have := hcell 0 _ rfl; rw [Nat.mul_one] at this; exact this)
      have q0 : wr.cell? ⟨g', off' + k, none⟩ = some (.string b[k]) := (Hbl.out.cell (p := ⟨g', off' + k, none⟩) hg').trans (by have := hcell' 0 _ rfl; rw [Nat.mul_one] at this; exact this)
      clear hcell hcell'
      obtain ⟨x, hx⟩ : ∃ x, Hid (a[k] = x) := ⟨a[k], Lib.hid rfl⟩
      obtain ⟨y, hy⟩ : ∃ y, Hid (b[k] = y) := ⟨b[k], Lib.hid rfl⟩
      rw [hx.out] at r0
      rw [hy.out] at q0
      have exy : x = y := by rw [← hx.out, ← hy.out]; exact Hsp.out.2.1 k hlt hlt' (by omega)
      have e2 := eqB_t exy
      clear exy
      go_wp2
      go_quiet (fail)
      go_wp2
      go_roundw
      case rel => exact ⟨k + 1, by omega, by go_num, below_drewN Hbl.out _⟩
      case measure => simp [intOf]; omega
    · go_wp2
      go_ret2
      exact ⟨rfl, Hbl.out⟩
theorem iFirst_f (a b : List ByteArray) (A A' : Option Addr) (c c' : Nat) (w : World) (h : RdL w w.heap.size A 1 encString a) (h' : RdL w w.heap.size A' 1 encString b) (hl : a.length ≤ 1048576) (hl' : b.length ≤ 1048576)
    (hs : ∀ x ∈ a, String_small 1048576 x) (hs' : ∀ x ∈ b, String_small 1048576 x) (ht : ¬ twoRows a b) :
    Calls Try.prog 13 #[.slice A a.length c, .slice A' b.length c'] w fun e w' => e = .returned (.tuple #[.int .i64 0, .bool false]) ∧ Below w.heap.size w w' := by
  have e1 := B_f ht
  clear ht
  go_enter Try.func13, Try.ntmps13
  go_wp2_with (go_at_call 52; refine (comparable2_any a b _ _ _ _ _ h h' hl hl' hs hs').mono ?_; rintro e w' ⟨rfl, hb1⟩)
  go_ret2
  exact ⟨rfl, hb1⟩
set_option maxHeartbeats 1600000 in
theorem sFirst_t (a b : List ByteArray) (A A' : Option Addr) (c c' : Nat) (w : World) (h : RdL w w.heap.size A 1 encString a) (h' : RdL w w.heap.size A' 1 encString b) (hl : a.length ≤ 1048576) (hl' : b.length ≤ 1048576)
    (hs : ∀ x ∈ a, String_small 1048576 x) (hs' : ∀ x ∈ b, String_small 1048576 x) (ht : twoRows a b) (hp : partAt a b < a.length) :
    Calls Try.prog 14 #[.slice A a.length c, .slice A' b.length c'] w fun e w' => e = .returned (.tuple #[.int .i64 (partAt a b), .bool true]) ∧ Below w.heap.size w w' := by
  have Hs := Lib.hid hs
  have Hs' := Lib.hid hs'
  have Hh := Lib.hid h
  have Hh' := Lib.hid h'
  have e1 := B_t ht
  have hle : a.length ≤ b.length := by have := ht.2.2.2.1; omega
  have Hsp := Lib.hid (partAt_spec a b ht.2.2.2.1)
  clear hs hs' h h' ht
  go_enter Try.func14, Try.ntmps14
  go_wp2_with (go_at_call 55; refine (l25Two_any a b _ _ _ _ _ Hh.out Hh'.out hl hl' Hs.out Hs'.out).mono ?_; rintro e w' ⟨rfl, hb1⟩)
  go_loopw [13] (fun i wr => ∃ k : Nat, k ≤ partAt a b ∧ i = .int .i64 k ∧ Below w.heap.size w wr) (fun i _ => a.length - (intOf i).toNat)
  case atStart => exact ⟨0, by omega, by rfl, hb1⟩
  case round =>
    obtain ⟨k, hk, rfl, hbl⟩ := hrel
    have Hbl := Lib.hid hbl
    clear hbl hb1
    have hlt : k < a.length := by omega
    have hlt' : k < b.length := by omega
    obtain ⟨g, off, hA, hg, hcell⟩ := Hh.out.at hlt
    obtain ⟨g', off', hA', hg', hcell'⟩ := Hh'.out.at hlt'
    subst hA hA'
    have r0 : wr.cell? ⟨g, off + k, none⟩ = some (.string a[k]) := (Hbl.out.cell (p := ⟨g, off + k, none⟩) hg).trans (by have := hcell 0 _ rfl; rw [Nat.mul_one] at this; exact this)
    have q0 : wr.cell? ⟨g', off' + k, none⟩ = some (.string b[k]) := (Hbl.out.cell (p := ⟨g', off' + k, none⟩) hg').trans (by have := hcell' 0 _ rfl; rw [Nat.mul_one] at this; exact this)
    clear hcell hcell'
    obtain ⟨x, hx⟩ : ∃ x, Hid (a[k] = x) := ⟨a[k], Lib.hid rfl⟩
    obtain ⟨y, hy⟩ : ∃ y, Hid (b[k] = y) := ⟨b[k], Lib.hid rfl⟩
    rw [hx.out] at r0
    rw [hy.out] at q0
    by_cases hc : k < partAt a b
    · have exy : x = y := by rw [← hx.out, ← hy.out]; exact Hsp.out.2.1 k hlt hlt' hc
      have e2 := eqB_t exy
      clear exy
      go_wp2
      go_quiet (fail)
      go_wp2
      go_roundw
      case rel => exact ⟨k + 1, by omega, by go_num, below_drewN Hbl.out _⟩
      case measure => simp [intOf]; omega
    · obtain rfl : k = partAt a b := by omega
      have exy : ¬ x = y := by rw [← hx.out, ← hy.out]; exact Hsp.out.2.2 hlt hlt'
      have e2 := eqB_f exy
      clear exy
      go_wp2
      go_quiet (fail)
      go_wp2
      go_ret2
      exact ⟨rfl, below_drewN Hbl.out _⟩
set_option maxHeartbeats 1600000 in
theorem sFirst_e (a b : List ByteArray) (A A' : Option Addr) (c c' : Nat) (w : World) (h : RdL w w.heap.size A 1 encString a) (h' : RdL w w.heap.size A' 1 encString b) (hl : a.length ≤ 1048576) (hl' : b.length ≤ 1048576)
    (hs : ∀ x ∈ a, String_small 1048576 x) (hs' : ∀ x ∈ b, String_small 1048576 x) (ht : twoRows a b) (hp : ¬ partAt a b < a.length) :
    Calls Try.prog 14 #[.slice A a.length c, .slice A' b.length c'] w fun e w' => e = .returned (.tuple #[.int .i64 0, .bool false]) ∧ Below w.heap.size w w' := by
  have Hs := Lib.hid hs
  have Hs' := Lib.hid hs'
  have Hh := Lib.hid h
  have Hh' := Lib.hid h'
  have e1 := B_t ht
  have hle : a.length ≤ b.length := by have := ht.2.2.2.1; omega
  have Hsp := Lib.hid (partAt_spec a b ht.2.2.2.1)
  clear hs hs' h h' ht
  go_enter Try.func14, Try.ntmps14
  go_wp2_with (go_at_call 55; refine (l25Two_any a b _ _ _ _ _ Hh.out Hh'.out hl hl' Hs.out Hs'.out).mono ?_; rintro e w' ⟨rfl, hb1⟩)
  go_loopw [13] (fun i wr => ∃ k : Nat, k ≤ a.length ∧ i = .int .i64 k ∧ Below w.heap.size w wr) (fun i _ => a.length - (intOf i).toNat)
  case atStart => exact ⟨0, by omega, by rfl, hb1⟩
  case round =>
    obtain ⟨k, hk, rfl, hbl⟩ := hrel
    have Hbl := Lib.hid hbl
    clear hbl hb1
    by_cases hlt : k < a.length
    · have hlt' : k < b.length := by omega
      obtain ⟨g, off, hA, hg, hcell⟩ := Hh.out.at hlt
      obtain ⟨g', off', hA', hg', hcell'⟩ := Hh'.out.at hlt'
      subst hA hA'
      have r0 : wr.cell? ⟨g, off + k, none⟩ = some (.string a[k]) := (Hbl.out.cell (p := ⟨g, off + k, none⟩) hg).trans (by have := hcell 0 _ rfl; rw [Nat.mul_one] at this; exact this)
      have q0 : wr.cell? ⟨g', off' + k, none⟩ = some (.string b[k]) := (Hbl.out.cell (p := ⟨g', off' + k, none⟩) hg').trans (by have := hcell' 0 _ rfl; rw [Nat.mul_one] at this; exact this)
      clear hcell hcell'
      obtain ⟨x, hx⟩ : ∃ x, Hid (a[k] = x) := ⟨a[k], Lib.hid rfl⟩
      obtain ⟨y, hy⟩ : ∃ y, Hid (b[k] = y) := ⟨b[k], Lib.hid rfl⟩
      rw [hx.out] at r0
      rw [hy.out] at q0
      have exy : x = y := by rw [← hx.out, ← hy.out]; exact Hsp.out.2.1 k hlt hlt' (by omega)
      have e2 := eqB_t exy
      clear exy
      go_wp2
      go_quiet (fail)
      go_wp2
      go_roundw
      case rel => exact ⟨k + 1, by omega, by go_num, below_drewN Hbl.out _⟩
      case measure => simp [intOf]; omega
    · go_wp2
      go_ret2
      exact ⟨rfl, Hbl.out⟩
theorem sFirst_f (a b : List ByteArray) (A A' : Option Addr) (c c' : Nat) (w : World) (h : RdL w w.heap.size A 1 encString a) (h' : RdL w w.heap.size A' 1 encString b) (hl : a.length ≤ 1048576) (hl' : b.length ≤ 1048576)
    (hs : ∀ x ∈ a, String_small 1048576 x) (hs' : ∀ x ∈ b, String_small 1048576 x) (ht : ¬ twoRows a b) :
    Calls Try.prog 14 #[.slice A a.length c, .slice A' b.length c'] w fun e w' => e = .returned (.tuple #[.int .i64 0, .bool false]) ∧ Below w.heap.size w w' := by
  have e1 := B_f ht
  clear ht
  go_enter Try.func14, Try.ntmps14
  go_wp2_with (go_at_call 55; refine (l25Two_any a b _ _ _ _ _ h h' hl hl' hs hs').mono ?_; rintro e w' ⟨rfl, hb1⟩)
  go_ret2
  exact ⟨rfl, hb1⟩
end Go.Proofs.Ytbfhfnejppfehaa
