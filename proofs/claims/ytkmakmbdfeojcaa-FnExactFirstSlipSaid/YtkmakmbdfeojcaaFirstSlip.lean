/-
  FirstSlip of the program returns what the reference's returns, for all arguments: no condition.
-/
import Derived.Test.YtkmakmbdfeojcaaTwoRows
import Derived.Test.YtkmakmbdfeojcaaStrEq
namespace Go.Proofs.Ytkmakmbdfeojcaa
open Go.RowKit
set_option linter.unusedVariables false
set_option linter.unusedSimpArgs false
set_option maxRecDepth 100000

/-- Where two lists part first; the length where they do not. -/
def partAt : List ByteArray → List ByteArray → Nat
  | x :: a, y :: b => if x = y then partAt a b + 1 else 0
  | _, _ => 0
theorem partAt_spec : ∀ (a b : List ByteArray), a.length = b.length → partAt a b ≤ a.length ∧ (∀ (j : Nat) (h : j < a.length) (h' : j < b.length), j < partAt a b → a[j] = b[j]) ∧ (∀ (h : partAt a b < a.length) (h' : partAt a b < b.length), a[partAt a b] ≠ b[partAt a b])
  | [], _, _ => by simp [partAt]
  | x :: a, [], h => by simp at h
  | x :: a, y :: b, h => by
    obtain ⟨h1, h2, h3⟩ := partAt_spec a b (by simpa using h)
    by_cases e : x = y
    · have : partAt (x :: a) (y :: b) = partAt a b + 1 := by simp [partAt, e]
      refine ⟨by rw [this]; simpa using h1, fun j hj hj' hlt => ?_, fun hj hj' => ?_⟩
      · cases j with
        | zero => simpa using e
        | succ j => simpa using h2 j (by simpa using hj) (by simpa using hj') (by omega)
      · simp only [this]
        simpa using h3 (by rw [this] at hj; simpa using hj) (by rw [this] at hj'; simpa using hj')
    · have : partAt (x :: a) (y :: b) = 0 := by simp [partAt, e]
      refine ⟨by omega, fun j _ _ hlt => by omega, fun hj hj' => ?_⟩
      simp only [this]
      simpa using e



set_option maxHeartbeats 1600000 in
theorem iFirst_t (a b : List ByteArray) (A A' : Option Addr) (c c' : Nat) (w : World) (h : RdL w w.heap.size A 1 encString a) (h' : RdL w w.heap.size A' 1 encString b) (hl : a.length ≤ 1048576) (hl' : b.length ≤ 1048576)
    (hs : ∀ x ∈ a, String_small 1048576 x) (hs' : ∀ x ∈ b, String_small 1048576 x) (ht : twoRows a b) (hp : partAt a b < a.length) :
    Calls Try.prog 34 #[.slice A a.length c, .slice A' b.length c'] w fun e w' => e = .returned (.tuple #[.int .i64 (partAt a b), .bool true]) ∧ Below w.heap.size w w' := by
  have Hs := Lib.hid hs
  have Hs' := Lib.hid hs'
  have Hh := Lib.hid h
  have Hh' := Lib.hid h'
  have e1 := B_t ht
  have hle : a.length ≤ b.length := by have := ht.2.2.2.1; omega
  have Hsp := Lib.hid (partAt_spec a b ht.2.2.2.1)
  clear hs hs' h h' ht
  go_enter Try.func34, Try.ntmps34
  go_wp2_with (go_at_call 83; refine (comparable2_any a b _ _ _ _ _ Hh.out Hh'.out hl hl' Hs.out Hs'.out).mono ?_; rintro e w' ⟨rfl, hb1⟩)
  go_loopw [13] (fun i wr => ∃ k : Nat, k ≤ partAt a b ∧ i = .int .i64 k ∧ Below w.heap.size w wr) (fun i _ => a.length - (intOf i).toNat)
  case atStart => exact ⟨0, by omega, by rfl, hb1⟩
  case round =>
    obtain ⟨k, hk, rfl, hbl⟩ := hrel
    have Hbl := Lib.hid hbl
    clear hbl hb1
    have hlt : k < a.length := by omega
    have hlt' : k < b.length := by omega
    obtain ⟨g, off, hA, hg, hcell⟩ := Hh.out.at hlt
    obtain ⟨g', off', hA', hg', hcell'⟩ := Hh'.out.at hlt'
    subst hA hA'
    have r0 : wr.cell? ⟨g, off + k, none⟩ = some (.string a[k]) := (Hbl.out.cell (p := ⟨g, off + k, none⟩) hg).trans (by have := hcell 0 _ rfl; rw [Nat.mul_one] at this; exact this)
    have q0 : wr.cell? ⟨g', off' + k, none⟩ = some (.string b[k]) := (Hbl.out.cell (p := ⟨g', off' + k, none⟩) hg').trans (by have := hcell' 0 _ rfl; rw [Nat.mul_one] at this; exact this)
    clear hcell hcell'
    obtain ⟨x, hx⟩ : ∃ x, Hid (a[k] = x) := ⟨a[k], Lib.hid rfl⟩
    obtain ⟨y, hy⟩ : ∃ y, Hid (b[k] = y) := ⟨b[k], Lib.hid rfl⟩
    rw [hx.out] at r0
    rw [hy.out] at q0
    by_cases hc : k < partAt a b
    · have exy : x = y := by rw [← hx.out, ← hy.out]; exact Hsp.out.2.1 k hlt hlt' hc
      have e2 := eqB_t exy
      clear exy
      go_wp2
      go_quiet (fail)
      go_wp2
      go_roundw
      case rel => exact ⟨k + 1, by omega, by go_num, below_drewN Hbl.out _⟩
      case measure => simp [intOf]; omega
    · obtain rfl : k = partAt a b := by omega
      have exy : ¬ x = y := by rw [← hx.out, ← hy.out]; exact Hsp.out.2.2 hlt hlt'
      have e2 := eqB_f exy
      clear exy
      go_wp2
      go_quiet (fail)
      go_wp2
      go_ret2
      exact ⟨rfl, below_drewN Hbl.out _⟩
set_option maxHeartbeats 1600000 in
theorem iFirst_e (a b : List ByteArray) (A A' : Option Addr) (c c' : Nat) (w : World) (h : RdL w w.heap.size A 1 encString a) (h' : RdL w w.heap.size A' 1 encString b) (hl : a.length ≤ 1048576) (hl' : b.length ≤ 1048576)
    (hs : ∀ x ∈ a, String_small 1048576 x) (hs' : ∀ x ∈ b, String_small 1048576 x) (ht : twoRows a b) (hp : ¬ partAt a b < a.length) :
    Calls Try.prog 34 #[.slice A a.length c, .slice A' b.length c'] w fun e w' => e = .returned (.tuple #[.int .i64 0, .bool false]) ∧ Below w.heap.size w w' := by
  have Hs := Lib.hid hs
  have Hs' := Lib.hid hs'
  have Hh := Lib.hid h
  have Hh' := Lib.hid h'
  have e1 := B_t ht
  have hle : a.length ≤ b.length := by have := ht.2.2.2.1; omega
  have Hsp := Lib.hid (partAt_spec a b ht.2.2.2.1)
  clear hs hs' h h' ht
  go_enter Try.func34, Try.ntmps34
  go_wp2_with (go_at_call 83; refine (comparable2_any a b _ _ _ _ _ Hh.out Hh'.out hl hl' Hs.out Hs'.out).mono ?_; rintro e w' ⟨rfl, hb1⟩)
  go_loopw [13] (fun i wr => ∃ k : Nat, k ≤ a.length ∧ i = .int .i64 k ∧ Below w.heap.size w wr) (fun i _ => a.length - (intOf i).toNat)
  case atStart => exact ⟨0, by omega, by rfl, hb1⟩
  case round =>
    obtain ⟨k, hk, rfl, hbl⟩ := hrel
    have Hbl := Lib.hid hbl
    clear hbl hb1
    by_cases hlt : k < a.length
    · have hlt' : k < b.length := by omega
      obtain ⟨g, off, hA, hg, hcell⟩ := Hh.out.at hlt
      obtain ⟨g', off', hA', hg', hcell'⟩ := Hh'.out.at hlt'
      subst hA hA'
      have r0 : wr.cell? ⟨g, off + k, none⟩ = some (.string a[k]) := (Hbl.out.cell (p := ⟨g, off + k, none⟩) hg).trans (by have := hcell 0 _ rfl; rw [Nat.mul_one] at this; exact this)
      have q0 : wr.cell? ⟨g', off' + k, none⟩ = some (.string b[k]) := (Hbl.out.cell (p := ⟨g', off' + k, none⟩) hg').trans (by have := hcell' 0 _ rfl; rw [Nat.mul_one] at this; exact this)
      clear hcell hcell'
      obtain ⟨x, hx⟩ : ∃ x, Hid (a[k] = x) := ⟨a[k], Lib.hid rfl⟩
      obtain ⟨y, hy⟩ : ∃ y, Hid (b[k] = y) := ⟨b[k], Lib.hid rfl⟩
      rw [hx.out] at r0
      rw [hy.out] at q0
      have exy : x = y := by rw [← hx.out, ← hy.out]; exact Hsp.out.2.1 k hlt hlt' (by omega)
      have e2 := eqB_t exy
      clear exy
      go_wp2
      go_quiet (fail)
      go_wp2
      go_roundw
      case rel => exact ⟨k + 1, by omega, by go_num, below_drewN Hbl.out _⟩
      case measure => simp [intOf]; omega
    · go_wp2
      go_ret2
      exact ⟨rfl, Hbl.out⟩
theorem iFirst_f (a b : List ByteArray) (A A' : Option Addr) (c c' : Nat) (w : World) (h : RdL w w.heap.size A 1 encString a) (h' : RdL w w.heap.size A' 1 encString b) (hl : a.length ≤ 1048576) (hl' : b.length ≤ 1048576)
    (hs : ∀ x ∈ a, String_small 1048576 x) (hs' : ∀ x ∈ b, String_small 1048576 x) (ht : ¬ twoRows a b) :
    Calls Try.prog 34 #[.slice A a.length c, .slice A' b.length c'] w fun e w' => e = .returned (.tuple #[.int .i64 0, .bool false]) ∧ Below w.heap.size w w' := by
  have e1 := B_f ht
  clear ht
  go_enter Try.func34, Try.ntmps34
  go_wp2_with (go_at_call 83; refine (comparable2_any a b _ _ _ _ _ h h' hl hl' hs hs').mono ?_; rintro e w' ⟨rfl, hb1⟩)
  go_ret2
  exact ⟨rfl, hb1⟩
set_option maxHeartbeats 1600000 in
theorem sFirst_t (a b : List ByteArray) (A A' : Option Addr) (c c' : Nat) (w : World) (h : RdL w w.heap.size A 1 encString a) (h' : RdL w w.heap.size A' 1 encString b) (hl : a.length ≤ 1048576) (hl' : b.length ≤ 1048576)
    (hs : ∀ x ∈ a, String_small 1048576 x) (hs' : ∀ x ∈ b, String_small 1048576 x) (ht : twoRows a b) (hp : partAt a b < a.length) :
    Calls Try.prog 32 #[.slice A a.length c, .slice A' b.length c'] w fun e w' => e = .returned (.tuple #[.int .i64 (partAt a b), .bool true]) ∧ Below w.heap.size w w' := by
  have Hs := Lib.hid hs
  have Hs' := Lib.hid hs'
  have Hh := Lib.hid h
  have Hh' := Lib.hid h'
  have e1 := B_t ht
  have hle : a.length ≤ b.length := by have := ht.2.2.2.1; omega
  have Hsp := Lib.hid (partAt_spec a b ht.2.2.2.1)
  clear hs hs' h h' ht
  go_enter Try.func32, Try.ntmps32
  go_wp2_with (go_at_call 82; refine (l25Two_any a b _ _ _ _ _ Hh.out Hh'.out hl hl' Hs.out Hs'.out).mono ?_; rintro e w' ⟨rfl, hb1⟩)
  go_loopw [13] (fun i wr => ∃ k : Nat, k ≤ partAt a b ∧ i = .int .i64 k ∧ Below w.heap.size w wr) (fun i _ => a.length - (intOf i).toNat)
  case atStart => exact ⟨0, by omega, by rfl, hb1⟩
  case round =>
    obtain ⟨k, hk, rfl, hbl⟩ := hrel
    have Hbl := Lib.hid hbl
    clear hbl hb1
    have hlt : k < a.length := by omega
    have hlt' : k < b.length := by omega
    obtain ⟨g, off, hA, hg, hcell⟩ := Hh.out.at hlt
    obtain ⟨g', off', hA', hg', hcell'⟩ := Hh'.out.at hlt'
    subst hA hA'
    have r0 : wr.cell? ⟨g, off + k, none⟩ = some (.string a[k]) := (Hbl.out.cell (p := ⟨g, off + k, none⟩) hg).trans (by have := hcell 0 _ rfl; rw [Nat.mul_one] at this; exact this)
    have q0 : wr.cell? ⟨g', off' + k, none⟩ = some (.string b[k]) := (Hbl.out.cell (p := ⟨g', off' + k, none⟩) hg').trans (by have := hcell' 0 _ rfl; rw [Nat.mul_one] at this; exact this)
    clear hcell hcell'
    obtain ⟨x, hx⟩ : ∃ x, Hid (a[k] = x) := ⟨a[k], Lib.hid rfl⟩
    obtain ⟨y, hy⟩ : ∃ y, Hid (b[k] = y) := ⟨b[k], Lib.hid rfl⟩
    rw [hx.out] at r0
    rw [hy.out] at q0
    by_cases hc : k < partAt a b
    · have exy : x = y := by rw [← hx.out, ← hy.out]; exact Hsp.out.2.1 k hlt hlt' hc
      have e2 := eqB_t exy
      clear exy
      go_wp2
      go_quiet (fail)
      go_wp2
      go_roundw
      case rel => exact ⟨k + 1, by omega, by go_num, below_drewN Hbl.out _⟩
      case measure => simp [intOf]; omega
    · obtain rfl : k = partAt a b := by omega
      have exy : ¬ x = y := by rw [← hx.out, ← hy.out]; exact Hsp.out.2.2 hlt hlt'
      have e2 := eqB_f exy
      clear exy
      go_wp2
      go_quiet (fail)
      go_wp2
      go_ret2
      exact ⟨rfl, below_drewN Hbl.out _⟩
set_option maxHeartbeats 1600000 in
theorem sFirst_e (a b : List ByteArray) (A A' : Option Addr) (c c' : Nat) (w : World) (h : RdL w w.heap.size A 1 encString a) (h' : RdL w w.heap.size A' 1 encString b) (hl : a.length ≤ 1048576) (hl' : b.length ≤ 1048576)
    (hs : ∀ x ∈ a, String_small 1048576 x) (hs' : ∀ x ∈ b, String_small 1048576 x) (ht : twoRows a b) (hp : ¬ partAt a b < a.length) :
    Calls Try.prog 32 #[.slice A a.length c, .slice A' b.length c'] w fun e w' => e = .returned (.tuple #[.int .i64 0, .bool false]) ∧ Below w.heap.size w w' := by
  have Hs := Lib.hid hs
  have Hs' := Lib.hid hs'
  have Hh := Lib.hid h
  have Hh' := Lib.hid h'
  have e1 := B_t ht
  have hle : a.length ≤ b.length := by have := ht.2.2.2.1; omega
  have Hsp := Lib.hid (partAt_spec a b ht.2.2.2.1)
  clear hs hs' h h' ht
  go_enter Try.func32, Try.ntmps32
  go_wp2_with (go_at_call 82; refine (l25Two_any a b _ _ _ _ _ Hh.out Hh'.out hl hl' Hs.out Hs'.out).mono ?_; rintro e w' ⟨rfl, hb1⟩)
  go_loopw [13] (fun i wr => ∃ k : Nat, k ≤ a.length ∧ i = .int .i64 k ∧ Below w.heap.size w wr) (fun i _ => a.length - (intOf i).toNat)
  case atStart => exact ⟨0, by omega, by rfl, hb1⟩
  case round =>
    obtain ⟨k, hk, rfl, hbl⟩ := hrel
    have Hbl := Lib.hid hbl
    clear hbl hb1
    by_cases hlt : k < a.length
    · have hlt' : k < b.length := by omega
      obtain ⟨g, off, hA, hg, hcell⟩ := Hh.out.at hlt
      obtain ⟨g', off', hA', hg', hcell'⟩ := Hh'.out.at hlt'
      subst hA hA'
      have r0 : wr.cell? ⟨g, off + k, none⟩ = some (.string a[k]) := (Hbl.out.cell (p := ⟨g, off + k, none⟩) hg).trans (by have := hcell 0 _ rfl; rw [Nat.mul_one] at this; exact this)
      have q0 : wr.cell? ⟨g', off' + k, none⟩ = some (.string b[k]) := (Hbl.out.cell (p := ⟨g', off' + k, none⟩) hg').trans (by have := hcell' 0 _ rfl; rw [Nat.mul_one] at this; exact this)
      clear hcell hcell'
      obtain ⟨x, hx⟩ : ∃ x, Hid (a[k] = x) := ⟨a[k], Lib.hid rfl⟩
      obtain ⟨y, hy⟩ : ∃ y, Hid (b[k] = y) := ⟨b[k], Lib.hid rfl⟩
      rw [hx.out] at r0
      rw [hy.out] at q0
      have exy : x = y := by rw [← hx.out, ← hy.out]; exact Hsp.out.2.1 k hlt hlt' (by omega)
      have e2 := eqB_t exy
      clear exy
      go_wp2
      go_quiet (fail)
      go_wp2
      go_roundw
      case rel => exact ⟨k + 1, by omega, by go_num, below_drewN Hbl.out _⟩
      case measure => simp [intOf]; omega
    · go_wp2
      go_ret2
      exact ⟨rfl, Hbl.out⟩
theorem sFirst_f (a b : List ByteArray) (A A' : Option Addr) (c c' : Nat) (w : World) (h : RdL w w.heap.size A 1 encString a) (h' : RdL w w.heap.size A' 1 encString b) (hl : a.length ≤ 1048576) (hl' : b.length ≤ 1048576)
    (hs : ∀ x ∈ a, String_small 1048576 x) (hs' : ∀ x ∈ b, String_small 1048576 x) (ht : ¬ twoRows a b) :
    Calls Try.prog 32 #[.slice A a.length c, .slice A' b.length c'] w fun e w' => e = .returned (.tuple #[.int .i64 0, .bool false]) ∧ Below w.heap.size w w' := by
  have e1 := B_f ht
  clear ht
  go_enter Try.func32, Try.ntmps32
  go_wp2_with (go_at_call 82; refine (l25Two_any a b _ _ _ _ _ h h' hl hl' hs hs').mono ?_; rintro e w' ⟨rfl, hb1⟩)
  go_ret2
  exact ⟨rfl, hb1⟩
set_option maxHeartbeats 4000000 in
theorem firstLaw (w : World) (a : List ByteArray) (Aa : Option Addr) (ca : Nat) (hra : RdL w w.heap.size Aa 1 encString a) (hla : a.length ≤ 9223372036854775807) (hsa : ∀ x ∈ a, String_small 9223372036854775807 x) (b : List ByteArray) (Ab : Option Addr) (cb : Nat) (hrb : RdL w w.heap.size Ab 1 encString b) (hlb : b.length ≤ 9223372036854775807) (hsb : ∀ x ∈ b, String_small 9223372036854775807 x) :
    Calls Try.prog 7 #[.slice Aa a.length ca, .slice Ab b.length cb] w fun e w' => e = .returned (.bool true) ∧ Below w.heap.size w w' := by
  have Hra := Lib.hid hra
  have Hsa := Lib.hid hsa
  clear hra hsa
  have Hrb := Lib.hid hrb
  have Hsb := Lib.hid hsb
  clear hrb hsb
  have Bw0 := Lib.hid (Below.refl w.heap.size w)
  go_enter Try.func7, Try.ntmps7
  go_wp2_with fail
  refine (szStringS_any a Aa ca (1048576 : Int) _ ((Hra.out.below Bw0.out (Nat.le_refl _)).more Bw0.out.size) (by omega) (by omega) (by omega) Hsa.out).mono ?_
  rintro e w1 ⟨r1, rfl, hz, hb⟩
  have C1 := Lib.hid hb
  clear hb
  have t1 := C1.out.size
  have Bw1 := Lib.hid (Bw0.out.trans (C1.out.mono Bw0.out.size))
  have Z1 := Lib.hid hz
  clear hz
  by_cases n1 : r1 < 0
  · go_wp2_with fail
    go_ret
    exact ⟨rfl, Bw1.out⟩
  have z1 := Z1.out.resolve_left n1
  have y1 : 0 ≤ r1 ∧ r1 ≤ 1048576 ∧ a.length ≤ 1048576 := ⟨z1.1, by have := z1.2.1; omega, by have := z1.2.2.1; omega⟩
  obtain ⟨y1a, y1b, hla'⟩ := y1
  have Hma : Hid (∀ x ∈ a, String_small 1048576 x) := Lib.hid (fun x hx => by have := z1.2.2.2 x hx; simp only [String_small] at this ⊢; omega)
  clear z1
  go_wp2_with fail
  refine (szStringS_any b Ab cb r1 _ ((Hrb.out.below Bw1.out (Nat.le_refl _)).more Bw1.out.size) (by omega) (by omega) (by omega) Hsb.out).mono ?_
  rintro e w2 ⟨r2, rfl, hz, hb⟩
  have C2 := Lib.hid hb
  clear hb
  have t2 := C2.out.size
  have Bw2 := Lib.hid (Bw1.out.trans (C2.out.mono Bw1.out.size))
  have Z2 := Lib.hid hz
  clear hz
  by_cases n2 : r2 < 0
  · go_wp2_with fail
    go_ret
    exact ⟨rfl, Bw2.out⟩
  have z2 := Z2.out.resolve_left n2
  have y2 : 0 ≤ r2 ∧ r2 ≤ 1048576 ∧ b.length ≤ 1048576 := ⟨z2.1, by have := z2.2.1; omega, by have := z2.2.2.1; omega⟩
  obtain ⟨y2a, y2b, hlb'⟩ := y2
  have Hmb : Hid (∀ x ∈ b, String_small 1048576 x) := Lib.hid (fun x hx => by have := z2.2.2.2 x hx; simp only [String_small] at this ⊢; omega)
  clear z2
  by_cases ht : twoRows a b
  by_cases hp : partAt a b < a.length
  · have H := Lib.hid ht
    clear ht
    go_wp2_with fail
    refine (toStringS_any a Aa ca _ ((Hra.out.below Bw2.out (Nat.le_refl _)).more Bw2.out.size) (by omega)).mono ?_
    rintro e w3 ⟨A3, rfl, ho, hb⟩
    have C3 := Lib.hid hb
    clear hb
    have t3 := C3.out.size
    have Bw3 := Lib.hid (Bw2.out.trans (C3.out.mono Bw2.out.size))
    have O_t2_3 := Lib.hid ho
    clear ho
    go_wp2_with fail
    refine (toStringS_any b Ab cb _ ((Hrb.out.below Bw3.out (Nat.le_refl _)).more Bw3.out.size) (by omega)).mono ?_
    rintro e w4 ⟨A4, rfl, ho, hb⟩
    have C4 := Lib.hid hb
    clear hb
    have t4 := C4.out.size
    have Bw4 := Lib.hid (Bw3.out.trans (C4.out.mono Bw3.out.size))
    have O_t3_4 := Lib.hid ho
    clear ho
    have O_t2_4 := Lib.hid (O_t2_3.out.later C4.out)
    clear O_t2_3
    go_wp2_with fail
    refine (sFirst_t a b A3 A4 a.length b.length _ (O_t2_4.out.rd encString_len) (O_t3_4.out.rd encString_len) (by omega) (by omega) Hma.out Hmb.out H.out hp).mono ?_
    rintro e w5 ⟨rfl, hb⟩
    have C5 := Lib.hid hb
    clear hb
    have t5 := C5.out.size
    have Bw5 := Lib.hid (Bw4.out.trans (C5.out.mono Bw4.out.size))
    go_wp2_with fail
    refine (toStringS_any a Aa ca _ ((Hra.out.below Bw5.out (Nat.le_refl _)).more Bw5.out.size) (by omega)).mono ?_
    rintro e w6 ⟨A6, rfl, ho, hb⟩
    have C6 := Lib.hid hb
    clear hb
    have t6 := C6.out.size
    have Bw6 := Lib.hid (Bw5.out.trans (C6.out.mono Bw5.out.size))
    have O_x0_6 := Lib.hid ho
    clear ho
    go_wp2_with fail
    refine (toStringS_any b Ab cb _ ((Hrb.out.below Bw6.out (Nat.le_refl _)).more Bw6.out.size) (by omega)).mono ?_
    rintro e w7 ⟨A7, rfl, ho, hb⟩
    have C7 := Lib.hid hb
    clear hb
    have t7 := C7.out.size
    have Bw7 := Lib.hid (Bw6.out.trans (C7.out.mono Bw6.out.size))
    have O_x1_7 := Lib.hid ho
    clear ho
    have O_x0_7 := Lib.hid (O_x0_6.out.later C7.out)
    clear O_x0_6
    go_wp2_with fail
    refine (iFirst_t a b A6 A7 a.length b.length _ (O_x0_7.out.rd encString_len) (O_x1_7.out.rd encString_len) (by omega) (by omega) Hma.out Hmb.out H.out hp).mono ?_
    rintro e w8 ⟨rfl, hb⟩
    have C8 := Lib.hid hb
    clear hb
    have t8 := C8.out.size
    have Bw8 := Lib.hid (Bw7.out.trans (C8.out.mono Bw7.out.size))
    have O_x0_8 := Lib.hid (O_x0_7.out.later C8.out)
    clear O_x0_7
    have O_x1_8 := Lib.hid (O_x1_7.out.later C8.out)
    clear O_x1_7
    go_wp2_with fail
    refine (toStringS_any a Aa ca _ ((Hra.out.below Bw8.out (Nat.le_refl _)).more Bw8.out.size) (by omega)).mono ?_
    rintro e w9 ⟨A9, rfl, ho, hb⟩
    have C9 := Lib.hid hb
    clear hb
    have t9 := C9.out.size
    have Bw9 := Lib.hid (Bw8.out.trans (C9.out.mono Bw8.out.size))
    have O_t8_9 := Lib.hid ho
    clear ho
    have O_x0_9 := Lib.hid (O_x0_8.out.later C9.out)
    clear O_x0_8
    have O_x1_9 := Lib.hid (O_x1_8.out.later C9.out)
    clear O_x1_8
    go_wp2_with fail
    refine (eqStringS_t a A6 A9 a.length a.length _ (O_x0_9.out.rd encString_len) (O_t8_9.out.rd encString_len) (by omega)).mono ?_
    rintro e w10 ⟨rfl, hb⟩
    have C10 := Lib.hid hb
    clear hb
    have t10 := C10.out.size
    have Bw10 := Lib.hid (Bw9.out.trans (C10.out.mono Bw9.out.size))
    have O_x1_10 := Lib.hid (O_x1_9.out.later C10.out)
    clear O_x1_9
    go_wp2_with fail
    refine (toStringS_any b Ab cb _ ((Hrb.out.below Bw10.out (Nat.le_refl _)).more Bw10.out.size) (by omega)).mono ?_
    rintro e w11 ⟨A11, rfl, ho, hb⟩
    have C11 := Lib.hid hb
    clear hb
    have t11 := C11.out.size
    have Bw11 := Lib.hid (Bw10.out.trans (C11.out.mono Bw10.out.size))
    have O_t10_11 := Lib.hid ho
    clear ho
    have O_x1_11 := Lib.hid (O_x1_10.out.later C11.out)
    clear O_x1_10
    go_wp2_with fail
    refine (eqStringS_t b A7 A11 b.length b.length _ (O_x1_11.out.rd encString_len) (O_t10_11.out.rd encString_len) (by omega)).mono ?_
    rintro e w12 ⟨rfl, hb⟩
    have C12 := Lib.hid hb
    clear hb
    have t12 := C12.out.size
    have Bw12 := Lib.hid (Bw11.out.trans (C12.out.mono Bw11.out.size))
    go_wp2_with fail
    go_ret
    exact ⟨rfl, Bw12.out⟩
  · have H := Lib.hid ht
    clear ht
    go_wp2_with fail
    refine (toStringS_any a Aa ca _ ((Hra.out.below Bw2.out (Nat.le_refl _)).more Bw2.out.size) (by omega)).mono ?_
    rintro e w3 ⟨A3, rfl, ho, hb⟩
    have C3 := Lib.hid hb
    clear hb
    have t3 := C3.out.size
    have Bw3 := Lib.hid (Bw2.out.trans (C3.out.mono Bw2.out.size))
    have O_t2_3 := Lib.hid ho
    clear ho
    go_wp2_with fail
    refine (toStringS_any b Ab cb _ ((Hrb.out.below Bw3.out (Nat.le_refl _)).more Bw3.out.size) (by omega)).mono ?_
    rintro e w4 ⟨A4, rfl, ho, hb⟩
    have C4 := Lib.hid hb
    clear hb
    have t4 := C4.out.size
    have Bw4 := Lib.hid (Bw3.out.trans (C4.out.mono Bw3.out.size))
    have O_t3_4 := Lib.hid ho
    clear ho
    have O_t2_4 := Lib.hid (O_t2_3.out.later C4.out)
    clear O_t2_3
    go_wp2_with fail
    refine (sFirst_e a b A3 A4 a.length b.length _ (O_t2_4.out.rd encString_len) (O_t3_4.out.rd encString_len) (by omega) (by omega) Hma.out Hmb.out H.out hp).mono ?_
    rintro e w5 ⟨rfl, hb⟩
    have C5 := Lib.hid hb
    clear hb
    have t5 := C5.out.size
    have Bw5 := Lib.hid (Bw4.out.trans (C5.out.mono Bw4.out.size))
    go_wp2_with fail
    refine (toStringS_any a Aa ca _ ((Hra.out.below Bw5.out (Nat.le_refl _)).more Bw5.out.size) (by omega)).mono ?_
    rintro e w6 ⟨A6, rfl, ho, hb⟩
    have C6 := Lib.hid hb
    clear hb
    have t6 := C6.out.size
    have Bw6 := Lib.hid (Bw5.out.trans (C6.out.mono Bw5.out.size))
    have O_x0_6 := Lib.hid ho
    clear ho
    go_wp2_with fail
    refine (toStringS_any b Ab cb _ ((Hrb.out.below Bw6.out (Nat.le_refl _)).more Bw6.out.size) (by omega)).mono ?_
    rintro e w7 ⟨A7, rfl, ho, hb⟩
    have C7 := Lib.hid hb
    clear hb
    have t7 := C7.out.size
    have Bw7 := Lib.hid (Bw6.out.trans (C7.out.mono Bw6.out.size))
    have O_x1_7 := Lib.hid ho
    clear ho
    have O_x0_7 := Lib.hid (O_x0_6.out.later C7.out)
    clear O_x0_6
    go_wp2_with fail
    refine (iFirst_e a b A6 A7 a.length b.length _ (O_x0_7.out.rd encString_len) (O_x1_7.out.rd encString_len) (by omega) (by omega) Hma.out Hmb.out H.out hp).mono ?_
    rintro e w8 ⟨rfl, hb⟩
    have C8 := Lib.hid hb
    clear hb
    have t8 := C8.out.size
    have Bw8 := Lib.hid (Bw7.out.trans (C8.out.mono Bw7.out.size))
    have O_x0_8 := Lib.hid (O_x0_7.out.later C8.out)
    clear O_x0_7
    have O_x1_8 := Lib.hid (O_x1_7.out.later C8.out)
    clear O_x1_7
    go_wp2_with fail
    refine (toStringS_any a Aa ca _ ((Hra.out.below Bw8.out (Nat.le_refl _)).more Bw8.out.size) (by omega)).mono ?_
    rintro e w9 ⟨A9, rfl, ho, hb⟩
    have C9 := Lib.hid hb
    clear hb
    have t9 := C9.out.size
    have Bw9 := Lib.hid (Bw8.out.trans (C9.out.mono Bw8.out.size))
    have O_t8_9 := Lib.hid ho
    clear ho
    have O_x0_9 := Lib.hid (O_x0_8.out.later C9.out)
    clear O_x0_8
    have O_x1_9 := Lib.hid (O_x1_8.out.later C9.out)
    clear O_x1_8
    go_wp2_with fail
    refine (eqStringS_t a A6 A9 a.length a.length _ (O_x0_9.out.rd encString_len) (O_t8_9.out.rd encString_len) (by omega)).mono ?_
    rintro e w10 ⟨rfl, hb⟩
    have C10 := Lib.hid hb
    clear hb
    have t10 := C10.out.size
    have Bw10 := Lib.hid (Bw9.out.trans (C10.out.mono Bw9.out.size))
    have O_x1_10 := Lib.hid (O_x1_9.out.later C10.out)
    clear O_x1_9
    go_wp2_with fail
    refine (toStringS_any b Ab cb _ ((Hrb.out.below Bw10.out (Nat.le_refl _)).more Bw10.out.size) (by omega)).mono ?_
    rintro e w11 ⟨A11, rfl, ho, hb⟩
    have C11 := Lib.hid hb
    clear hb
    have t11 := C11.out.size
    have Bw11 := Lib.hid (Bw10.out.trans (C11.out.mono Bw10.out.size))
    have O_t10_11 := Lib.hid ho
    clear ho
    have O_x1_11 := Lib.hid (O_x1_10.out.later C11.out)
    clear O_x1_10
    go_wp2_with fail
    refine (eqStringS_t b A7 A11 b.length b.length _ (O_x1_11.out.rd encString_len) (O_t10_11.out.rd encString_len) (by omega)).mono ?_
    rintro e w12 ⟨rfl, hb⟩
    have C12 := Lib.hid hb
    clear hb
    have t12 := C12.out.size
    have Bw12 := Lib.hid (Bw11.out.trans (C12.out.mono Bw11.out.size))
    go_wp2_with fail
    go_ret
    exact ⟨rfl, Bw12.out⟩
  · have H := Lib.hid ht
    clear ht
    go_wp2_with fail
    refine (toStringS_any a Aa ca _ ((Hra.out.below Bw2.out (Nat.le_refl _)).more Bw2.out.size) (by omega)).mono ?_
    rintro e w3 ⟨A3, rfl, ho, hb⟩
    have C3 := Lib.hid hb
    clear hb
    have t3 := C3.out.size
    have Bw3 := Lib.hid (Bw2.out.trans (C3.out.mono Bw2.out.size))
    have O_t2_3 := Lib.hid ho
    clear ho
    go_wp2_with fail
    refine (toStringS_any b Ab cb _ ((Hrb.out.below Bw3.out (Nat.le_refl _)).more Bw3.out.size) (by omega)).mono ?_
    rintro e w4 ⟨A4, rfl, ho, hb⟩
    have C4 := Lib.hid hb
    clear hb
    have t4 := C4.out.size
    have Bw4 := Lib.hid (Bw3.out.trans (C4.out.mono Bw3.out.size))
    have O_t3_4 := Lib.hid ho
    clear ho
    have O_t2_4 := Lib.hid (O_t2_3.out.later C4.out)
    clear O_t2_3
    go_wp2_with fail
    refine (sFirst_f a b A3 A4 a.length b.length _ (O_t2_4.out.rd encString_len) (O_t3_4.out.rd encString_len) (by omega) (by omega) Hma.out Hmb.out H.out).mono ?_
    rintro e w5 ⟨rfl, hb⟩
    have C5 := Lib.hid hb
    clear hb
    have t5 := C5.out.size
    have Bw5 := Lib.hid (Bw4.out.trans (C5.out.mono Bw4.out.size))
    go_wp2_with fail
    refine (toStringS_any a Aa ca _ ((Hra.out.below Bw5.out (Nat.le_refl _)).more Bw5.out.size) (by omega)).mono ?_
    rintro e w6 ⟨A6, rfl, ho, hb⟩
    have C6 := Lib.hid hb
    clear hb
    have t6 := C6.out.size
    have Bw6 := Lib.hid (Bw5.out.trans (C6.out.mono Bw5.out.size))
    have O_x0_6 := Lib.hid ho
    clear ho
    go_wp2_with fail
    refine (toStringS_any b Ab cb _ ((Hrb.out.below Bw6.out (Nat.le_refl _)).more Bw6.out.size) (by omega)).mono ?_
    rintro e w7 ⟨A7, rfl, ho, hb⟩
    have C7 := Lib.hid hb
    clear hb
    have t7 := C7.out.size
    have Bw7 := Lib.hid (Bw6.out.trans (C7.out.mono Bw6.out.size))
    have O_x1_7 := Lib.hid ho
    clear ho
    have O_x0_7 := Lib.hid (O_x0_6.out.later C7.out)
    clear O_x0_6
    go_wp2_with fail
    refine (iFirst_f a b A6 A7 a.length b.length _ (O_x0_7.out.rd encString_len) (O_x1_7.out.rd encString_len) (by omega) (by omega) Hma.out Hmb.out H.out).mono ?_
    rintro e w8 ⟨rfl, hb⟩
    have C8 := Lib.hid hb
    clear hb
    have t8 := C8.out.size
    have Bw8 := Lib.hid (Bw7.out.trans (C8.out.mono Bw7.out.size))
    have O_x0_8 := Lib.hid (O_x0_7.out.later C8.out)
    clear O_x0_7
    have O_x1_8 := Lib.hid (O_x1_7.out.later C8.out)
    clear O_x1_7
    go_wp2_with fail
    refine (toStringS_any a Aa ca _ ((Hra.out.below Bw8.out (Nat.le_refl _)).more Bw8.out.size) (by omega)).mono ?_
    rintro e w9 ⟨A9, rfl, ho, hb⟩
    have C9 := Lib.hid hb
    clear hb
    have t9 := C9.out.size
    have Bw9 := Lib.hid (Bw8.out.trans (C9.out.mono Bw8.out.size))
    have O_t8_9 := Lib.hid ho
    clear ho
    have O_x0_9 := Lib.hid (O_x0_8.out.later C9.out)
    clear O_x0_8
    have O_x1_9 := Lib.hid (O_x1_8.out.later C9.out)
    clear O_x1_8
    go_wp2_with fail
    refine (eqStringS_t a A6 A9 a.length a.length _ (O_x0_9.out.rd encString_len) (O_t8_9.out.rd encString_len) (by omega)).mono ?_
    rintro e w10 ⟨rfl, hb⟩
    have C10 := Lib.hid hb
    clear hb
    have t10 := C10.out.size
    have Bw10 := Lib.hid (Bw9.out.trans (C10.out.mono Bw9.out.size))
    have O_x1_10 := Lib.hid (O_x1_9.out.later C10.out)
    clear O_x1_9
    go_wp2_with fail
    refine (toStringS_any b Ab cb _ ((Hrb.out.below Bw10.out (Nat.le_refl _)).more Bw10.out.size) (by omega)).mono ?_
    rintro e w11 ⟨A11, rfl, ho, hb⟩
    have C11 := Lib.hid hb
    clear hb
    have t11 := C11.out.size
    have Bw11 := Lib.hid (Bw10.out.trans (C11.out.mono Bw10.out.size))
    have O_t10_11 := Lib.hid ho
    clear ho
    have O_x1_11 := Lib.hid (O_x1_10.out.later C11.out)
    clear O_x1_10
    go_wp2_with fail
    refine (eqStringS_t b A7 A11 b.length b.length _ (O_x1_11.out.rd encString_len) (O_t10_11.out.rd encString_len) (by omega)).mono ?_
    rintro e w12 ⟨rfl, hb⟩
    have C12 := Lib.hid hb
    clear hb
    have t12 := C12.out.size
    have Bw12 := Lib.hid (Bw11.out.trans (C12.out.mono Bw11.out.size))
    go_wp2_with fail
    go_ret
    exact ⟨rfl, Bw12.out⟩

namespace fnExactFirstSlip
open Go.ChangeShapes Go.WideShapes Go.ChangeAt Go.RowKit Go.Deep
open Go.ChangeMaps (open_string shut_string)
theorem own : ownKnob Try.prog.godebug = none := by kernel_rfl
theorem laid : laidOutB Try.prog = true := by kernel_rfl
theorem reads : Try.f7.params.toList.all (fun t => Try.prog.readableRec t && decide (t < Try.prog.types.size)) = true := by kernel_rfl
set_option maxRecDepth 100000 in
theorem lifted (os : Os) (started : os.Started) (H : Type) (enc : TypeId × Value → H) :
    ReturnsInHanded {} Try.checked os 7 .any (Rows.fnExactFirstSlipSpec.pre6 enc Try.prog Try.f7 Rows.fnExactFirstSlipRow.domain false) (Rows.fnExactFirstSlipSpec.post enc Try.prog Try.f7 false true false false) := by
  refine returnsInHanded_of_change (C := Try.checked) own started (by kernel_rfl) Try.func7
    (ChangeSpec.witness6 (enc := enc) (C := Try.checked) false ⟨#[], #[.slice none 0 0, .slice none 0 0], []⟩ 8 (by kernel_rfl) (by kernel_rfl) (by kernel_rfl) (by kernel_rfl)) ?_
  intro W base args ds gs before hval0 hW hcnd _
  have hval : ∀ (j : Nat) t v, Try.f7.params[j]? = some t → args[j]? = some v → Value.okWide Try.prog W .any base t v := hval0
  have hW' := hW
  obtain ⟨p, q, hA0, hV, rfl, hfz, hnd⟩ := hW
  have hA : DataW.TrodAll enc Try.prog W 0 (fun _ => true) true Try.f7.params.toList args.toList ds p := hA0
  rw [Try.params7] at hA hval
  obtain ⟨rfl, rfl⟩ := trodVars_none hV
  have hlt : ∀ x ∈ p, x.block < W.heap.size := fun x hx => by simpa using hW'.lt x (List.mem_append.2 (.inl hx))
  clear hA0 hval0
  obtain ⟨v0, vs0, d0, ds0, p0, q0, hargs, rfl, rfl, h0, r0⟩ := trodAll_cons hA
  obtain ⟨v1, vs1, d1, ds1, p1, q1, rfl, rfl, rfl, h1, r1⟩ := trodAll_cons r0
  obtain ⟨rfl, rfl, rfl⟩ := trodAll_nil r1
  obtain rfl : args = #[v0, v1] := by cases args; simp_all
  clear hargs
  obtain ⟨A0, a0, c0, rfl, y0, x0, z0⟩ := open_list Try.underlying44 1 (by kernel_rfl) (by omega) encString _ String_el (hval 0 44 v0 rfl rfl) h0
  obtain ⟨A1, a1, c1, rfl, y1, x1, z1⟩ := open_list Try.underlying44 1 (by kernel_rfl) (by omega) encString _ String_el (hval 1 44 v1 rfl rfl) h1
  refine (firstLaw W a0 A0 c0 x0 (by unfold maxLen at y0; omega) z0 a1 A1 c1 x1 (by unfold maxLen at y1; omega) z1).mono fun e W' ⟨he, hg⟩ => ?_
  subst he
  exact ⟨_, rfl, law_post laid reads rfl Try.underlying4 rfl rfl hW' hg⟩
theorem over : Rows.fnExactFirstSlipRow.holds Try.pinned (OpenSpec.ofChange Rows.fnExactFirstSlipSpec) :=
  OpenClaim.holds_of_wide 7 Try.f7 rfl rfl rfl rfl rfl rfl rfl ⟨rfl, rfl, rfl, rfl, rfl⟩ rfl rfl rfl rfl rfl (by kernel_rfl) Try.func7 (by kernel_rfl)
    (of_decide_eq_true (by kernel_rfl)) (by unfold Func.isWrapper; first | (rw [if_pos (by decide +kernel)]; kernel_rfl) | (rw [if_neg (by decide +kernel)]; exact ⟨rfl, rfl⟩))
    (fun os started H enc _ => lifted os started H enc)
theorem proved : Rows.FnExactFirstSlipSaid := over
end fnExactFirstSlip
end Go.Proofs.Ytkmakmbdfeojcaa
