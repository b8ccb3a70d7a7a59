/-
  Contracts: the weighted sum of distances, both sides.
-/
import Derived.Test.YtdecjijldcbnjaaMedLaw
import Derived.Test.YtdecjijldcbnjaaMedF
import Derived.Test.YtdecjijldcbnjaaWords
import Derived.Test.YtdecjijldcbnjaaL1c
import Derived.Test.YtdecjijldcbnjaaQuiet
namespace Go.Proofs.Ytdecjijldcbnjaa
open Go.RowKit
set_option linter.unusedVariables false
set_option linter.unusedSimpArgs false
set_option maxRecDepth 100000

theorem absV_bd {e B : Int} (h : inB e (-B) B) : 0 ≤ absV e ∧ absV e ≤ B := by unfold inB at h; unfold absV; split <;> omega
theorem mulV_bd {a b A B : Int} (h0 : 0 ≤ a) (h1 : a ≤ A) (h2 : 0 ≤ b) (h3 : b ≤ B) : 0 ≤ a * b ∧ a * b ≤ A * B :=
  ⟨Int.mul_nonneg h0 h2, Int.mul_le_mul h1 h3 h2 (by omega)⟩
theorem l22FarV_any (a b : Int) (w : World) (ha : inB a (-50000000) 50000000) (hb : inB b (-50000000) 50000000) : Calls Try.prog 192 #[.int .i64 a, .int .i64 b] w fun e' w' => e' = .returned (.int .i64 (absV (a - b))) ∧ w = w' := by
  unfold inB at ha hb
  obtain ⟨h1, h2⟩ := ha
  obtain ⟨h3, h4⟩ := hb
  have hm : ∀ (x y : Int) (w : World), Calls Try.prog 106 #[.int .i64 x, .int .i64 y] w fun e w' => e = .returned (.int .i64 (if x < y then y else x)) ∧ w = w' := fun x y w => by
    by_cases h : x < y
    · have h' : ¬ y < x := by omega
      go_enter Try.func106, Try.ntmps106
      go_wp2
      go_ret
      exact ⟨rfl, rfl⟩
    · by_cases h' : y < x
      · go_enter Try.func106, Try.ntmps106
        go_wp2
        go_ret
        exact ⟨rfl, rfl⟩
      · obtain rfl : x = y := by omega
        go_enter Try.func106, Try.ntmps106
        go_wp2
        go_ret
        exact ⟨rfl, rfl⟩
  have hab : Hid (absV (a - b) = if a - b < b - a then b - a else a - b) := Lib.hid (by unfold absV; by_cases h0 : a - b < 0 <;> by_cases h3 : a - b < b - a <;> simp [h0, h3] <;> omega)
  have Hm := Lib.hid hm
  clear hm
  go_enter Try.func192, Try.ntmps192
  go_wp2_with (go_at_call 106; refine (Hm.out _ _ _).mono ?_; rintro e' w' ⟨rfl, rfl⟩)
  all_goals
    go_ret
    exact ⟨ret_int (by rw [hab.out]; simp; try omega), rfl⟩
theorem absF_any (e : Int) (w : World) (h : inB e (-100000000) 100000000) : Calls Try.prog 137 #[.int .i64 e] w fun e' w' => e' = .returned (.int .i64 (absV e)) ∧ w = w' := by
  unfold inB at h
  obtain ⟨h1, h2⟩ := h
  by_cases h0 : e < 0
  · have e1 : absV e = -e := if_pos h0
    have E1 := Lib.hid e1
    clear e1
    have h3 : e < -e := by omega
    go_enter Try.func137, Try.ntmps137
    go_wp2
    go_ret
    exact ⟨ret_int (by rw [E1.out]; try omega), rfl⟩
  · have e1 : absV e = e := if_neg h0
    have E1 := Lib.hid e1
    clear e1
    have h3 : ¬ e < -e := by omega
    go_enter Try.func137, Try.ntmps137
    go_wp2
    go_ret
    exact ⟨ret_int (by rw [E1.out]; try omega), rfl⟩
theorem farOf_succ (vs ws : List Int) (x : Int) (k : Nat) : farOf vs ws x (k + 1) = farOf vs ws x k + ws.getD k 0 * absV (vs.getD k 0 - x) := sumF_range_succ _ _
theorem farOf_bd {vs ws : List Int} {x : Int} (hv : allIn vs (-50000000) 50000000) (hw : allIn ws 1 100) (hx : inB x (-50000000) 50000000) (hl : ws.length = vs.length) : ∀ k, k ≤ vs.length → 0 ≤ farOf vs ws x k ∧ farOf vs ws x k ≤ 10000000000 * k
  | 0, _ => by simp [farOf, sumF]
  | k + 1, hk => by
    have ih := farOf_bd hv hw hx hl k (by omega)
    have h1 := allIn_getD hv (k := k) (by omega)
    have h2 := allIn_getD hw (k := k) (by omega)
    unfold inB at hx
    have h3 := absV_bd (e := vs.getD k 0 - x) (B := 100000000) (by unfold inB; omega)
    have h4 := mulV_bd (a := ws.getD k 0) (b := absV (vs.getD k 0 - x)) (by omega) h2.2 h3.1 h3.2
    rw [farOf_succ]; omega
theorem allIn_more {l : List Int} {a b a' b' : Int} (h : allIn l a b) (h1 : a' ≤ a) (h2 : b ≤ b') : allIn l a' b' := fun x hx => by have := h x hx; unfold inB at *; omega



set_option maxHeartbeats 800000 in
theorem l23FarV_any (vs ws : List Int) (x : Int) (A A' : Option Addr) (c c' : Nat) (w : World) (h : RdL w w.heap.size A 1 encInt vs) (h' : RdL w w.heap.size A' 1 encInt ws) (hl : vs.length ≤ 400) (hlw : ws.length = vs.length) (hv : allIn vs (-50000000) 50000000) (hw : allIn ws 1 100) (hx : inB x (-50000000) 50000000) :
    Calls Try.prog 139 #[.slice A vs.length c, .slice A' ws.length c', .int .i64 x] w fun e w' => e = .returned (.int .i64 (farOf vs ws x vs.length)) ∧ Below w.heap.size w w' := by
  have H := Lib.hid h
  have H' := Lib.hid h'
  have Hv := Lib.hid hv
  have Hw := Lib.hid hw
  have Hx := Lib.hid hx
  have hbd := Lib.hid (farOf_bd hv hw hx hlw)
  have hs := Lib.hid (farOf_succ vs ws x)
  obtain ⟨S, hS⟩ : ∃ S : Nat → Int, Hid (S = farOf vs ws x) := ⟨_, Lib.hid rfl⟩
  rw [← hS.out] at hbd hs ⊢
  have hle : vs.length ≤ ws.length := by omega
  have hx1 := hx.1
  have hx2 := hx.2
  clear h h' hv hw hx
  clear hlw
  go_enter Try.func139, Try.ntmps139
  go_wp2
  go_loopw [7, 12] (fun s i wr => ∃ k : Nat, k ≤ vs.length ∧ i = .int .i64 k ∧ s = .int .i64 (S k) ∧ Below w.heap.size w wr) (fun _ i _ => vs.length - (intOf i).toNat)
  case atStart => exact ⟨0, by omega, by rfl, by rw [hS.out]; rfl, Below.refl _ _⟩
  case round =>
    obtain ⟨k, hk, rfl, rfl, hbl⟩ := hrel
    have Hbl := Lib.hid hbl
    clear hbl
    obtain ⟨b1, b2⟩ := hbd.out k hk
    have hst := hs.out k
    by_cases hlt : k < vs.length
    · have hlt' : k < ws.length := by omega
      rw [getD_get hlt, getD_get hlt'] at hst
      obtain ⟨x1, x2⟩ := allIn_get Hv.out hlt
      obtain ⟨y1, y2⟩ := allIn_get Hw.out hlt'
      obtain ⟨qg, qoff, qA, qhg, qcell⟩ := H.out.at (k := k) (by omega)
      have qr : w.cell? ⟨qg, qoff + k, none⟩ = some (.int .i64 (vs[k]'(by omega))) := by have := qcell 0 _ rfl; rw [Nat.mul_one] at this; exact this
      obtain ⟨qx, qh⟩ : ∃ x, Hid (vs[k]'(by omega) = x) := ⟨_, Lib.hid rfl⟩
      rw [qh.out] at qr
      clear qcell
      obtain ⟨rg, roff, rA, rhg, rcell⟩ := H'.out.at (k := k) (by omega)
      have rr : w.cell? ⟨rg, roff + k, none⟩ = some (.int .i64 (ws[k]'(by omega))) := by have := rcell 0 _ rfl; rw [Nat.mul_one] at this; exact this
      obtain ⟨rx, rh⟩ : ∃ x, Hid (ws[k]'(by omega) = x) := ⟨_, Lib.hid rfl⟩
      rw [rh.out] at rr
      clear rcell
      subst qA rA
      replace qr := (Hbl.out.cell (p := ⟨qg, qoff + k, none⟩) qhg).trans qr
      replace rr := (Hbl.out.cell (p := ⟨rg, roff + k, none⟩) rhg).trans rr
      rw [qh.out] at x1 x2 hst
      rw [rh.out] at y1 y2 hst
      obtain ⟨z1, z2⟩ := absV_bd (e := qx - x) (B := 100000000) (by unfold inB; omega)
      have hf : ∀ W, Calls Try.prog 192 #[.int .i64 qx, .int .i64 x] W fun e' w' => e' = .returned (.int .i64 (absV (qx - x))) ∧ w' = W := fun W => (l22FarV_any qx x W (by unfold inB; omega) (by unfold inB; omega)).mono fun _ _ h => ⟨h.1, h.2.symm⟩
      have Hf := Lib.hid hf
      clear hf
      generalize absV (qx - x) = z at *
      obtain ⟨m1, m2⟩ := mulV_bd (a := rx) (b := z) (by omega) y2 z1 z2
      generalize hSk : S k = s at *
      have HSk := Lib.hid hSk
      skip
      have Hst := Lib.hid hst
      clear hSk hst
      go_wp2
      go_quiet ((go_at_call 192; exact Calls.quiet_of_same (Hf.out _)))
      go_wp2
      go_roundw
      case rel => exact ⟨k + 1, by omega, by go_num, by rw [Hst.out], below_drewN Hbl.out _⟩
      case measure => simp [intOf]; omega
    · obtain rfl : k = vs.length := by omega
      have Hst := Lib.hid hst
      clear hst
      go_wp2
      (first | go_ret | go_ret2)
      exact ⟨rfl, Hbl.out⟩
def farP (vs ws : List Int) (x : Int) : Prop := valP vs ws ∧ inB x (-10000000) 10000000
set_option maxHeartbeats 1600000 in
theorem iSumFar_t (vs ws : List Int) (x : Int) (A A' : Option Addr) (c c' : Nat) (w : World) (h : RdL w w.heap.size A 1 encInt vs) (h' : RdL w w.heap.size A' 1 encInt ws) (hl0 : vs.length ≤ 1048576) (hl' : ws.length ≤ 1048576) (hp : farP vs ws x) :
    Calls Try.prog 51 #[.slice A vs.length c, .slice A' ws.length c', .int .i64 x] w fun e w' => e = .returned (.tuple #[.int .i64 (farOf vs ws x vs.length), .bool true]) ∧ Below w.heap.size w w' := by
  have e1 := B_t hp.1
  have e2 := B_t hp.2
  have hl := hp.1.1.1
  have hlw := hp.1.2.2.1
  have hv : allIn vs (-50000000) 50000000 := allIn_more hp.1.1.2 (by omega) (by omega)
  have hw := hp.1.2.2.2
  have hx : inB x (-50000000) 50000000 := by have := hp.2; unfold inB at *; omega
  clear hp
  have H := Lib.hid h
  have H' := Lib.hid h'
  have Hv := Lib.hid hv
  have Hw := Lib.hid hw
  have Hx := Lib.hid hx
  have hbd := Lib.hid (farOf_bd hv hw hx hlw)
  have hs := Lib.hid (farOf_succ vs ws x)
  obtain ⟨S, hS⟩ : ∃ S : Nat → Int, Hid (S = farOf vs ws x) := ⟨_, Lib.hid rfl⟩
  rw [← hS.out] at hbd hs ⊢
  have hle : vs.length ≤ ws.length := by omega
  have hx1 := hx.1
  have hx2 := hx.2
  clear h h' hv hw hx
  clear hlw
  go_enter Try.func51, Try.ntmps51
  go_wp2_with (first | (go_at_call 136; refine (goodValues_any vs ws A A' c c' _ H.out H'.out hl0 hl').mono ?_; rintro e w' ⟨rfl, rfl⟩) | (go_at_call 110; refine (within_any _ _ _ _).mono ?_; rintro e w' ⟨rfl, rfl⟩))
  go_loopw [8, 22] (fun s i wr => ∃ k : Nat, k ≤ vs.length ∧ i = .int .i64 k ∧ s = .int .i64 (S k) ∧ Below w.heap.size w wr) (fun _ i _ => vs.length - (intOf i).toNat)
  case atStart => exact ⟨0, by omega, by rfl, by rw [hS.out]; rfl, Below.refl _ _⟩
  case round =>
    obtain ⟨k, hk, rfl, rfl, hbl⟩ := hrel
    have Hbl := Lib.hid hbl
    clear hbl
    obtain ⟨b1, b2⟩ := hbd.out k hk
    have hst := hs.out k
    by_cases hlt : k < vs.length
    · have hlt' : k < ws.length := by omega
      rw [getD_get hlt, getD_get hlt'] at hst
      obtain ⟨x1, x2⟩ := allIn_get Hv.out hlt
      obtain ⟨y1, y2⟩ := allIn_get Hw.out hlt'
      obtain ⟨qg, qoff, qA, qhg, qcell⟩ := H.out.at (k := k) (by omega)
      have qr : w.cell? ⟨qg, qoff + k, none⟩ = some (.int .i64 (vs[k]'(by omega))) := by have := qcell 0 _ rfl; rw [Nat.mul_one] at this; exact this
      obtain ⟨qx, qh⟩ : ∃ x, Hid (vs[k]'(by omega) = x) := ⟨_, Lib.hid rfl⟩
      rw [qh.out] at qr
      clear qcell
      obtain ⟨rg, roff, rA, rhg, rcell⟩ := H'.out.at (k := k) (by omega)
      have rr : w.cell? ⟨rg, roff + k, none⟩ = some (.int .i64 (ws[k]'(by omega))) := by have := rcell 0 _ rfl; rw [Nat.mul_one] at this; exact this
      obtain ⟨rx, rh⟩ : ∃ x, Hid (ws[k]'(by omega) = x) := ⟨_, Lib.hid rfl⟩
      rw [rh.out] at rr
      clear rcell
      subst qA rA
      replace qr := (Hbl.out.cell (p := ⟨qg, qoff + k, none⟩) qhg).trans qr
      replace rr := (Hbl.out.cell (p := ⟨rg, roff + k, none⟩) rhg).trans rr
      rw [qh.out] at x1 x2 hst
      rw [rh.out] at y1 y2 hst
      obtain ⟨z1, z2⟩ := absV_bd (e := qx - x) (B := 100000000) (by unfold inB; omega)
      have hf : ∀ W, Calls Try.prog 137 #[.int .i64 (qx - x)] W fun e' w' => e' = .returned (.int .i64 (absV (qx - x))) ∧ w' = W := fun W => (absF_any (qx - x) W (by unfold inB; omega)).mono fun _ _ h => ⟨h.1, h.2.symm⟩
      have Hf := Lib.hid hf
      clear hf
      generalize absV (qx - x) = z at *
      obtain ⟨m1, m2⟩ := mulV_bd (a := rx) (b := z) (by omega) y2 z1 z2
      generalize hSk : S k = s at *
      have HSk := Lib.hid hSk
      rw [Int.mul_comm rx z] at hst m1 m2
      have Hst := Lib.hid hst
      clear hSk hst
      go_wp2
      go_quiet ((go_at_call 137; exact Calls.quiet_of_same (Hf.out _)))
      go_wp2
      go_roundw
      case rel => exact ⟨k + 1, by omega, by go_num, by rw [Hst.out], below_drewN Hbl.out _⟩
      case measure => simp [intOf]; omega
    · obtain rfl : k = vs.length := by omega
      have Hst := Lib.hid hst
      clear hst
      go_wp2
      (first | go_ret | go_ret2)
      exact ⟨rfl, Hbl.out⟩
theorem iSumFar_f (vs ws : List Int) (x : Int) (A A' : Option Addr) (c c' : Nat) (w : World) (h : RdL w w.heap.size A 1 encInt vs) (h' : RdL w w.heap.size A' 1 encInt ws) (hl0 : vs.length ≤ 1048576) (hl' : ws.length ≤ 1048576) (hp : ¬ farP vs ws x) :
    Calls Try.prog 51 #[.slice A vs.length c, .slice A' ws.length c', .int .i64 x] w fun e w' => e = .returned (.tuple #[.int .i64 0, .bool false]) ∧ Below w.heap.size w w' := by
  have H := Lib.hid h
  have H' := Lib.hid h'
  clear h h'
  by_cases h1 : valP vs ws
  · have h2 : ¬ inB x (-10000000) 10000000 := fun k => hp ⟨h1, k⟩
    have e1 := B_t h1
    have e2 := B_f h2
    clear h1 h2 hp
    go_enter Try.func51, Try.ntmps51
    go_wp2_with (first | (go_at_call 136; refine (goodValues_any vs ws A A' c c' _ H.out H'.out hl0 hl').mono ?_; rintro e w' ⟨rfl, rfl⟩) | (go_at_call 110; refine (within_any _ _ _ _).mono ?_; rintro e w' ⟨rfl, rfl⟩))
    go_ret2
    exact ⟨rfl, Below.refl _ _⟩
  · have e1 := B_f h1
    clear h1 hp
    go_enter Try.func51, Try.ntmps51
    go_wp2_with (first | (go_at_call 136; refine (goodValues_any vs ws A A' c c' _ H.out H'.out hl0 hl').mono ?_; rintro e w' ⟨rfl, rfl⟩) | (go_at_call 110; refine (within_any _ _ _ _).mono ?_; rintro e w' ⟨rfl, rfl⟩))
    go_ret2
    exact ⟨rfl, Below.refl _ _⟩
theorem sSumFar_t (vs ws : List Int) (x : Int) (A A' : Option Addr) (c c' : Nat) (w : World) (h : RdL w w.heap.size A 1 encInt vs) (h' : RdL w w.heap.size A' 1 encInt ws) (hl0 : vs.length ≤ 1048576) (hl' : ws.length ≤ 1048576) (hp : farP vs ws x) :
    Calls Try.prog 52 #[.slice A vs.length c, .slice A' ws.length c', .int .i64 x] w fun e w' => e = .returned (.tuple #[.int .i64 (farOf vs ws x vs.length), .bool true]) ∧ Below w.heap.size w w' := by
  have H := Lib.hid h
  have H' := Lib.hid h'
  have HP := Lib.hid hp
  have e1 := B_t hp.1
  have e2 := B_t hp.2
  clear h h' hp
  go_enter Try.func52, Try.ntmps52
  go_wp2_with (first | (go_at_call 138; refine (l23Asked_any vs ws A A' c c' _ H.out H'.out hl0 hl').mono ?_; rintro e w' ⟨rfl, rfl⟩) | (go_at_call 120; refine (l1In_any _ _ _ _).mono ?_; rintro e w' ⟨rfl, rfl⟩) | (go_at_call 139; refine (l23FarV_any vs ws x A A' c c' _ H.out H'.out HP.out.1.1.1 HP.out.1.2.2.1 (allIn_more HP.out.1.1.2 (by omega) (by omega)) HP.out.1.2.2.2 (by have := HP.out.2; unfold inB at *; omega)).mono ?_; rintro e w2 ⟨rfl, hb2⟩))
  go_ret2
  exact ⟨rfl, hb2⟩
theorem sSumFar_f (vs ws : List Int) (x : Int) (A A' : Option Addr) (c c' : Nat) (w : World) (h : RdL w w.heap.size A 1 encInt vs) (h' : RdL w w.heap.size A' 1 encInt ws) (hl0 : vs.length ≤ 1048576) (hl' : ws.length ≤ 1048576) (hp : ¬ farP vs ws x) :
    Calls Try.prog 52 #[.slice A vs.length c, .slice A' ws.length c', .int .i64 x] w fun e w' => e = .returned (.tuple #[.int .i64 0, .bool false]) ∧ Below w.heap.size w w' := by
  have H := Lib.hid h
  have H' := Lib.hid h'
  clear h h'
  by_cases h1 : valP vs ws
  · have h2 : ¬ inB x (-10000000) 10000000 := fun k => hp ⟨h1, k⟩
    have e1 := B_t h1
    have e2 := B_f h2
    clear h1 h2 hp
    go_enter Try.func52, Try.ntmps52
    go_wp2_with (first | (go_at_call 138; refine (l23Asked_any vs ws A A' c c' _ H.out H'.out hl0 hl').mono ?_; rintro e w' ⟨rfl, rfl⟩) | (go_at_call 120; refine (l1In_any _ _ _ _).mono ?_; rintro e w' ⟨rfl, rfl⟩))
    go_ret2
    exact ⟨rfl, Below.refl _ _⟩
  · have e1 := B_f h1
    clear h1 hp
    go_enter Try.func52, Try.ntmps52
    go_wp2_with (first | (go_at_call 138; refine (l23Asked_any vs ws A A' c c' _ H.out H'.out hl0 hl').mono ?_; rintro e w' ⟨rfl, rfl⟩) | (go_at_call 120; refine (l1In_any _ _ _ _).mono ?_; rintro e w' ⟨rfl, rfl⟩))
    go_ret2
    exact ⟨rfl, Below.refl _ _⟩
end Go.Proofs.Ytdecjijldcbnjaa
