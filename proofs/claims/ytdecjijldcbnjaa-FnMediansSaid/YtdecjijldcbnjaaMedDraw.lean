/-
  Drawn values with weights; membership in a list of ints.
-/
import Derived.Test.YtdecjijldcbnjaaCurInts
import Derived.Test.YtdecjijldcbnjaaIntsL
namespace Go.Proofs.Ytdecjijldcbnjaa
open Go.RowKit
set_option linter.unusedVariables false
set_option linter.unusedSimpArgs false
set_option maxRecDepth 100000


set_option maxHeartbeats 1600000 in
theorem drawMedianOf_any (A : Option Addr) (c : Nat) (l : List Int) (w : World) (h : RdL w w.heap.size A 1 encByte l) (hb : ∀ x ∈ l, 0 ≤ x ∧ x < 256) (hl : l.length ≤ 1048576) :
    Calls Try.prog 56 #[.slice A l.length c] w fun e w' => ∃ (A1 A2 : Option Addr) (c1 c2 : Nat) (vs ws : List Int), e = .returned (.tuple #[.slice A1 vs.length c1, .slice A2 ws.length c2]) ∧ vs.length ≤ 7 ∧ ws.length ≤ 7 ∧ RdL w' w'.heap.size A1 1 encInt vs ∧ RdL w' w'.heap.size A2 1 encInt ws ∧ Below w.heap.size w w' := by
  have hcur := Lib.hid (Cur.new (c := c) h hb hl 139)
  have hbw : Hid (Below w.heap.size w (w.alloc (.cells #[.slice A l.length c, .int .i64 0, .int .u64 0] 139))) := Lib.hid ((Below.refl _ _).alloc (Nat.le_refl _) _)
  have hsz : w.heap.size < (w.alloc (.cells #[.slice A l.length c, .int .i64 0, .int .u64 0] 139)).heap.size := by simp
  clear h hb
  go_enter Try.func56, Try.ntmps56
  go_upto_region 2 with fail
  generalize w.alloc (.cells #[.slice A l.length c, .int .i64 0, .int .u64 0] 139) = W at *
  go_wp2_with (go_at_call 135; refine (weighted_any w.heap.size 0 _ hcur.out (by omega)).mono ?_; rintro e w1 ⟨A1, A2, c1, c2, vs, ws, rfl, h1, h2, hr1, hr2, hn1, hn2, hc, ht⟩; have HR1 := Lib.hid hr1; have HR2 := Lib.hid hr2; have HT := Lib.hid ht; have HN1 := Lib.hid hn1; have HN2 := Lib.hid hn2; clear hc ht hr1 hr2 hn1 hn2)
  go_ret2
  exact ⟨A1, A2, c1, c2, vs, ws, rfl, h1, h2, HR1.out, HR2.out, Below.chg hbw.out HT.out (Nat.le_refl _) (by omega)⟩
set_option maxHeartbeats 1600000 in
theorem drawSumFar_any (A : Option Addr) (c : Nat) (l : List Int) (w : World) (h : RdL w w.heap.size A 1 encByte l) (hb : ∀ x ∈ l, 0 ≤ x ∧ x < 256) (hl : l.length ≤ 1048576) :
    Calls Try.prog 50 #[.slice A l.length c] w fun e w' => ∃ (A1 A2 : Option Addr) (c1 c2 : Nat) (vs ws : List Int) (x : Int), e = .returned (.tuple #[.slice A1 vs.length c1, .slice A2 ws.length c2, .int .i64 x]) ∧ vs.length ≤ 7 ∧ ws.length ≤ 7 ∧ RdL w' w'.heap.size A1 1 encInt vs ∧ RdL w' w'.heap.size A2 1 encInt ws ∧ Below w.heap.size w w' := by
  have hcur := Lib.hid (Cur.new (c := c) h hb hl 139)
  have hbw : Hid (Below w.heap.size w (w.alloc (.cells #[.slice A l.length c, .int .i64 0, .int .u64 0] 139))) := Lib.hid ((Below.refl _ _).alloc (Nat.le_refl _) _)
  have hsz : w.heap.size < (w.alloc (.cells #[.slice A l.length c, .int .i64 0, .int .u64 0] 139)).heap.size := by simp
  clear h hb
  go_enter Try.func50, Try.ntmps50
  go_upto_region 2 with fail
  generalize w.alloc (.cells #[.slice A l.length c, .int .i64 0, .int .u64 0] 139) = W at *
  go_wp2_with (first
    | (go_at_call 135; refine (weighted_any w.heap.size 0 _ hcur.out (by omega)).mono ?_; rintro e w1 ⟨A1, A2, c1, c2, vs, ws, rfl, h1, h2, hr1, hr2, hn1, hn2, hc, ht⟩; have HR1 := Lib.hid hr1; have HR2 := Lib.hid hr2; have HT := Lib.hid ht; have HC := Lib.hid hc; have hlt := hc.lt; have HN1 := Lib.hid hn1; have HN2 := Lib.hid hn2; clear hc ht hr1 hr2 hn1 hn2)
    | (go_at_call 109; refine (among_any w.heap.size 40 w1.heap.size 6 6 _ (fun _ => True) _ ((HC.out.more (by omega)).later ((Below.refl _ _).alloc (Nat.le_refl _) _)) (by omega) (by omega) (by omega) (Cells.lit w1 _ _ 6 rfl) (by omega) (by intro k hk; rcases k with _ | _ | _ | _ | _ | _ | k <;> first | exact ⟨_, rfl, trivial⟩ | omega)).mono ?_; rintro e w2 ⟨x, rfl, _, hc, ht⟩; have HT2 := Lib.hid ((Turn.of ((Below.refl _ _).alloc (Nat.le_refl _) _)).trans ht); clear hc ht))
  go_ret3
  refine ⟨A1, A2, c1, c2, vs, ws, x, rfl, h1, h2, ?_, ?_, Below.chg (Below.chg hbw.out HT.out (Nat.le_refl _) (by omega)) HT2.out (Nat.le_refl _) (by have := HT.out.size; omega)⟩
  · exact (HR1.out.turn HT2.out (Nat.le_refl _) HN1.out).more HT2.out.size
  · exact (HR2.out.turn HT2.out (Nat.le_refl _) HN2.out).more HT2.out.size
theorem has_any (l : List Int) (n : Int) (A : Option Addr) (c : Nat) (w : World) (h : RdL w w.heap.size A 1 encInt l) (hl : l.length ≤ 1048576) :
    Calls Try.prog 55 #[.slice A l.length c, .int .i64 n] w fun e w' => e = .returned (.bool (B (n ∈ l))) ∧ w = w' := by
  have H := Lib.hid h
  clear h
  go_enter Try.func55, Try.ntmps55
  go_wp2
  go_loop [9] (fun i => ∃ k : Nat, k ≤ l.length ∧ i = .int .i64 k ∧ n ∉ l.take k) (fun i => l.length - (intOf i).toNat)
  case atStart => exact ⟨0, by omega, by rfl, by simp⟩
  case round =>
    obtain ⟨k, hk, rfl, hno⟩ := hrel
    have Hno := Lib.hid hno
    clear hno
    by_cases hlt : k < l.length
    · obtain ⟨qg, qoff, qA, qhg, qcell⟩ := H.out.at (k := k) hlt
      have qr : w.cell? ⟨qg, qoff + k, none⟩ = some (.int .i64 l[k]) := by have := qcell 0 _ rfl; rw [Nat.mul_one] at this; exact this
      obtain ⟨x, hx⟩ : ∃ x, Hid (l[k] = x) := ⟨_, Lib.hid rfl⟩
      rw [hx.out] at qr
      subst qA
      clear qcell
      by_cases e : x = n
      · subst e
        go_wp2
        go_ret
        exact ⟨ret_t (hx.out ▸ List.getElem_mem hlt), rfl⟩
      · have e' : (x == n) = false := by simpa using e
        go_wp2
        go_round
        case rel => exact ⟨k + 1, by omega, by go_num, by rw [List.take_succ_eq_append_getElem hlt, hx.out, List.mem_append]; rintro (h | h); exact Hno.out h; exact e (List.mem_singleton.1 h).symm⟩
        case measure => simp [intOf]; omega
    · obtain rfl : k = l.length := by omega
      go_wp2
      go_ret
      exact ⟨ret_f (by have := Hno.out; rwa [List.take_length] at this), rfl⟩
end Go.Proofs.Ytdecjijldcbnjaa
