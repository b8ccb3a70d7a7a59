import Derived.Test.YtkegbbndmfnolaaMBeatsL02
import Derived.Test.YtkegbbndmfnolaaMBeatsL08
import Derived.Test.YtkegbbndmfnolaaMBeatsL03
/-
  Contracts: valid changes (both sides).
-/
namespace Go.Proofs.Ytkegbbndmfnolaa
open Go.RowKit
set_option linter.unusedVariables false
set_option linter.unusedSimpArgs false
set_option maxRecDepth 100000

def dash : ByteArray := ⟨#[45]⟩
/-- The place that byte i tells; the one ahead of it (none: 0). -/
def dg (c : ByteArray) (i : Nat) : Int := bat c i - 48
def dgP (c : ByteArray) : Nat → Int
  | 0 => 0
  | i + 1 => dg c i
def stepP (n : Int) (c : ByteArray) (i : Nat) : Prop := dgP c i < dg c i ∧ dg c i ≤ n ∧ (dg c i - dgP c i) % 2 ≠ 0
def chainP (n : Int) (c : ByteArray) : Prop := (∀ i, i < c.size → stepP n c i) ∧ (n - dgP c c.size) % 2 = 0
def changeP (n : Int) (c : ByteArray) : Prop := inB n 3 8 ∧ ((c = dash ∧ n % 2 = 0) ∨ (c ≠ dash ∧ 0 < c.size ∧ (c.size : Int) ≤ n - 2 ∧ chainP n c))
theorem dash_size : dash.size = 1 := rfl
theorem size_zero {c : ByteArray} (h : c.size = 0) : c = ⟨#[]⟩ := by
  apply ByteArray.ext
  exact Array.eq_empty_of_size_eq_zero h
theorem toList_len (c : ByteArray) : c.toList.length = c.size := by rw [ByteArray.toList_eq]; simp
theorem toList_ne {c : ByteArray} (h : 0 < c.size) : ¬ c.toList = [] := fun e => by have := toList_len c; rw [e] at this; simp at this; omega
theorem toList_isEmpty {c : ByteArray} (h : 0 < c.size) : c.toList.isEmpty = false := by
  have := toList_ne h
  cases hc : c.toList with
  | nil => exact absurd hc this
  | cons _ _ => rfl
theorem toList_dash {c : ByteArray} (h : ¬ c = dash) : (c.toList == [45]) = false := by
  rw [beq_eq_false_iff_ne]
  intro e
  apply h
  apply toList_inj.1
  rw [e, ByteArray.toList_eq]; rfl
theorem steps_bound {n : Int} {c : ByteArray} : ∀ k, (∀ j, j < k → stepP n c j) → 0 ≤ dgP c k ∧ (0 < k → dgP c k ≤ n)
  | 0, _ => by simp [dgP]
  | k + 1, h => by
    have ih := steps_bound k (fun j hj => h j (by omega))
    obtain ⟨h1, h2, _⟩ := h k (by omega)
    simp only [dgP]
    omega
set_option maxHeartbeats 1600000 in
theorem l2Change_any (n : Int) (c : ByteArray) (w : World) (hc : c.size ≤ 1048576) :
    Calls Try.prog 151 #[.int .i64 n, .string c] w fun e w' => e = .returned (.bool (B (changeP n c))) ∧ w = w' := by
  by_cases h1 : inB n 3 8
  · have e1 := B_t h1
    obtain ⟨h11, h12⟩ := h1
    by_cases hz : c.size = 0
    · obtain rfl := size_zero hz
      clear hz
      go_enter Try.func151, Try.ntmps151
      go_wp2_with (go_at_call 56; refine (l1In_any _ _ _ _).mono ?_; rintro e w' ⟨rfl, rfl⟩)
      go_ret
      exact ⟨ret_f (fun h => by
        rcases h.2 with ⟨h2, _⟩ | ⟨_, h2, _⟩
        · exact absurd (congrArg ByteArray.size h2) (by decide)
        · exact absurd h2 (by decide)), rfl⟩
    · have hpos : 0 < c.size := by omega
      have hE1 := toList_ne hpos
      have hE2 := toList_isEmpty hpos
      by_cases hl : n - 2 < (c.size : Int)
      · go_enter Try.func151, Try.ntmps151
        go_wp2_with (go_at_call 56; refine (l1In_any _ _ _ _).mono ?_; rintro e w' ⟨rfl, rfl⟩)
        go_ret
        exact ⟨ret_f (fun h => by
          rcases h.2 with ⟨h2, _⟩ | ⟨_, _, h2, _⟩
          · rw [h2, dash_size] at hl; omega
          · omega), rfl⟩
      · by_cases hd : c = dash
        · have hd2 : (c.toList == [45]) = true := by rw [hd, ByteArray.toList_eq]; rfl
          have Hd := Lib.hid hd
          clear hd
          by_cases hn : n % 2 = 0
          all_goals
            go_enter Try.func151, Try.ntmps151
            go_wp2_with (go_at_call 56; refine (l1In_any _ _ _ _).mono ?_; rintro e w' ⟨rfl, rfl⟩)
            go_ret
            first
              | exact ⟨by rw [B_t (show changeP n c from ⟨⟨h11, h12⟩, .inl ⟨Hd.out, hn⟩⟩)]; simp [hn], rfl⟩
              | exact ⟨by rw [B_f (show ¬ changeP n c from fun h => by
                  rcases h.2 with ⟨_, h2⟩ | ⟨h2, _⟩
                  · exact hn h2
                  · exact h2 Hd.out)]; simp [hn], rfl⟩
        · have hd2 := toList_dash hd
          have Hd := Lib.hid hd
          have hch : Hid (changeP n c ↔ chainP n c) := Lib.hid ⟨fun h => by
            rcases h.2 with ⟨h2, _⟩ | ⟨_, _, _, h2⟩
            · exact absurd h2 hd
            · exact h2, fun h => ⟨⟨h11, h12⟩, .inr ⟨hd, hpos, by omega, h⟩⟩⟩
          clear hd
          go_enter Try.func151, Try.ntmps151
          go_wp2_with (go_at_call 56; refine (l1In_any _ _ _ _).mono ?_; rintro e w' ⟨rfl, rfl⟩)
          go_loop [5, 6] (fun v i => ∃ k : Nat, k ≤ c.size ∧ i = .int .i64 k ∧ v = .int .i64 (dgP c k) ∧ (∀ j, j < k → stepP n c j)) (fun _ i => c.size - (intOf i).toNat)
          case atStart => exact ⟨0, by omega, by rfl, by rfl, fun j hj => by omega⟩
          case round =>
            obtain ⟨k, hk, rfl, rfl, hq⟩ := hrel
            obtain ⟨b0, b1⟩ := steps_bound k hq
            have Hq := Lib.hid hq
            clear hq
            obtain ⟨P, hP⟩ : ∃ P, Hid (dgP c k = P) := ⟨_, Lib.hid rfl⟩
            rw [hP.out] at b0 b1 ⊢
            have b2 : P ≤ 8 := by
              rcases Nat.eq_zero_or_pos k with h0 | h0
              · rw [← hP.out, h0]; simp [dgP]
              · have := b1 h0; omega
            have B1 := Lib.hid b1
            clear b1
            by_cases hlt : k < c.size
            · have hb0 := bat_lo c k
              have hb1 := bat_hi c k
              have hst : Hid (stepP n c k ↔ P < bat c k - 48 ∧ bat c k - 48 ≤ n ∧ (bat c k - 48 - P) % 2 ≠ 0) := Lib.hid (by unfold stepP dg; rw [hP.out])
              by_cases c1 : inB (bat c k - 48) (P + 1) n
              · have f1 := B_t c1
                obtain ⟨c11, c12⟩ := c1
                by_cases c2 : (bat c k - 48 - P) % 2 = 0
                · have hno : Hid (¬ stepP n c k) := Lib.hid (fun h => (hst.out.1 h).2.2 c2)
                  go_wp2_with (go_at_call 56; refine (l1In_any _ _ _ _).mono ?_; rintro e w' ⟨rfl, rfl⟩)
                  go_ret
                  exact ⟨ret_f (fun h => hno.out ((hch.out.1 h).1 k hlt)), rfl⟩
                · have hye : Hid (stepP n c k) := Lib.hid (hst.out.2 ⟨by omega, c12, c2⟩)
                  go_wp2_with (go_at_call 56; refine (l1In_any _ _ _ _).mono ?_; rintro e w' ⟨rfl, rfl⟩)
                  go_round
                  case rel =>
                    refine ⟨k + 1, by omega, by go_num, by simp only [dgP, dg], fun j hj => ?_⟩
                    rcases Nat.lt_or_eq_of_le (Nat.le_of_lt_succ hj) with h' | rfl
                    · exact Hq.out j h'
                    · exact hye.out
                  case measure => simp [intOf]; omega
              · have f1 := B_f c1
                have C1 := Lib.hid c1
                clear c1
                go_wp2_with (go_at_call 56; refine (l1In_any _ _ _ _).mono ?_; rintro e w' ⟨rfl, rfl⟩)
                go_ret
                exact ⟨ret_f (fun h => C1.out (by have := hst.out.1 ((hch.out.1 h).1 k hlt); exact ⟨by omega, this.2.1⟩)), rfl⟩
            · obtain rfl : k = c.size := by omega
              have b3 : P ≤ n := B1.out hpos
              by_cases hn : (n - P) % 2 = 0
              all_goals
                go_wp2
                go_ret
                first
                  | exact ⟨by rw [B_t (hch.out.2 ⟨Hq.out, by rw [hP.out]; exact hn⟩)]; simp [hn], rfl⟩
                  | exact ⟨by rw [B_f (fun h => hn (by have := (hch.out.1 h).2; rw [hP.out] at this; exact this))]; simp [hn], rfl⟩
  · have e1 := B_f h1
    have H1 := Lib.hid h1
    clear h1
    go_enter Try.func151, Try.ntmps151
    go_wp2_with (go_at_call 56; refine (l1In_any _ _ _ _).mono ?_; rintro e w' ⟨rfl, rfl⟩)
    go_ret
    exact ⟨ret_f (fun h => H1.out h.1), rfl⟩
/-- The places that a text tells. -/
def dgL (c : ByteArray) : List Int := (List.range c.size).map (dg c)
def digsP (c : ByteArray) : Prop := ∀ i : Nat, i < c.size → 49 ≤ bat c i ∧ bat c i ≤ 56
def dgTo (c : ByteArray) (k : Nat) : List Int := (List.range k).map (dg c)
/-- Places that stay in a change. -/
def apP (n : Int) (l : List Int) : Prop := ∃ h : 0 < l.length, (l.length : Int) ≠ n ∧ l[0] % 2 ≠ 0 ∧ l[l.length - 1] % 2 = n % 2 ∧ l[l.length - 1] ≤ n ∧ ∀ (i : Nat) (hi : i + 1 < l.length), l[i] < l[i + 1] ∧ (l[i + 1] - l[i]) % 2 ≠ 0
end Go.Proofs.Ytkegbbndmfnolaa
