import Derived.Test.YtkegbbndmfnolaaGreatDoorMHeardL00
import Derived.Test.YtkegbbndmfnolaaGreatDoorMHeardL01
/-
  Contracts: valid changes (both sides).
-/
namespace Go.Proofs.YtkegbbndmfnolaaGreatDoor
open Go.RowKit
set_option linter.unusedVariables false
set_option linter.unusedSimpArgs false
set_option maxRecDepth 100000

def dash : ByteArray := ⟨#[45]⟩
/-- The place that byte i tells; the one ahead of it (none: 0). -/
def dg (c : ByteArray) (i : Nat) : Int := bat c i - 48
def dgP (c : ByteArray) : Nat → Int
  | 0 => 0
  | i + 1 => dg c i
def stepP (n : Int) (c : ByteArray) (i : Nat) : Prop := dgP c i < dg c i ∧ dg c i ≤ n ∧ (dg c i - dgP c i) % 2 ≠ 0
def chainP (n : Int) (c : ByteArray) : Prop := (∀ i, i < c.size → stepP n c i) ∧ (n - dgP c c.size) % 2 = 0
def changeP (n : Int) (c : ByteArray) : Prop := inB n 3 8 ∧ ((c = dash ∧ n % 2 = 0) ∨ (c ≠ dash ∧ 0 < c.size ∧ (c.size : Int) ≤ n - 2 ∧ chainP n c))
theorem dash_size : dash.size = 1 := rfl
theorem size_zero {c : ByteArray} (h : c.size = 0) : c = ⟨#[]⟩ := by
  apply ByteArray.ext
  exact Array.eq_empty_of_size_eq_zero h
theorem toList_len (c : ByteArray) : c.toList.length = c.size := by rw [ByteArray.toList_eq]; simp
theorem toList_ne {c : ByteArray} (h : 0 < c.size) : ¬ c.toList = [] := fun e => by have := toList_len c; rw [e] at this; simp at this; omega
theorem toList_isEmpty {c : ByteArray} (h : 0 < c.size) : c.toList.isEmpty = false := by
  have := toList_ne h
  cases hc : c.toList with
  | nil => exact absurd hc this
  | cons _ _ => rfl
theorem toList_dash {c : ByteArray} (h : ¬ c = dash) : (c.toList == [45]) = false := by
  rw [beq_eq_false_iff_ne]
  intro e
  apply h
  apply toList_inj.1
  rw [e, ByteArray.toList_eq]; rfl
theorem steps_bound {n : Int} {c : ByteArray} : ∀ k, (∀ j, j < k → stepP n c j) → 0 ≤ dgP c k ∧ (0 < k → dgP c k ≤ n)
  | 0, _ => by simp [dgP]
  | k + 1, h => by
    have ih := steps_bound k (fun j hj => h j (by omega))
    obtain ⟨h1, h2, _⟩ := h k (by omega)
    simp only [dgP]
    omega
set_option maxHeartbeats 1600000 in
theorem l2Change_any (n : Int) (c : ByteArray) (w : World) (hc : c.size ≤ 1048576) :
    Calls Tryz.prog 114 #[.int .i64 n, .string c] w fun e w' => e = .returned (.bool (B (changeP n c))) ∧ w = w' := by
  by_cases h1 : inB n 3 8
  · have e1 := B_t h1
    obtain ⟨h11, h12⟩ := h1
    by_cases hz : c.size = 0
    · obtain rfl := size_zero hz
      clear hz
      go_enter Tryz.func114, Tryz.ntmps114
      go_wp2_with (go_at_call 99; refine (l1In_any _ _ _ _).mono ?_; rintro e w' ⟨rfl, rfl⟩)
      go_ret
      exact ⟨ret_f (fun h => by
        rcases h.2 with ⟨h2, _⟩ | ⟨_, h2, _⟩
        · exact absurd (congrArg ByteArray.size h2) (by decide)
        · exact absurd h2 (by decide)), rfl⟩
    · have hpos : 0 < c.size := by omega
      have hE1 := toList_ne hpos
      have hE2 := toList_isEmpty hpos
      by_cases hl : n - 2 < (c.size : Int)
      · go_enter Tryz.func114, Tryz.ntmps114
        go_wp2_with (go_at_call 99; refine (l1In_any _ _ _ _).mono ?_; rintro e w' ⟨rfl, rfl⟩)
        go_ret
        exact ⟨ret_f (fun h => by
          rcases h.2 with ⟨h2, _⟩ | ⟨_, _, h2, _⟩
          · rw [h2, dash_size] at hl; omega
          · omega), rfl⟩
      · by_cases hd : c = dash
        · have hd2 : (c.toList == [45]) = true := by rw [hd, ByteArray.toList_eq]; rfl
          have Hd := Lib.hid hd
          clear hd
          by_cases hn : n % 2 = 0
          all_goals
            go_enter Tryz.func114, Tryz.ntmps114
            go_wp2_with (go_at_call 99; refine (l1In_any _ _ _ _).mono ?_; rintro e w' ⟨rfl, rfl⟩)
            go_ret
            first
              | exact ⟨by rw [B_t (show changeP n c from ⟨⟨h11, h12⟩, .inl ⟨Hd.out, hn⟩⟩)]; simp [hn], rfl⟩
              | exact ⟨by rw [B_f (show ¬ changeP n c from fun h => by
                  rcases h.2 with ⟨_, h2⟩ | ⟨h2, _⟩
                  · exact hn h2
                  · exact h2 Hd.out)]; simp [hn], rfl⟩
        · have hd2 := toList_dash hd
          have Hd := Lib.hid hd
          have hch : Hid (changeP n c ↔ chainP n c) := Lib.hid ⟨fun h => by
            rcases h.2 with ⟨h2, _⟩ | ⟨_, _, _, h2⟩
            · exact absurd h2 hd
            · exact h2, fun h => ⟨⟨h11, h12⟩, .inr ⟨hd, hpos, by omega, h⟩⟩⟩
          clear hd
          go_enter Tryz.func114, Tryz.ntmps114
          go_wp2_with (go_at_call 99; refine (l1In_any _ _ _ _).mono ?_; rintro e w' ⟨rfl, rfl⟩)
          go_loop [5, 6] (fun v i => ∃ k : Nat, k ≤ c.size ∧ i = .int .i64 k ∧ v = .int .i64 (dgP c k) ∧ (∀ j, j < k → stepP n c j)) (fun _ i => c.size - (intOf i).toNat)
          case atStart => exact ⟨0, by omega, by rfl, by rfl, fun j hj => by omega⟩
          case round =>
            obtain ⟨k, hk, rfl, rfl, hq⟩ := hrel
            obtain ⟨b0, b1⟩ := steps_bound k hq
            have Hq := Lib.hid hq
            clear hq
            obtain ⟨P, hP⟩ : ∃ P, Hid (dgP c k = P) := ⟨_, Lib.hid rfl⟩
            rw [hP.out] at b0 b1 ⊢
            have b2 : P ≤ 8 := by
              rcases Nat.eq_zero_or_pos k with h0 | h0
              · rw [← hP.out, h0]; simp [dgP]
              · have := b1 h0; omega
            have B1 := Lib.hid b1
            clear b1
            by_cases hlt : k < c.size
            · have hb0 := bat_lo c k
              have hb1 := bat_hi c k
              have hst : Hid (stepP n c k ↔ P < bat c k - 48 ∧ bat c k - 48 ≤ n ∧ (bat c k - 48 - P) % 2 ≠ 0) := Lib.hid (by unfold stepP dg; rw [hP.out])
              by_cases c1 : inB (bat c k - 48) (P + 1) n
              · have f1 := B_t c1
                obtain ⟨c11, c12⟩ := c1
                by_cases c2 : (bat c k - 48 - P) % 2 = 0
                · have hno : Hid (¬ stepP n c k) := Lib.hid (fun h => (hst.out.1 h).2.2 c2)
                  go_wp2_with (go_at_call 99; refine (l1In_any _ _ _ _).mono ?_; rintro e w' ⟨rfl, rfl⟩)
                  go_ret
                  exact ⟨ret_f (fun h => hno.out ((hch.out.1 h).1 k hlt)), rfl⟩
                · have hye : Hid (stepP n c k) := Lib.hid (hst.out.2 ⟨by omega, c12, c2⟩)
                  go_wp2_with (go_at_call 99; refine (l1In_any _ _ _ _).mono ?_; rintro e w' ⟨rfl, rfl⟩)
                  go_round
                  case rel =>
                    refine ⟨k + 1, by omega, by go_num, by simp only [dgP, dg], fun j hj => ?_⟩
                    rcases Nat.lt_or_eq_of_le (Nat.le_of_lt_succ hj) with h' | rfl
                    · exact Hq.out j h'
                    · exact hye.out
                  case measure => simp [intOf]; omega
              · have f1 := B_f c1
                have C1 := Lib.hid c1
                clear c1
                go_wp2_with (go_at_call 99; refine (l1In_any _ _ _ _).mono ?_; rintro e w' ⟨rfl, rfl⟩)
                go_ret
                exact ⟨ret_f (fun h => C1.out (by have := hst.out.1 ((hch.out.1 h).1 k hlt); exact ⟨by omega, this.2.1⟩)), rfl⟩
            · obtain rfl : k = c.size := by omega
              have b3 : P ≤ n := B1.out hpos
              by_cases hn : (n - P) % 2 = 0
              all_goals
                go_wp2
                go_ret
                first
                  | exact ⟨by rw [B_t (hch.out.2 ⟨Hq.out, by rw [hP.out]; exact hn⟩)]; simp [hn], rfl⟩
                  | exact ⟨by rw [B_f (fun h => hn (by have := (hch.out.1 h).2; rw [hP.out] at this; exact this))]; simp [hn], rfl⟩
  · have e1 := B_f h1
    have H1 := Lib.hid h1
    clear h1
    go_enter Tryz.func114, Tryz.ntmps114
    go_wp2_with (go_at_call 99; refine (l1In_any _ _ _ _).mono ?_; rintro e w' ⟨rfl, rfl⟩)
    go_ret
    exact ⟨ret_f (fun h => H1.out h.1), rfl⟩
/-- The places that a text tells. -/
def dgL (c : ByteArray) : List Int := (List.range c.size).map (dg c)
def digsP (c : ByteArray) : Prop := ∀ i : Nat, i < c.size → 49 ≤ bat c i ∧ bat c i ≤ 56
def dgTo (c : ByteArray) (k : Nat) : List Int := (List.range k).map (dg c)
theorem dgTo_succ (c : ByteArray) (k : Nat) : dgTo c (k + 1) = dgTo c k ++ [bat c k - 48] := by unfold dgTo; rw [List.range_succ, List.map_append]; rfl
theorem dgTo_len (c : ByteArray) (k : Nat) : (dgTo c k).length = k := by simp [dgTo]

set_option maxHeartbeats 1600000 in
theorem places_t (c : ByteArray) (w : World) (hc : c.size ≤ 1048576) (hp : digsP c) :
    Calls Tryz.prog 158 #[.string c] w fun e w' => ∃ A c2, e = .returned (.tuple #[.slice A (dgL c).length c2, .bool true]) ∧ OwnL w' w.heap.size w'.heap.size A 1 encInt (dgL c) ∧ Below w.heap.size w w' := by
  have HP := Lib.hid hp
  clear hp
  have hcs := hc
  go_enter Tryz.func158, Tryz.ntmps158
  go_wp2
  go_loopw [4, 9] (fun v i wr => ∃ k : Nat, k ≤ c.size ∧ i = .int .i64 k ∧ Grow wr w.heap.size 3 1 encInt v (dgTo c k) ∧ (∀ j : Nat, j < k → 49 ≤ bat c j ∧ bat c j ≤ 56) ∧ Below w.heap.size w wr) (fun _ i _ => c.size - (intOf i).toNat)
  case atStart => exact ⟨0, by omega, by rfl, Grow.empty (Nat.le_refl _), fun j hj => by omega, (Below.refl _ _).alloc (Nat.le_refl _) _⟩
  case round =>
    obtain ⟨k, hk, rfl, hg, hq, hbl⟩ := hrel
    have Hg := Lib.hid hg
    have Hq := Lib.hid hq
    have Hbl := Lib.hid hbl
    have hgs := hbl.size
    have hlen := Nat.le_of_eq (dgTo_len c k)
    clear hg hq hbl
    by_cases hlt : k < c.size
    · have hb0 := bat_lo c k
      have hb1 := bat_hi c k
      by_cases h1 : bat c k < 49
      · exact absurd (HP.out k hlt) (by omega)
      · by_cases h2 : 56 < bat c k
        · exact absurd (HP.out k hlt) (by omega)
        · have hsu := Lib.hid (dgTo_succ c k)
          have hone : ∀ u ∈ [Value.int .i64 (bat c k - 48)], u.oneCell' = true := by simp [Value.oneCell']
          have Hone := Lib.hid hone
          clear hone
          go_wp2_with (at_builtin; refine wpList_push rfl (.tmp 22) (.tmp 28) 70 rfl w.heap.size 3 _ 1 8 encInt rfl Int_info rfl (by omega) u4 (dgTo c k) [bat c k - 48] 1 rfl rfl (by simp) Hg.out rfl encInt_len Hone.out (by first | omega | (simp; omega)) (by omega) (by first | omega | (simp; omega)) ?_; intro v' w2 hg2 hb2 _)
          go_roundw
          case rel =>
            refine ⟨k + 1, by omega, by go_num, by rw [hsu.out]; exact hg2, fun j hj => ?_, Hbl.out.trans hb2⟩
            rcases Nat.lt_or_eq_of_le (Nat.le_of_lt_succ hj) with h' | rfl
            · exact Hq.out j h'
            · omega
          case measure => simp [intOf]; omega
    · obtain rfl : k = c.size := by omega
      go_wp2
      go_ret2
      obtain ⟨A, c2, hv, ho⟩ := Hg.out.own encInt_len
      exact ⟨A, c2, by rw [hv]; rfl, ho, Hbl.out⟩
set_option maxHeartbeats 1600000 in
theorem places_f (c : ByteArray) (w : World) (hc : c.size ≤ 1048576) (hp : ¬ digsP c) :
    Calls Tryz.prog 158 #[.string c] w fun e w' => e = .returned (.tuple #[.slice none 0 0, .bool false]) ∧ Below w.heap.size w w' := by
  have HP := Lib.hid hp
  clear hp
  have hcs := hc
  go_enter Tryz.func158, Tryz.ntmps158
  go_wp2
  go_loopw [4, 9] (fun v i wr => ∃ k : Nat, k ≤ c.size ∧ i = .int .i64 k ∧ Grow wr w.heap.size 3 1 encInt v (dgTo c k) ∧ (∀ j : Nat, j < k → 49 ≤ bat c j ∧ bat c j ≤ 56) ∧ Below w.heap.size w wr) (fun _ i _ => c.size - (intOf i).toNat)
  case atStart => exact ⟨0, by omega, by rfl, Grow.empty (Nat.le_refl _), fun j hj => by omega, (Below.refl _ _).alloc (Nat.le_refl _) _⟩
  case round =>
    obtain ⟨k, hk, rfl, hg, hq, hbl⟩ := hrel
    have Hg := Lib.hid hg
    have Hq := Lib.hid hq
    have Hbl := Lib.hid hbl
    have hgs := hbl.size
    have hlen := Nat.le_of_eq (dgTo_len c k)
    clear hg hq hbl
    by_cases hlt : k < c.size
    · have hb0 := bat_lo c k
      have hb1 := bat_hi c k
      by_cases h1 : bat c k < 49
      · (go_wp2 <;> (go_ret2; exact ⟨rfl, Hbl.out⟩))
      · by_cases h2 : 56 < bat c k
        · (go_wp2 <;> (go_ret2; exact ⟨rfl, Hbl.out⟩))
        · have hsu := Lib.hid (dgTo_succ c k)
          have hone : ∀ u ∈ [Value.int .i64 (bat c k - 48)], u.oneCell' = true := by simp [Value.oneCell']
          have Hone := Lib.hid hone
          clear hone
          go_wp2_with (at_builtin; refine wpList_push rfl (.tmp 22) (.tmp 28) 70 rfl w.heap.size 3 _ 1 8 encInt rfl Int_info rfl (by omega) u4 (dgTo c k) [bat c k - 48] 1 rfl rfl (by simp) Hg.out rfl encInt_len Hone.out (by first | omega | (simp; omega)) (by omega) (by first | omega | (simp; omega)) ?_; intro v' w2 hg2 hb2 _)
          go_roundw
          case rel =>
            refine ⟨k + 1, by omega, by go_num, by rw [hsu.out]; exact hg2, fun j hj => ?_, Hbl.out.trans hb2⟩
            rcases Nat.lt_or_eq_of_le (Nat.le_of_lt_succ hj) with h' | rfl
            · exact Hq.out j h'
            · omega
          case measure => simp [intOf]; omega
    · obtain rfl : k = c.size := by omega
      exact absurd (fun j hj => Hq.out j hj) HP.out
theorem ints_of {w : World} {b : Nat} {A : Option Addr} {l : List Int} (h : RdL w b A 1 encInt l) (hl : 0 < l.length) :
    ∃ g off, A = some ⟨g, off, none⟩ ∧ g < b ∧ ∀ (m : Nat) (hm : m < l.length), w.cell? ⟨g, off + m, none⟩ = some (.int .i64 l[m]) := by
  obtain ⟨g, off, hA, hg, _⟩ := h.at hl
  refine ⟨g, off, hA, hg, fun m hm => ?_⟩
  obtain ⟨g', off', hA', _, hcell⟩ := h.at hm
  rw [hA] at hA'
  simp only [Option.some.injEq, Addr.mk.injEq, and_true] at hA'
  obtain ⟨rfl, rfl⟩ := hA'
  have := hcell 0 _ rfl; rw [Nat.mul_one] at this; exact this
/-- Places that stay in a change. -/
def apP (n : Int) (l : List Int) : Prop := ∃ h : 0 < l.length, (l.length : Int) ≠ n ∧ l[0] % 2 ≠ 0 ∧ l[l.length - 1] % 2 = n % 2 ∧ l[l.length - 1] ≤ n ∧ ∀ (i : Nat) (hi : i + 1 < l.length), l[i] < l[i + 1] ∧ (l[i + 1] - l[i]) % 2 ≠ 0

set_option maxHeartbeats 3200000 in
theorem arePlaces_any (n : Int) (l : List Int) (A : Option Addr) (c : Nat) (w : World) (h : RdL w w.heap.size A 1 encInt l) (hl : l.length ≤ 1048576) (hn : 0 ≤ n ∧ n ≤ 8) (hb : ∀ x ∈ l, 1 ≤ x ∧ x ≤ 8) :
    Calls Tryz.prog 159 #[.int .i64 n, .slice A l.length c] w fun e w' => e = .returned (.bool (B (apP n l))) ∧ Below w.heap.size w w' := by
  obtain ⟨hn0, hn8⟩ := hn
  by_cases h0 : l.length = 0
  · obtain rfl := List.eq_nil_of_length_eq_zero h0
    clear h0
    go_enter Tryz.func159, Tryz.ntmps159
    go_wp2
    all_goals
      go_ret
      exact ⟨ret_f (fun h => by have := h.1; simp at this), Below.refl _ _⟩
  · have hpos : 0 < l.length := by omega
    obtain ⟨g, off, rfl, hg, hcw⟩ := ints_of h hpos
    have s0 := hcw 0 hpos
    rw [Nat.add_zero] at s0
    have s1 := hcw (l.length - 1) (by omega)
    obtain ⟨f1, f8⟩ := hb l[0] (List.getElem_mem _)
    obtain ⟨g1, g8⟩ := hb l[l.length - 1] (List.getElem_mem _)
    have hap : Hid (apP n l ↔ (l.length : Int) ≠ n ∧ l[0] % 2 ≠ 0 ∧ l[l.length - 1] % 2 = n % 2 ∧ l[l.length - 1] ≤ n ∧ ∀ (i : Nat) (hi : i + 1 < l.length), l[i] < l[i + 1] ∧ (l[i + 1] - l[i]) % 2 ≠ 0) := Lib.hid ⟨fun ⟨_, x⟩ => x, fun x => ⟨hpos, x⟩⟩
    have Hcw := Lib.hid hcw
    have Hb := Lib.hid hb
    clear h hb hcw
    generalize l[0] = F at s0 f1 f8 hap
    generalize l[l.length - 1] = G at s1 g1 g8 hap
    have z0 : ((l.length : Int) == 0) = false := by rw [beq_eq_false_iff_ne]; omega
    by_cases c1 : (l.length : Int) = n
    · have z1 : ((l.length : Int) == n) = true := by rw [beq_iff_eq]; exact c1
      have C1 := Lib.hid c1
      clear c1
      go_enter Tryz.func159, Tryz.ntmps159
      go_wp2
      all_goals
        go_ret
        exact ⟨ret_f (fun h => (hap.out.1 h).1 C1.out), Below.refl _ _⟩
    · have z1 : ((l.length : Int) == n) = false := by rw [beq_eq_false_iff_ne]; exact c1
      by_cases c2 : F % 2 = 0
      · have z2 : (F % 2 == 0) = true := by rw [beq_iff_eq]; exact c2
        have C2 := Lib.hid c2
        clear c2
        go_enter Tryz.func159, Tryz.ntmps159
        go_wp2
        all_goals
          go_ret
          exact ⟨ret_f (fun h => (hap.out.1 h).2.1 C2.out), Below.refl _ _⟩
      · have z2 : (F % 2 == 0) = false := by rw [beq_eq_false_iff_ne]; exact c2
        by_cases c3 : G % 2 = n % 2
        · have z3 : (G % 2 == n % 2) = true := by rw [beq_iff_eq]; exact c3
          by_cases c4 : n < G
          · have C4 := Lib.hid c4
            have z4 : decide (n < G) = true := decide_eq_true c4
            go_enter Tryz.func159, Tryz.ntmps159
            go_wp2
            all_goals
              go_ret
              exact ⟨ret_f (fun h => by have := (hap.out.1 h).2.2.2.1; have := C4.out; omega), Below.refl _ _⟩
          · have z4 : decide (n < G) = false := decide_eq_false c4
            have hap2 : Hid (apP n l ↔ ∀ (i : Nat) (hi : i + 1 < l.length), l[i] < l[i + 1] ∧ (l[i + 1] - l[i]) % 2 ≠ 0) := Lib.hid ⟨fun h => (hap.out.1 h).2.2.2.2, fun h => hap.out.2 ⟨c1, c2, c3, by omega, h⟩⟩
            clear c1 c2 c4
            go_enter Tryz.func159, Tryz.ntmps159
            go_wp2
            go_loopw [5] (fun i wr => ∃ k : Nat, 1 ≤ k ∧ k ≤ l.length ∧ i = .int .i64 k ∧ (∀ (j : Nat) (hj : j + 1 < l.length), j + 1 < k → l[j] < l[j + 1] ∧ (l[j + 1] - l[j]) % 2 ≠ 0) ∧ Below w.heap.size w wr) (fun i _ => l.length - (intOf i).toNat)
            case atStart => exact ⟨1, by omega, by omega, by rfl, fun j _ hj => by omega, Below.refl _ _⟩
            case round =>
              obtain ⟨k, hk1, hk, rfl, hq, hbl⟩ := hrel
              have Hq := Lib.hid hq
              have Hbl := Lib.hid hbl
              clear hq hbl
              by_cases hlt : k < l.length
              · obtain ⟨i, rfl⟩ : ∃ i, k = i + 1 := ⟨k - 1, by omega⟩
                have r0 := (Hbl.out.cell (p := ⟨g, off + i, none⟩) hg).trans (Hcw.out i (by omega))
                have r1 := (Hbl.out.cell (p := ⟨g, off + (i + 1), none⟩) hg).trans (Hcw.out (i + 1) hlt)
                have hst : Hid ((∀ (j : Nat) (hj : j + 1 < l.length), l[j] < l[j + 1] ∧ (l[j + 1] - l[j]) % 2 ≠ 0) → l[i] < l[i + 1] ∧ (l[i + 1] - l[i]) % 2 ≠ 0) := Lib.hid (fun h => h i hlt)
                obtain ⟨q1, q8⟩ := Hb.out l[i] (List.getElem_mem _)
                obtain ⟨p1, p8⟩ := Hb.out l[i + 1] (List.getElem_mem _)
                have hq2 : Hid (∀ (p : Int), (p = l[i] → True)) := Lib.hid (fun _ _ => trivial)
                generalize hpv : l[i] = pv at r0 q1 q8 hst
                generalize hqv : l[i + 1] = qv at r1 p1 p8 hst
                have Hpv := Lib.hid hpv
                have Hqv := Lib.hid hqv
                clear hpv hqv hq2
                by_cases d1 : qv ≤ pv
                · have w1 : decide (qv ≤ pv) = true := decide_eq_true d1
                  have hno : Hid (¬ apP n l) := Lib.hid (fun h => by have := (hst.out (hap2.out.1 h)).1; omega)
                  go_wp2
                  go_quiet (fail)
                  go_wp2
                  go_ret
                  exact ⟨ret_f hno.out, below_drewN Hbl.out _⟩
                · have w1 : decide (qv ≤ pv) = false := decide_eq_false d1
                  by_cases d2 : (qv - pv) % 2 = 0
                  · have w2 : ((qv - pv) % 2 == 0) = true := by rw [beq_iff_eq]; exact d2
                    have hno : Hid (¬ apP n l) := Lib.hid (fun h => (hst.out (hap2.out.1 h)).2 d2)
                    clear d2
                    go_wp2
                    go_quiet (fail)
                    go_wp2
                    go_ret
                    exact ⟨ret_f hno.out, below_drewN Hbl.out _⟩
                  · have w2 : ((qv - pv) % 2 == 0) = false := by rw [beq_eq_false_iff_ne]; exact d2
                    have D1 := Lib.hid d1
                    have D2 := Lib.hid d2
                    clear d2
                    go_wp2
                    go_quiet (fail)
                    go_wp2
                    go_roundw
                    case rel =>
                      refine ⟨i + 1 + 1, by omega, by omega, by go_num, fun j hj h1 => ?_, below_drewN Hbl.out _⟩
                      by_cases e : j = i
                      · subst e; rw [Hpv.out, Hqv.out]; exact ⟨by have := D1.out; omega, D2.out⟩
                      · exact Hq.out j hj (by omega)
                    case measure => simp [intOf]; omega
              · obtain rfl : k = l.length := by omega
                go_wp2
                go_ret
                exact ⟨ret_t (hap2.out.2 (fun j hj => Hq.out j hj hj)), Hbl.out⟩
        · have z3 : (G % 2 == n % 2) = false := by rw [beq_eq_false_iff_ne]; exact c3
          have C3 := Lib.hid c3
          go_enter Tryz.func159, Tryz.ntmps159
          go_wp2
          all_goals
            go_ret
            exact ⟨ret_f (fun h => C3.out (hap.out.1 h).2.2.1), Below.refl _ _⟩
end Go.Proofs.YtkegbbndmfnolaaGreatDoor

/-
  All lists of places of a change, in plain words (no program).
-/
namespace Go.Proofs.YtkegbbndmfnolaaGreatDoor
open Go.RowKit
set_option linter.unusedVariables false
set_option linter.unusedSimpArgs false

/-- All ways to go on where k places are left. -/
def fromR (n : Nat) : Nat → List (List Int)
  | 0 => [[]]
  | 1 => [[(n : Int)]]
  | k + 2 => (fromR n (k + 1)).map (fun r => ((n : Int) - (k + 1)) :: r) ++ fromR n k
theorem fromR_succ (n k : Nat) : fromR n (k + 1) = (fromR n k).map (fun r => ((n : Int) - k) :: r) ++ (if k = 0 then [] else fromR n (k - 1)) := by
  cases k with
  | zero => simp [fromR]
  | succ k => simp [fromR]
theorem fromR_pos (n : Nat) : ∀ k, 0 < (fromR n k).length
  | 0 => by simp [fromR]
  | 1 => by simp [fromR]
  | k + 2 => by have := fromR_pos n k; simp [fromR]; omega
theorem fromR_len (n : Nat) : ∀ k, (fromR n k).length ≤ 2 ^ k
  | 0 => by simp [fromR]
  | 1 => by simp [fromR]
  | k + 2 => by
    have h1 := fromR_len n (k + 1)
    have h2 := fromR_len n k
    simp only [fromR, List.length_append, List.length_map]
    rw [show (2 : Nat) ^ (k + 2) = 2 ^ (k + 1) + 2 ^ (k + 1) by rw [Nat.pow_succ]; omega]
    have : (2 : Nat) ^ k ≤ 2 ^ (k + 1) := Nat.pow_le_pow_right (by omega) (by omega)
    omega
theorem fromR_in (n : Nat) : ∀ k, k ≤ n → ∀ r ∈ fromR n k, r.length ≤ k ∧ ∀ p ∈ r, 1 ≤ p ∧ p ≤ n
  | 0, _ => by simp [fromR]
  | 1, h => by simp [fromR]; omega
  | k + 2, h => by
    intro r hr
    simp only [fromR, List.mem_append, List.mem_map] at hr
    rcases hr with ⟨q, hq, rfl⟩ | hr
    · have := fromR_in n (k + 1) (by omega) q hq
      refine ⟨by simp; omega, fun p hp => ?_⟩
      rcases List.mem_cons.1 hp with rfl | hp
      · omega
      · exact this.2 p hp
    · have := fromR_in n k (by omega) r hr
      exact ⟨by omega, this.2⟩
/-- The last list of places: none, or the last place alone. -/
def lastR (n k : Nat) : List Int := if k % 2 = 0 then [] else [(n : Int)]
theorem fromR_last (n : Nat) : ∀ k, lastR n k ∈ fromR n k
  | 0 => by simp [fromR, lastR]
  | 1 => by simp [fromR, lastR]
  | k + 2 => by
    have := fromR_last n k
    have e : lastR n (k + 2) = lastR n k := by unfold lastR; rw [show (k + 2) % 2 = k % 2 by omega]
    rw [e]; simp only [fromR, List.mem_append]; exact .inr this
/-- The text of some places, each below ten. -/
def plcT (l : List Int) : ByteArray := mkS (l.map fun p => 48 + p)
def ofR (l : List Int) : ByteArray := if l = [] then dash else plcT l
theorem plcT_size (l : List Int) : (plcT l).size = l.length := by unfold plcT; rw [size_mkS]; simp
theorem ofR_nil : ofR [] = dash := if_pos rfl
theorem ofR_some {l : List Int} (h : l ≠ []) : ofR l = plcT l := if_neg h
/-- The last list of places makes a valid change. -/
theorem last_change {n : Nat} (h3 : 3 ≤ n) (h8 : n ≤ 8) : changeP (n : Int) (ofR (lastR n n)) := by
  by_cases e : n % 2 = 0
  · have : lastR n n = [] := by unfold lastR; rw [if_pos e]
    rw [this, ofR_nil]
    exact ⟨⟨by omega, by omega⟩, .inl ⟨rfl, by omega⟩⟩
  · have : lastR n n = [(n : Int)] := by unfold lastR; rw [if_neg e]
    rw [this, ofR_some (by simp)]
    have hs : (plcT [(n : Int)]).size = 1 := plcT_size _
    have hb : bat (plcT [(n : Int)]) ((0 : Nat) : Int) = 48 + (n : Int) := by
      unfold plcT
      rw [bat_mkS _ 0 (by simp) (by simp; omega) (by simp; omega)]; simp
    have hd : dg (plcT [(n : Int)]) 0 = (n : Int) := by unfold dg; rw [hb]; omega
    refine ⟨⟨by omega, by omega⟩, .inr ⟨fun h => ?_, by omega, by omega, fun i hi => ?_, ?_⟩⟩
    · rw [h] at hb
      have : bat dash ((0 : Nat) : Int) = 45 := rfl
      omega
    · obtain rfl : i = 0 := by omega
      unfold stepP
      rw [hd]
      show (0 : Int) < n ∧ (n : Int) ≤ n ∧ ((n : Int) - 0) % 2 ≠ 0
      omega
    · rw [hs]
      show ((n : Int) - dg (plcT [(n : Int)]) 0) % 2 = 0
      rw [hd]; omega
end Go.Proofs.YtkegbbndmfnolaaGreatDoor
