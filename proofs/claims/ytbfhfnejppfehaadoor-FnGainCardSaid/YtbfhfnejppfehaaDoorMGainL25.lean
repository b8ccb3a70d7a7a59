import Derived.Test.YtbfhfnejppfehaaDoorMGainL24
import Derived.Test.YtbfhfnejppfehaaDoorMGainL09
/-
  Contracts: valid changes, methods and calls (both sides).
-/
namespace Go.Proofs.YtbfhfnejppfehaaDoor
open Go.RowKit
set_option linter.unusedVariables false
set_option linter.unusedSimpArgs false
set_option maxRecDepth 100000

theorem dgL_len (c : ByteArray) : (dgL c).length = c.size := by simp [dgL]
theorem dgL_at (c : ByteArray) (i : Nat) (hi : i < (dgL c).length) : (dgL c)[i] = dg c i := by simp [dgL]
theorem apP_dg (n : Int) (c : ByteArray) : apP n (dgL c) ↔ 0 < c.size ∧ (c.size : Int) ≠ n ∧ dg c 0 % 2 ≠ 0 ∧ dg c (c.size - 1) % 2 = n % 2 ∧ dg c (c.size - 1) ≤ n ∧ ∀ i : Nat, i + 1 < c.size → dg c i < dg c (i + 1) ∧ (dg c (i + 1) - dg c i) % 2 ≠ 0 := by
  unfold apP
  constructor
  · rintro ⟨h, h1, h2, h3, h4, h5⟩
    simp only [dgL_at, dgL_len] at h h1 h2 h3 h4 h5
    exact ⟨h, h1, h2, h3, h4, h5⟩
  · rintro ⟨h, h1, h2, h3, h4, h5⟩
    refine ⟨by rw [dgL_len]; exact h, ?_⟩
    simp only [dgL_at, dgL_len]
    exact ⟨h1, h2, h3, h4, h5⟩
theorem change_iff {n : Int} {c : ByteArray} (h : inB n 3 8) : (0 < c.size ∧ (c.size : Int) ≤ n - 2 ∧ chainP n c) ↔ (digsP c ∧ apP n (dgL c)) := by
  obtain ⟨hn3, hn8⟩ := h
  rw [apP_dg]
  constructor
  · rintro ⟨h0, h1, h2, h3⟩
    have hs : ∀ i, i < c.size → 1 ≤ dg c i ∧ dg c i ≤ n := fun i hi => by
      have hb := steps_bound i (fun j hj => h2 j (by omega))
      obtain ⟨a1, a2, _⟩ := h2 i hi
      omega
    have hl : dgP c c.size = dg c (c.size - 1) := by
      obtain ⟨m, hm⟩ : ∃ m, c.size = m + 1 := ⟨c.size - 1, by omega⟩
      rw [hm]; rfl
    rw [hl] at h3
    have hz := h2 0 h0
    have hlast := hs (c.size - 1) (by omega)
    refine ⟨fun i hi => by have := hs i hi; unfold dg at this; omega, h0, by omega, ?_, by omega, hlast.2, fun i hi => ?_⟩
    · have := hz.2.2; simp only [dgP] at this; omega
    · obtain ⟨a1, _, a3⟩ := h2 (i + 1) hi
      exact ⟨a1, a3⟩
  · rintro ⟨hd, h0, h1, h2, h3, h4, h5⟩
    have hge : ∀ i : Nat, i < c.size → (i : Int) + 1 ≤ dg c i ∧ dg c i % 2 = ((i : Int) + 1) % 2 := fun i => by
      induction i with
      | zero => intro _; have := hd 0 h0; unfold dg at h2 ⊢; constructor <;> omega
      | succ i ih =>
        intro hi
        obtain ⟨a1, a2⟩ := ih (by omega)
        obtain ⟨a3, a4⟩ := h5 i hi
        push_cast
        constructor <;> omega
    have hle : ∀ m i : Nat, i + m = c.size - 1 → dg c i ≤ n := fun m => by
      induction m with
      | zero => intro i hi; rw [show i = c.size - 1 from by omega]; exact h4
      | succ m ih =>
        intro i hi
        have := ih (i + 1) (by omega)
        have := (h5 i (by omega)).1
        omega
    have hl := hge (c.size - 1) (by omega)
    have hlP : dgP c c.size = dg c (c.size - 1) := by
      obtain ⟨m, hm⟩ : ∃ m, c.size = m + 1 := ⟨c.size - 1, by omega⟩
      rw [hm]; rfl
    refine ⟨h0, by omega, fun i hi => ⟨?_, hle (c.size - 1 - i) i (by omega), ?_⟩, by rw [hlP]; omega⟩
    · cases i with
      | zero => have := (hge 0 h0).1; simp only [dgP]; omega
      | succ i => simp only [dgP]; exact (h5 i hi).1
    · cases i with
      | zero => simp only [dgP]; omega
      | succ i => simp only [dgP]; exact (h5 i hi).2
set_option maxHeartbeats 1600000 in
theorem goodChange_any (n : Int) (c : ByteArray) (w : World) (hc : c.size ≤ 1048576) :
    Calls Tryd.prog 104 #[.int .i64 n, .string c] w fun e w' => e = .returned (.bool (B (changeP n c))) ∧ Below w.heap.size w w' := by
  by_cases h1 : inB n 3 8
  · have hci := change_iff (c := c) h1
    obtain ⟨h11, h12⟩ := h1
    by_cases hd : c = dash
    · have hd2 : (c.toList == [45]) = true := by rw [hd, ByteArray.toList_eq]; rfl
      have Hd := Lib.hid hd
      clear hd hci
      by_cases hn : n % 2 = 0
      all_goals
        go_enter Tryd.func104, Tryd.ntmps104
        go_wp2_with (go_at_call 92; refine (isStage_t n _ h11 h12).mono ?_; rintro e w' ⟨rfl, rfl⟩)
        go_ret
        first
          | exact ⟨by rw [B_t (show changeP n c from ⟨⟨h11, h12⟩, .inl ⟨Hd.out, hn⟩⟩)]; simp [hn], Below.refl _ _⟩
          | exact ⟨by rw [B_f (show ¬ changeP n c from fun h => by
              rcases h.2 with ⟨_, h2⟩ | ⟨h2, _⟩
              · exact hn h2
              · exact h2 Hd.out)]; simp [hn], Below.refl _ _⟩
    · have hd2 := toList_dash hd
      have hch : Hid (changeP n c ↔ digsP c ∧ apP n (dgL c)) := Lib.hid ⟨fun h => by
        rcases h.2 with ⟨h2, _⟩ | ⟨_, h2⟩
        · exact absurd h2 hd
        · exact hci.1 h2, fun h => ⟨⟨h11, h12⟩, .inr ⟨hd, hci.2 h⟩⟩⟩
      clear hd hci
      by_cases hp : digsP c
      · have HP := Lib.hid hp
        have hel : Hid (∀ x ∈ dgL c, 1 ≤ x ∧ x ≤ 8) := Lib.hid (fun x hx => by
          obtain ⟨i, hi, rfl⟩ := List.getElem_of_mem hx
          rw [dgL_at]
          have := hp i (by rw [dgL_len] at hi; exact hi)
          unfold dg; omega)
        have hll : (dgL c).length ≤ 1048576 := by rw [dgL_len]; exact hc
        obtain ⟨L, hL⟩ : ∃ L, Hid (dgL c = L) := ⟨_, Lib.hid rfl⟩
        have hpt := fun W => places_t c W hc HP.out
        rw [hL.out] at hel hll hch hpt
        have Hpt := Lib.hid hpt
        clear hp hpt
        by_cases ha : apP n L
        all_goals
          first | have e2 := B_t ha | have e2 := B_f ha
          have Ha := Lib.hid ha
          clear ha
          go_enter Tryd.func104, Tryd.ntmps104
          go_wp2_with (first | (go_at_call 92; refine (isStage_t n _ h11 h12).mono ?_; rintro e w' ⟨rfl, rfl⟩) | (go_at_call 128; refine (Hpt.out _).mono ?_; rintro e w1 ⟨A, c2, rfl, ho, hb1⟩; have Ho := Lib.hid ho; clear ho) | (go_at_call 129; refine (arePlaces_any n L _ _ _ (Ho.out.rd encInt_len) hll ⟨by omega, h12⟩ hel.out).mono ?_; rintro e w2 ⟨rfl, hb2⟩))
          go_ret
          first
            | exact ⟨ret_t (hch.out.2 ⟨HP.out, Ha.out⟩), hb1.trans (hb2.mono hb1.size)⟩
            | exact ⟨ret_f (fun h => Ha.out (hch.out.1 h).2), hb1.trans (hb2.mono hb1.size)⟩
            | exact ⟨by show Ending.returned (Value.bool (B (apP n L))) = Ending.returned (Value.bool (B (changeP n c))); rw [B_t Ha.out, B_t (hch.out.2 ⟨HP.out, Ha.out⟩)], hb1.trans (hb2.mono hb1.size)⟩
            | exact ⟨by show Ending.returned (Value.bool (B (apP n L))) = Ending.returned (Value.bool (B (changeP n c))); rw [B_f Ha.out, B_f (fun h => Ha.out (hch.out.1 h).2)], hb1.trans (hb2.mono hb1.size)⟩
      · have HP := Lib.hid hp
        have hpf := fun W => places_f c W hc hp
        have Hpf := Lib.hid hpf
        clear hp hpf
        go_enter Tryd.func104, Tryd.ntmps104
        go_wp2_with (first | (go_at_call 92; refine (isStage_t n _ h11 h12).mono ?_; rintro e w' ⟨rfl, rfl⟩) | (go_at_call 128; refine (Hpf.out _).mono ?_; rintro e w1 ⟨rfl, hb1⟩))
        go_ret
        exact ⟨ret_f (fun h => HP.out (hch.out.1 h).1), hb1⟩
  · have h2 : Hid (n < 3 ∨ 8 < n) := Lib.hid (by unfold inB at h1; omega)
    have H1 := Lib.hid h1
    clear h1
    go_enter Tryd.func104, Tryd.ntmps104
    go_wp2_with (go_at_call 92; refine (isStage_f n _ h2.out).mono ?_; rintro e w' ⟨rfl, rfl⟩)
    go_ret
    exact ⟨ret_f (fun h => H1.out h.1), Below.refl _ _⟩
end Go.Proofs.YtbfhfnejppfehaaDoor
