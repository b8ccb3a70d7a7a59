import Derived.Test.YtbfhfnejppfehaaDoorMGainL11
/-
  Contracts: a valid placing (both sides).
-/
namespace Go.Proofs.YtbfhfnejppfehaaDoor
open Go.RowKit
set_option linter.unusedVariables false
set_option linter.unusedSimpArgs false
set_option maxRecDepth 100000

/-- The person on bell b is one of the list, is on no earlier bell, and rings the bell. -/
def seatAt (l : List Pk) (who : List Int) (b : Nat) : Prop := inB (who.getD b 0) 0 ((l.length : Int) - 1) ∧ ¬ hasUpTo who b (who.getD b 0) ∧ (skAt l (who.getD b 0).toNat).getD b 0 ≠ 0
def seatsP (l : List Pk) (who : List Int) : Prop := ∀ b, b < who.length → seatAt l who b
def placingP (l : List Pk) (n : Int) (who : List Int) : Prop := peopleP l n ∧ (who.length : Int) = n ∧ seatsP l who
theorem peopleP.sk {l : List Pk} {n : Int} (h : peopleP l n) {i : Nat} (hi : i < l.length) : ((skAt l i).length : Int) = n := (h.2.2 i hi).2.1


set_option maxHeartbeats 3200000 in
theorem l27Good_any (l : List Pk) (who : List Int) (A A' : Option Addr) (c c' : Nat) (n : Int) (w : World) (h : RdP w w.heap.size A l) (h' : RdL w w.heap.size A' 1 encInt who) (hl : l.length ≤ 1048576) (hl' : who.length ≤ 1048576) (hc' : who.length ≤ c') (hp : peopleP l n) (hn : (who.length : Int) = n) :
    Calls Tryd.prog 50 #[.slice A l.length c, .int .i64 n, .slice A' who.length c'] w fun e w' => e = .returned (.bool (B (seatsP l who))) ∧ w = w' := by
  obtain ⟨D, rfl, hr, hi⟩ := h
  have hsk : Hid (∀ (i : Nat) (hi : i < D.length), (D[i].x.length : Int) = n) := Lib.hid (fun i hi => by have := hp.sk (i := i) (by simpa using hi); rw [skAt_key hi] at this; exact this)
  have hst : Hid (∀ b, seatAt (D.map Psn.key) who b ↔ inB (who.getD b 0) 0 ((D.length : Int) - 1) ∧ ¬ hasUpTo who b (who.getD b 0) ∧ (skAt (D.map Psn.key) (who.getD b 0).toNat).getD b 0 ≠ 0) := Lib.hid (fun b => by simp [seatAt])
  rw [List.length_map] at hl ⊢
  have Hr := Lib.hid hr
  have Hi := Lib.hid hi
  have H' := Lib.hid h'
  have HN := Lib.hid hn
  clear hr hi h' hp
  go_enter Tryd.func50, Tryd.ntmps50
  go_wp2
  go_loop [11] (fun i => ∃ k : Nat, k ≤ who.length ∧ i = .int .i64 k ∧ ∀ b, b < k → seatAt (D.map Psn.key) who b) (fun i => who.length - (intOf i).toNat)
  case atStart => exact ⟨0, by omega, by rfl, fun j h => by omega⟩
  case round =>
    obtain ⟨k, hk, rfl, hq⟩ := hrel
    have Hq := Lib.hid hq
    clear hq
    by_cases hlt : k < who.length
    · obtain ⟨g, off, hA, hg, hcell⟩ := H'.out.at hlt
      subst hA
      have r0 : w.cell? ⟨g, off + k, none⟩ = some (.int .i64 who[k]) := by have := hcell 0 _ rfl; rw [Nat.mul_one] at this; exact this
      clear hcell
      have hgd : who.getD k 0 = who[k] := by simp [hlt]
      have hsk2 := hst.out k
      rw [hgd] at hsk2
      have Hs := Lib.hid hsk2
      clear hsk2 hgd
      generalize who[k] = p at r0 Hs
      by_cases c1 : inB p 0 ((D.length : Int) - 1)
      · have f1 := B_t c1
        obtain ⟨c11, c12⟩ := c1
        obtain ⟨i, rfl⟩ := Int.eq_ofNat_of_zero_le c11
        have hiD : i < D.length := by omega
        obtain ⟨g2, off2, hA2, hg2, hcell2⟩ := Hr.out.at hiD
        subst hA2
        have q0 : w.cell? ⟨g2, off2 + i * 2, none⟩ = _ := hcell2 0 _ rfl
        have q1 : w.cell? ⟨g2, off2 + i * 2 + 1, none⟩ = _ := hcell2 1 _ rfl
        clear hcell2
        have hrk := Hi.out _ (List.getElem_mem hiD)
        have hsl := hsk.out i hiD
        have hse : skAt (D.map Psn.key) ((i : Int)).toNat = D[i].x := by rw [Int.toNat_natCast]; exact skAt_key hiD
        obtain ⟨x, hx⟩ : ∃ x, Hid (D[i] = x) := ⟨_, Lib.hid rfl⟩
        rw [hx.out] at q0 q1 hrk hsl hse
        have hkx : k < x.x.length := by have := HN.out; omega
        obtain ⟨g3, off3, hA3, hg3, hcell3⟩ := hrk.at hkx
        have s0 : w.cell? ⟨g3, off3 + k, none⟩ = some (.int .i64 x.x[k]) := by have := hcell3 0 _ rfl; rw [Nat.mul_one] at this; exact this
        rw [hA3] at q1
        have hs2 : Hid (seatAt (D.map Psn.key) who k ↔ inB (i : Int) 0 ((D.length : Int) - 1) ∧ ¬ hasUpTo who k i ∧ x.x[k] ≠ 0) := Lib.hid (by rw [Hs.out, hse]; simp [hkx])
        clear hcell3 hrk hse hA3
        generalize x.x[k] = sv at s0 hs2
        by_cases c2 : hasUpTo who k i
        · have f2 := B_t c2
          have C2 := Lib.hid c2
          clear c2
          by_cases c3 : sv = 0
          all_goals
            go_wp2_with (first | (go_at_call 48; refine (l1In_any _ _ _ _).mono ?_; rintro e w' ⟨rfl, rfl⟩) | (go_at_call 87; refine (l1Has_any who k (by omega) _ _ _ _ H'.out (by omega)).mono ?_; rintro e w' ⟨rfl, rfl⟩))
            go_ret
            exact ⟨ret_f (fun h => (hs2.out.1 (h k hlt)).2.1 C2.out), rfl⟩
        · have f2 := B_f c2
          have C2 := Lib.hid c2
          clear c2
          by_cases c3 : sv = 0
          · subst c3
            go_wp2_with (first | (go_at_call 48; refine (l1In_any _ _ _ _).mono ?_; rintro e w' ⟨rfl, rfl⟩) | (go_at_call 87; refine (l1Has_any who k (by omega) _ _ _ _ H'.out (by omega)).mono ?_; rintro e w' ⟨rfl, rfl⟩))
            go_ret
            exact ⟨ret_f (fun h => (hs2.out.1 (h k hlt)).2.2 rfl), rfl⟩
          · go_wp2_with (first | (go_at_call 48; refine (l1In_any _ _ _ _).mono ?_; rintro e w' ⟨rfl, rfl⟩) | (go_at_call 87; refine (l1Has_any who k (by omega) _ _ _ _ H'.out (by omega)).mono ?_; rintro e w' ⟨rfl, rfl⟩))
            go_round
            case rel =>
              refine ⟨k + 1, by omega, by go_num, fun b hb => ?_⟩
              rcases Nat.lt_or_eq_of_le (Nat.le_of_lt_succ hb) with h' | rfl
              · exact Hq.out b h'
              · exact hs2.out.2 ⟨⟨c11, c12⟩, C2.out, c3⟩
            case measure => simp [intOf]; omega
      · have f1 := B_f c1
        have C1 := Lib.hid c1
        clear c1
        go_wp2_with (go_at_call 48; refine (l1In_any _ _ _ _).mono ?_; rintro e w' ⟨rfl, rfl⟩)
        go_ret
        exact ⟨ret_f (fun h => C1.out (Hs.out.1 (h k hlt)).1), rfl⟩
    · obtain rfl : k = who.length := by omega
      go_wp2
      go_ret
      exact ⟨ret_t Hq.out, rfl⟩
set_option maxHeartbeats 3200000 in
theorem isPlacing_any (l : List Pk) (who : List Int) (A A' : Option Addr) (c c' : Nat) (n : Int) (w : World) (h : RdP w w.heap.size A l) (h' : RdL w w.heap.size A' 1 encInt who) (hl : l.length ≤ 1048576) (hl' : who.length ≤ 1048576) (hc' : who.length ≤ c') (hp : peopleP l n) (hn : (who.length : Int) = n) :
    Calls Tryd.prog 45 #[.slice A l.length c, .int .i64 n, .slice A' who.length c'] w fun e w' => e = .returned (.bool (B (seatsP l who))) ∧ w = w' := by
  obtain ⟨D, rfl, hr, hi⟩ := h
  have hsk : Hid (∀ (i : Nat) (hi : i < D.length), (D[i].x.length : Int) = n) := Lib.hid (fun i hi => by have := hp.sk (i := i) (by simpa using hi); rw [skAt_key hi] at this; exact this)
  have hst : Hid (∀ b, seatAt (D.map Psn.key) who b ↔ inB (who.getD b 0) 0 ((D.length : Int) - 1) ∧ ¬ hasUpTo who b (who.getD b 0) ∧ (skAt (D.map Psn.key) (who.getD b 0).toNat).getD b 0 ≠ 0) := Lib.hid (fun b => by simp [seatAt])
  rw [List.length_map] at hl ⊢
  have Hr := Lib.hid hr
  have Hi := Lib.hid hi
  have H' := Lib.hid h'
  have HN := Lib.hid hn
  clear hr hi h' hp
  go_enter Tryd.func45, Tryd.ntmps45
  go_wp2
  go_loop [15] (fun i => ∃ k : Nat, k ≤ who.length ∧ i = .int .i64 k ∧ ∀ b, b < k → seatAt (D.map Psn.key) who b) (fun i => who.length - (intOf i).toNat)
  case atStart => exact ⟨0, by omega, by rfl, fun j h => by omega⟩
  case round =>
    obtain ⟨k, hk, rfl, hq⟩ := hrel
    have Hq := Lib.hid hq
    clear hq
    by_cases hlt : k < who.length
    · obtain ⟨g, off, hA, hg, hcell⟩ := H'.out.at hlt
      subst hA
      have r0 : w.cell? ⟨g, off + k, none⟩ = some (.int .i64 who[k]) := by have := hcell 0 _ rfl; rw [Nat.mul_one] at this; exact this
      clear hcell
      have hgd : who.getD k 0 = who[k] := by simp [hlt]
      have hsk2 := hst.out k
      rw [hgd] at hsk2
      have Hs := Lib.hid hsk2
      clear hsk2 hgd
      generalize who[k] = p at r0 Hs
      by_cases c1 : inB p 0 ((D.length : Int) - 1)
      · have f1 := B_t c1
        obtain ⟨c11, c12⟩ := c1
        obtain ⟨i, rfl⟩ := Int.eq_ofNat_of_zero_le c11
        have hiD : i < D.length := by omega
        obtain ⟨g2, off2, hA2, hg2, hcell2⟩ := Hr.out.at hiD
        subst hA2
        have q0 : w.cell? ⟨g2, off2 + i * 2, none⟩ = _ := hcell2 0 _ rfl
        have q1 : w.cell? ⟨g2, off2 + i * 2 + 1, none⟩ = _ := hcell2 1 _ rfl
        clear hcell2
        have hrk := Hi.out _ (List.getElem_mem hiD)
        have hsl := hsk.out i hiD
        have hse : skAt (D.map Psn.key) ((i : Int)).toNat = D[i].x := by rw [Int.toNat_natCast]; exact skAt_key hiD
        obtain ⟨x, hx⟩ : ∃ x, Hid (D[i] = x) := ⟨_, Lib.hid rfl⟩
        rw [hx.out] at q0 q1 hrk hsl hse
        have hkx : k < x.x.length := by have := HN.out; omega
        obtain ⟨g3, off3, hA3, hg3, hcell3⟩ := hrk.at hkx
        have s0 : w.cell? ⟨g3, off3 + k, none⟩ = some (.int .i64 x.x[k]) := by have := hcell3 0 _ rfl; rw [Nat.mul_one] at this; exact this
        rw [hA3] at q1
        have hs2 : Hid (seatAt (D.map Psn.key) who k ↔ inB (i : Int) 0 ((D.length : Int) - 1) ∧ ¬ hasUpTo who k i ∧ x.x[k] ≠ 0) := Lib.hid (by rw [Hs.out, hse]; simp [hkx])
        clear hcell3 hrk hse hA3
        generalize x.x[k] = sv at s0 hs2
        by_cases c2 : hasUpTo who k i
        · have f2 := B_t c2
          have C2 := Lib.hid c2
          clear c2
          by_cases c3 : sv = 0
          all_goals
            go_wp2_with (first | (go_at_call 85; refine (within_any _ _ _ _).mono ?_; rintro e w' ⟨rfl, rfl⟩) | (go_at_call 86; refine (containsInt_any who k (by omega) _ _ _ _ H'.out (by omega)).mono ?_; rintro e w' ⟨rfl, rfl⟩))
            go_ret
            exact ⟨ret_f (fun h => (hs2.out.1 (h k hlt)).2.1 C2.out), rfl⟩
        · have f2 := B_f c2
          have C2 := Lib.hid c2
          clear c2
          by_cases c3 : sv = 0
          · subst c3
            go_wp2_with (first | (go_at_call 85; refine (within_any _ _ _ _).mono ?_; rintro e w' ⟨rfl, rfl⟩) | (go_at_call 86; refine (containsInt_any who k (by omega) _ _ _ _ H'.out (by omega)).mono ?_; rintro e w' ⟨rfl, rfl⟩))
            go_ret
            exact ⟨ret_f (fun h => (hs2.out.1 (h k hlt)).2.2 rfl), rfl⟩
          · go_wp2_with (first | (go_at_call 85; refine (within_any _ _ _ _).mono ?_; rintro e w' ⟨rfl, rfl⟩) | (go_at_call 86; refine (containsInt_any who k (by omega) _ _ _ _ H'.out (by omega)).mono ?_; rintro e w' ⟨rfl, rfl⟩))
            go_round
            case rel =>
              refine ⟨k + 1, by omega, by go_num, fun b hb => ?_⟩
              rcases Nat.lt_or_eq_of_le (Nat.le_of_lt_succ hb) with h' | rfl
              · exact Hq.out b h'
              · exact hs2.out.2 ⟨⟨c11, c12⟩, C2.out, c3⟩
            case measure => simp [intOf]; omega
      · have f1 := B_f c1
        have C1 := Lib.hid c1
        clear c1
        go_wp2_with (go_at_call 85; refine (within_any _ _ _ _).mono ?_; rintro e w' ⟨rfl, rfl⟩)
        go_ret
        exact ⟨ret_f (fun h => C1.out (Hs.out.1 (h k hlt)).1), rfl⟩
    · obtain rfl : k = who.length := by omega
      go_wp2
      go_ret
      exact ⟨ret_t Hq.out, rfl⟩


set_option maxHeartbeats 1600000 in
theorem sPlacing_any (l : List Pk) (who : List Int) (A A' : Option Addr) (c c' : Nat) (n : Int) (w : World) (h : RdP w w.heap.size A l) (h' : RdL w w.heap.size A' 1 encInt who) (hl : l.length ≤ 1048576) (hc : l.length ≤ c) (hs : ∀ x ∈ l, Person_small 1048576 x) (hl' : who.length ≤ 1048576) (hc' : who.length ≤ c') :
    Calls Tryd.prog 47 #[.slice A l.length c, .int .i64 n, .slice A' who.length c'] w fun e w' => e = .returned (.bool (B (placingP l n who))) ∧ Below w.heap.size w w' := by
  have H := Lib.hid h
  have H' := Lib.hid h'
  have Hs := Lib.hid hs
  clear h h' hs
  by_cases hp : peopleP l n
  · have f1 := B_t hp
    have HP := Lib.hid hp
    clear hp
    by_cases hn : (who.length : Int) = n
    · have HN := Lib.hid hn
      by_cases hq : seatsP l who
      · have f2 := B_t hq
        have HQ := Lib.hid hq
        clear hq
        go_enter Tryd.func47, Tryd.ntmps47
        go_wp2_with (first | (go_at_call 62; refine (sPeople_any l A c n _ H.out hl hc Hs.out).mono ?_; rintro e w1 ⟨rfl, hb1⟩) | (go_at_call 50; refine (l27Good_any l who A A' c c' n _ ((H.out.below hb1 (Nat.le_refl _)).more hb1.size) ((H'.out.below hb1 (Nat.le_refl _)).more hb1.size) hl hl' hc' HP.out HN.out).mono ?_; rintro e w2 ⟨rfl, rfl⟩))
        go_ret
        exact ⟨ret_t ⟨HP.out, HN.out, HQ.out⟩, hb1⟩
      · have f2 := B_f hq
        have HQ := Lib.hid hq
        clear hq
        go_enter Tryd.func47, Tryd.ntmps47
        go_wp2_with (first | (go_at_call 62; refine (sPeople_any l A c n _ H.out hl hc Hs.out).mono ?_; rintro e w1 ⟨rfl, hb1⟩) | (go_at_call 50; refine (l27Good_any l who A A' c c' n _ ((H.out.below hb1 (Nat.le_refl _)).more hb1.size) ((H'.out.below hb1 (Nat.le_refl _)).more hb1.size) hl hl' hc' HP.out HN.out).mono ?_; rintro e w2 ⟨rfl, rfl⟩))
        go_ret
        exact ⟨ret_f (fun h => HQ.out h.2.2), hb1⟩
    · have HN := Lib.hid hn
      go_enter Tryd.func47, Tryd.ntmps47
      go_wp2_with (first | (go_at_call 62; refine (sPeople_any l A c n _ H.out hl hc Hs.out).mono ?_; rintro e w1 ⟨rfl, hb1⟩) | (go_at_call 50; refine (l27Good_any l who A A' c c' n _ ((H.out.below hb1 (Nat.le_refl _)).more hb1.size) ((H'.out.below hb1 (Nat.le_refl _)).more hb1.size) hl hl' hc' HP.out HN.out).mono ?_; rintro e w2 ⟨rfl, rfl⟩))
      go_ret
      exact ⟨ret_f (fun h => HN.out h.2.1), hb1⟩
  · have f1 := B_f hp
    have HP := Lib.hid hp
    clear hp
    go_enter Tryd.func47, Tryd.ntmps47
    go_wp2_with (first | (go_at_call 62; refine (sPeople_any l A c n _ H.out hl hc Hs.out).mono ?_; rintro e w1 ⟨rfl, hb1⟩) | (go_at_call 50; refine (l27Good_any l who A A' c c' n _ ((H.out.below hb1 (Nat.le_refl _)).more hb1.size) ((H'.out.below hb1 (Nat.le_refl _)).more hb1.size) hl hl' hc' HP.out HN.out).mono ?_; rintro e w2 ⟨rfl, rfl⟩))
    go_ret
    exact ⟨ret_f (fun h => HP.out h.1), hb1⟩
theorem isPlacing_n (l : List Pk) (who : List Int) (A A' : Option Addr) (c c' : Nat) (n : Int) (w : World) (hn : ¬ (who.length : Int) = n) :
    Calls Tryd.prog 45 #[.slice A l.length c, .int .i64 n, .slice A' who.length c'] w fun e w' => e = .returned (.bool false) ∧ w = w' := by
  go_enter Tryd.func45, Tryd.ntmps45
  go_wp2
  go_ret
  exact ⟨rfl, rfl⟩
set_option maxHeartbeats 1600000 in
theorem iPlacing_any (l : List Pk) (who : List Int) (A A' : Option Addr) (c c' : Nat) (n : Int) (w : World) (h : RdP w w.heap.size A l) (h' : RdL w w.heap.size A' 1 encInt who) (hl : l.length ≤ 1048576) (hc : l.length ≤ c) (hs : ∀ x ∈ l, Person_small 1048576 x) (hl' : who.length ≤ 1048576) (hc' : who.length ≤ c') :
    Calls Tryd.prog 42 #[.slice A l.length c, .int .i64 n, .slice A' who.length c'] w fun e w' => e = .returned (.bool (B (placingP l n who))) ∧ Below w.heap.size w w' := by
  have H := Lib.hid h
  have H' := Lib.hid h'
  have Hs := Lib.hid hs
  clear h h' hs
  by_cases hp : peopleP l n
  · have f1 := B_t hp
    have HP := Lib.hid hp
    clear hp
    by_cases hn : (who.length : Int) = n
    · have HN := Lib.hid hn
      by_cases hq : seatsP l who
      · have f2 := B_t hq
        have HQ := Lib.hid hq
        clear hq
        go_enter Tryd.func42, Tryd.ntmps42
        go_wp2_with (first | (go_at_call 58; refine (iPeople_any l A c n _ H.out hl hc Hs.out).mono ?_; rintro e w1 ⟨rfl, hb1⟩) | (go_at_call 45; refine (isPlacing_any l who A A' c c' n _ ((H.out.below hb1 (Nat.le_refl _)).more hb1.size) ((H'.out.below hb1 (Nat.le_refl _)).more hb1.size) hl hl' hc' HP.out HN.out).mono ?_; rintro e w2 ⟨rfl, rfl⟩))
        go_ret
        exact ⟨ret_t ⟨HP.out, HN.out, HQ.out⟩, hb1⟩
      · have f2 := B_f hq
        have HQ := Lib.hid hq
        clear hq
        go_enter Tryd.func42, Tryd.ntmps42
        go_wp2_with (first | (go_at_call 58; refine (iPeople_any l A c n _ H.out hl hc Hs.out).mono ?_; rintro e w1 ⟨rfl, hb1⟩) | (go_at_call 45; refine (isPlacing_any l who A A' c c' n _ ((H.out.below hb1 (Nat.le_refl _)).more hb1.size) ((H'.out.below hb1 (Nat.le_refl _)).more hb1.size) hl hl' hc' HP.out HN.out).mono ?_; rintro e w2 ⟨rfl, rfl⟩))
        go_ret
        exact ⟨ret_f (fun h => HQ.out h.2.2), hb1⟩
    · have HN := Lib.hid hn
      go_enter Tryd.func42, Tryd.ntmps42
      go_wp2_with (first | (go_at_call 58; refine (iPeople_any l A c n _ H.out hl hc Hs.out).mono ?_; rintro e w1 ⟨rfl, hb1⟩) | (go_at_call 45; refine (isPlacing_n l who A A' c c' n _ HN.out).mono ?_; rintro e w2 ⟨rfl, rfl⟩))
      go_ret
      exact ⟨ret_f (fun h => HN.out h.2.1), hb1⟩
  · have f1 := B_f hp
    have HP := Lib.hid hp
    clear hp
    go_enter Tryd.func42, Tryd.ntmps42
    go_wp2_with (first | (go_at_call 58; refine (iPeople_any l A c n _ H.out hl hc Hs.out).mono ?_; rintro e w1 ⟨rfl, hb1⟩) | (go_at_call 45; refine (isPlacing_any l who A A' c c' n _ ((H.out.below hb1 (Nat.le_refl _)).more hb1.size) ((H'.out.below hb1 (Nat.le_refl _)).more hb1.size) hl hl' hc' HP.out HN.out).mono ?_; rintro e w2 ⟨rfl, rfl⟩))
    go_ret
    exact ⟨ret_f (fun h => HP.out h.1), hb1⟩
end Go.Proofs.YtbfhfnejppfehaaDoor
