/-
  Contracts: prices that keep each bell with the person who rings it (both sides).
-/
import Derived.Test.YtpedfjcidbopiaaSkill
namespace Go.Proofs.Ytpedfjcidbopiaa
open Go.RowKit
set_option linter.unusedVariables false
set_option linter.unusedSimpArgs false
set_option maxRecDepth 100000

theorem RdL.ints {w : World} {b : Nat} {A : Option Addr} {l : List Int} (h : RdL w b A 1 encInt l) (hl : 0 < l.length) :
    ∃ g off, A = some ⟨g, off, none⟩ ∧ g < b ∧ ∀ (m : Nat) (hm : m < l.length), w.cell? ⟨g, off + m, none⟩ = some (.int .i64 l[m]) := by
  obtain ⟨g, off, hA, hg, _⟩ := h.at hl
  refine ⟨g, off, hA, hg, fun m hm => ?_⟩
  obtain ⟨g', off', hA', _, hcell⟩ := h.at hm
  rw [hA] at hA'
  simp only [Option.some.injEq, Addr.mk.injEq, and_true] at hA'
  obtain ⟨rfl, rfl⟩ := hA'
  have := hcell 0 _ rfl; rw [Nat.mul_one] at this; exact this
theorem people_cells {w : World} {b : Nat} {A : Option Addr} {D : List Psn} (h : RdL w b A 2 Psn.enc D) (hl : 0 < D.length) :
    ∃ g off, A = some ⟨g, off, none⟩ ∧ g < b ∧ ∀ (i : Nat) (hi : i < D.length), w.cell? ⟨g, off + i * 2, none⟩ = some (.string D[i].name) ∧ w.cell? ⟨g, off + i * 2 + 1, none⟩ = some (.slice D[i].A D[i].x.length D[i].c) := by
  obtain ⟨g, off, hA, hg, _⟩ := h.at hl
  refine ⟨g, off, hA, hg, fun m hm => ?_⟩
  obtain ⟨g', off', hA', _, hcell⟩ := h.at hm
  rw [hA] at hA'
  simp only [Option.some.injEq, Addr.mk.injEq, and_true] at hA'
  obtain ⟨rfl, rfl⟩ := hA'
  exact ⟨hcell 0 _ rfl, hcell 1 _ rfl⟩
def fairAt (l : List Pk) (who prices : List Int) (i b : Nat) : Prop := 0 < (skAt l i).getD b 0 → (skAt l i).getD b 0 - prices.getD i 0 ≤ skB l who b - prices.getD (who.getD b 0).toNat 0
def fairRow (l : List Pk) (who prices : List Int) (i : Nat) : Prop := (prices.getD i 0 ≠ 0 → hasUpTo who who.length i) ∧ ∀ b, b < who.length → fairAt l who prices i b
def fairP (l : List Pk) (who prices : List Int) : Prop := ∀ i, i < l.length → fairRow l who prices i





set_option maxHeartbeats 6400000 in
theorem l27Check_any (l : List Pk) (who prices : List Int) (A A' A3 : Option Addr) (c c' c3 : Nat) (n : Int) (w : World) (h : RdP w w.heap.size A l) (h' : RdL w w.heap.size A' 1 encInt who) (h3 : RdL w w.heap.size A3 1 encInt prices) (hl : l.length ≤ 1048576) (hl' : who.length ≤ 1048576) (hp : peopleP l n) (hn : (who.length : Int) = n) (hs : seatsP l who) (hpl : prices.length = l.length) (hpr : allIn prices 0 1000) :
    Calls Try.prog 59 #[.slice A l.length c, .slice A' who.length c', .slice A3 prices.length c3] w fun e w' => e = .returned (.bool (B (fairP l who prices))) ∧ Below w.heap.size w w' := by
  have hn7 : n ≤ 7 := hp.1.2
  have hn3 : 3 ≤ n := hp.1.1
  have hnl : n ≤ l.length := hp.2.1.1
  obtain ⟨D, rfl, hr, hi⟩ := h
  have hst : Hid (∀ (b : Nat) (hb : b < who.length), ∃ (i : Nat) (hi : i < D.length) (hx : b < D[i].x.length), who[b] = (i : Int) ∧ skB (D.map Psn.key) who b = D[i].x[b] ∧ D[i].x[b] ≤ 9 ∧ 0 ≤ D[i].x[b]) := Lib.hid (fun b hb => by
    obtain ⟨i, h1, h2, h3, h4, h5⟩ := seats_at hp hn hs hb
    have hi : i < D.length := by simpa using h1
    obtain ⟨h6, _⟩ := people_skill hp h1 (b := b) (by omega)
    have hx : b < D[i].x.length := by rw [skAt_key hi] at h6; exact h6
    have he : skB (D.map Psn.key) who b = D[i].x[b] := by rw [h3, skAt_key hi]; simp [hx]
    exact ⟨i, hi, hx, h2, he, by rw [← he]; exact h5, by rw [← he]; omega⟩)
  have hsk : Hid (∀ (i : Nat) (hi : i < D.length), (D[i].x.length : Int) = n) := Lib.hid (fun i hi => by have := hp.sk (i := i) (by simpa using hi); rw [skAt_key hi] at this; exact this)
  have hs9 : Hid (∀ (i b : Nat) (hi : i < D.length) (hb : b < D[i].x.length), 0 ≤ D[i].x[b] ∧ D[i].x[b] ≤ 9) := Lib.hid (fun i b hi hb => by
    have hl : (D[i].x.length : Int) = n := hsk.out i hi
    obtain ⟨h6, h7, h8⟩ := people_skill hp (i := i) (b := b) (by simpa using hi) (by omega)
    simp only [skAt_key hi] at h7 h8
    exact ⟨h7, h8⟩)
  have hfr : Hid (∀ i (hi : i < D.length), fairRow (D.map Psn.key) who prices i ↔ (prices[i]'(by simpa [hpl] using hi) ≠ 0 → hasUpTo who who.length i) ∧ ∀ b, b < who.length → fairAt (D.map Psn.key) who prices i b) := Lib.hid (fun i hi => by
    have : i < prices.length := by simpa [hpl] using hi
    simp [fairRow, this])
  have hpr9 : Hid (∀ (i : Nat) (hi : i < prices.length), 0 ≤ prices[i] ∧ prices[i] ≤ 1000) := Lib.hid (fun i hi => hpr _ (List.getElem_mem hi))
  have hfP : Hid (fairP (D.map Psn.key) who prices ↔ ∀ i, i < D.length → fairRow (D.map Psn.key) who prices i) := Lib.hid (by simp [fairP])
  rw [List.length_map] at hl hpl hnl ⊢
  obtain ⟨g, off, rfl, hg, hcd⟩ := people_cells hr (by omega)
  have H' := Lib.hid h'
  obtain ⟨gw, offw, rfl, hgw, hcw⟩ := h'.ints (by omega)
  obtain ⟨gp, offp, rfl, hgp, hcp⟩ := h3.ints (by omega)
  have Hi := Lib.hid hi
  have Hcd := Lib.hid hcd
  have Hcw := Lib.hid hcw
  have Hcp := Lib.hid hcp
  rw [hpl]
  have Hpl := Lib.hid hpl
  have Hwn := Lib.hid hn
  clear hr hi h' h3 hp hs hpr hcd hcw hcp hpl hn
  go_enter Try.func59, Try.ntmps59
  go_wp2
  go_loopw [13] (fun i wr => ∃ k : Nat, k ≤ D.length ∧ i = .int .i64 k ∧ (∀ i, i < k → fairRow (D.map Psn.key) who prices i) ∧ Below w.heap.size w wr) (fun i _ => D.length - (intOf i).toNat)
  case atStart => exact ⟨0, by omega, by rfl, fun j h => by omega, Below.refl _ _⟩
  case round =>
    obtain ⟨k, hk, rfl, hq, hb0⟩ := hrel
    have Hp := Lib.hid hq
    have Hb0 := Lib.hid hb0
    have hg0 := hb0.size
    clear hq hb0
    by_cases hlt : k < D.length
    · have hltp : k < prices.length := by rw [Hpl.out]; exact hlt
      have rp := (Hb0.out.cell (p := ⟨gp, offp + k, none⟩) hgp).trans (Hcp.out k hltp)
      obtain ⟨hp0, hp9⟩ := hpr9.out k hltp
      have H2 : Hid (RdL wr wr.heap.size (some ⟨gw, offw, none⟩) 1 encInt who) := Lib.hid ((H'.out.below Hb0.out (Nat.le_refl _)).more hg0)
      have hfk := hfr.out k hlt
      have Hfk := Lib.hid hfk
      clear hfk
      by_cases c1 : hasUpTo who who.length k
      · have f1 := B_t c1
        have hpz : Hid (prices[k] ≠ 0 → hasUpTo who who.length k) := Lib.hid (fun _ => c1)
        clear c1 Hfk
        go_wp2_with (go_at_call 99; refine (l1Has_any who who.length (Nat.le_refl _) _ _ _ _ H2.out (by omega)).mono ?_; rintro e w' ⟨rfl, rfl⟩)
        clear rp
        obtain ⟨wo, rfl⟩ : ∃ wo, wo = wr := ⟨wr, rfl⟩
        go_loopw [29] (fun i wr => ∃ m : Nat, m ≤ who.length ∧ i = .int .i64 m ∧ (∀ b, b < m → fairAt (D.map Psn.key) who prices k b) ∧ Below wo.heap.size wo wr) (fun i _ => who.length - (intOf i).toNat)
        case atStart => exact ⟨0, by omega, by rfl, fun j h => by omega, Below.refl _ _⟩
        case round =>
          obtain ⟨m, hm, rfl, hq, hbi⟩ := hrel
          have Hq := Lib.hid hq
          have Hbi := Lib.hid hbi
          have hgi := hbi.size
          have Hbl : Hid (Below w.heap.size w wr) := Lib.hid (Hb0.out.trans (hbi.mono hg0))
          clear hq hbi
          by_cases hmw : m < who.length
          · obtain ⟨j, hj, hxj, hwj, hskb, hj9, hj0⟩ := hst.out m hmw
            have hjp : j < prices.length := by rw [Hpl.out]; exact hj
            have hxk : m < D[k].x.length := by have := hsk.out k hlt; have := Hwn.out; omega
            obtain ⟨hk0, hk9⟩ := hs9.out k m hlt hxk
            obtain ⟨hp0, hp9⟩ := hpr9.out k hltp
            obtain ⟨hq0, hq9⟩ := hpr9.out j hjp
            have sw := (Hbl.out.cell (p := ⟨gw, offw + m, none⟩) hgw).trans (Hcw.out m hmw)
            rw [hwj] at sw
            have r1 := (Hbl.out.cell (p := ⟨g, off + k * 2 + 1, none⟩) hg).trans (Hcd.out k hlt).2
            have q1 := (Hbl.out.cell (p := ⟨g, off + j * 2 + 1, none⟩) hg).trans (Hcd.out j hj).2
            have pk := (Hbl.out.cell (p := ⟨gp, offp + k, none⟩) hgp).trans (Hcp.out k hltp)
            have pj := (Hbl.out.cell (p := ⟨gp, offp + j, none⟩) hgp).trans (Hcp.out j hjp)
            obtain ⟨g3, off3, hA3, hg3, hc3⟩ := (Hi.out _ (List.getElem_mem hlt)).ints (Nat.lt_of_le_of_lt (Nat.zero_le m) hxk)
            obtain ⟨g4, off4, hA4, hg4, hc4⟩ := (Hi.out _ (List.getElem_mem hj)).ints (Nat.lt_of_le_of_lt (Nat.zero_le m) hxj)
            have s0 := (Hbl.out.cell (p := ⟨g3, off3 + m, none⟩) hg3).trans (hc3 m hxk)
            have s1 := (Hbl.out.cell (p := ⟨g4, off4 + m, none⟩) hg4).trans (hc4 m hxj)
            rw [hA3] at r1
            rw [hA4] at q1
            have hfa : Hid (fairAt (D.map Psn.key) who prices k m ↔ (0 < D[k].x[m] → D[k].x[m] - prices[k] ≤ D[j].x[m] - prices[j])) := Lib.hid (by unfold fairAt; rw [skAt_key hlt, hskb]; simp [hxk, hmw, hltp, hjp, hwj])
            clear hc3 hc4 hskb hwj
            generalize prices[k] = pkv at pk hp0 hp9 hfa
            generalize prices[j] = pjv at pj hq0 hq9 hfa
            generalize D[k].x[m] = sv at s0 hk0 hk9 hfa
            generalize D[j].x[m] = tv at s1 hj0 hj9 hfa
            obtain ⟨x, hx⟩ : ∃ x, Hid (D[k] = x) := ⟨_, Lib.hid rfl⟩
            obtain ⟨y, hy⟩ : ∃ y, Hid (D[j] = y) := ⟨_, Lib.hid rfl⟩
            rw [hx.out] at r1 hxk hA3
            rw [hy.out] at q1 hxj
            by_cases d1 : 0 < sv
            · by_cases d2 : tv - pjv < sv - pkv
              · have e1 : decide (0 < sv) = true := decide_eq_true d1
                have e2 : decide (tv - pjv < sv - pkv) = true := decide_eq_true d2
                have hno : Hid (¬ fairAt (D.map Psn.key) who prices k m) := Lib.hid (fun hh => by have := hfa.out.1 hh d1; omega)
                go_wp2
                go_quiet (fail)
                go_wp2
                go_ret
                exact ⟨ret_f (fun hh => hno.out ((hfP.out.1 hh k hlt).2 m hmw)), below_drewN Hbl.out _⟩
              · have e1 : decide (0 < sv) = true := decide_eq_true d1
                have e2 : decide (tv - pjv < sv - pkv) = false := decide_eq_false d2
                have hye : Hid (fairAt (D.map Psn.key) who prices k m) := Lib.hid (hfa.out.2 (fun _ => by omega))
                go_wp2
                go_quiet (fail)
                go_wp2
                go_roundw
                case rel =>
                  refine ⟨m + 1, by omega, by go_num, fun b hb => ?_, below_drewN Hbi.out _⟩
                  rcases Nat.lt_or_eq_of_le (Nat.le_of_lt_succ hb) with h' | rfl
                  · exact Hq.out b h'
                  · exact hye.out
                case measure => simp [intOf]; omega
            · have e1 : decide (0 < sv) = false := decide_eq_false d1
              have hye : Hid (fairAt (D.map Psn.key) who prices k m) := Lib.hid (hfa.out.2 (fun hh => absurd hh d1))
              go_wp2
              go_quiet (fail)
              go_wp2
              go_roundw
              case rel =>
                refine ⟨m + 1, by omega, by go_num, fun b hb => ?_, below_drewN Hbi.out _⟩
                rcases Nat.lt_or_eq_of_le (Nat.le_of_lt_succ hb) with h' | rfl
                · exact Hq.out b h'
                · exact hye.out
              case measure => simp [intOf]; omega
          · obtain rfl : m = who.length := by omega
            go_wp2
            go_roundw
            case rel =>
              refine ⟨k + 1, by omega, by go_num, fun i hi => ?_, Hbl.out⟩
              rcases Nat.lt_or_eq_of_le (Nat.le_of_lt_succ hi) with h' | rfl
              · exact Hp.out i h'
              · exact (hfr.out i hlt).2 ⟨hpz.out, Hq.out⟩
            case measure => simp [intOf]; omega
      · have f1 := B_f c1
        by_cases c2 : 0 < prices[k]
        · have hno : Hid (¬ fairRow (D.map Psn.key) who prices k) := Lib.hid (fun hh => c1 ((Hfk.out.1 hh).1 (by omega)))
          clear c1 Hfk
          generalize prices[k] = pv at rp c2 hp0 hp9
          go_wp2_with (go_at_call 99; refine (l1Has_any who who.length (Nat.le_refl _) _ _ _ _ H2.out (by omega)).mono ?_; rintro e w' ⟨rfl, rfl⟩)
          go_ret
          exact ⟨ret_f (fun hh => hno.out (hfP.out.1 hh k hlt)), Hb0.out⟩
        · have hpz : Hid (prices[k] ≠ 0 → hasUpTo who who.length k) := Lib.hid (fun hh => absurd (show prices[k] = 0 by omega) hh)
          clear c1 Hfk
          generalize prices[k] = pv at rp c2 hp0 hp9
          go_wp2_with (go_at_call 99; refine (l1Has_any who who.length (Nat.le_refl _) _ _ _ _ H2.out (by omega)).mono ?_; rintro e w' ⟨rfl, rfl⟩)
          clear rp
          obtain ⟨wo, rfl⟩ : ∃ wo, wo = wr := ⟨wr, rfl⟩
          go_loopw [29] (fun i wr => ∃ m : Nat, m ≤ who.length ∧ i = .int .i64 m ∧ (∀ b, b < m → fairAt (D.map Psn.key) who prices k b) ∧ Below wo.heap.size wo wr) (fun i _ => who.length - (intOf i).toNat)
          case atStart => exact ⟨0, by omega, by rfl, fun j h => by omega, Below.refl _ _⟩
          case round =>
            obtain ⟨m, hm, rfl, hq, hbi⟩ := hrel
            have Hq := Lib.hid hq
            have Hbi := Lib.hid hbi
            have hgi := hbi.size
            have Hbl : Hid (Below w.heap.size w wr) := Lib.hid (Hb0.out.trans (hbi.mono hg0))
            clear hq hbi
            by_cases hmw : m < who.length
            · obtain ⟨j, hj, hxj, hwj, hskb, hj9, hj0⟩ := hst.out m hmw
              have hjp : j < prices.length := by rw [Hpl.out]; exact hj
              have hxk : m < D[k].x.length := by have := hsk.out k hlt; have := Hwn.out; omega
              obtain ⟨hk0, hk9⟩ := hs9.out k m hlt hxk
              obtain ⟨hp0, hp9⟩ := hpr9.out k hltp
              obtain ⟨hq0, hq9⟩ := hpr9.out j hjp
              have sw := (Hbl.out.cell (p := ⟨gw, offw + m, none⟩) hgw).trans (Hcw.out m hmw)
              rw [hwj] at sw
              have r1 := (Hbl.out.cell (p := ⟨g, off + k * 2 + 1, none⟩) hg).trans (Hcd.out k hlt).2
              have q1 := (Hbl.out.cell (p := ⟨g, off + j * 2 + 1, none⟩) hg).trans (Hcd.out j hj).2
              have pk := (Hbl.out.cell (p := ⟨gp, offp + k, none⟩) hgp).trans (Hcp.out k hltp)
              have pj := (Hbl.out.cell (p := ⟨gp, offp + j, none⟩) hgp).trans (Hcp.out j hjp)
              obtain ⟨g3, off3, hA3, hg3, hc3⟩ := (Hi.out _ (List.getElem_mem hlt)).ints (Nat.lt_of_le_of_lt (Nat.zero_le m) hxk)
              obtain ⟨g4, off4, hA4, hg4, hc4⟩ := (Hi.out _ (List.getElem_mem hj)).ints (Nat.lt_of_le_of_lt (Nat.zero_le m) hxj)
              have s0 := (Hbl.out.cell (p := ⟨g3, off3 + m, none⟩) hg3).trans (hc3 m hxk)
              have s1 := (Hbl.out.cell (p := ⟨g4, off4 + m, none⟩) hg4).trans (hc4 m hxj)
              rw [hA3] at r1
              rw [hA4] at q1
              have hfa : Hid (fairAt (D.map Psn.key) who prices k m ↔ (0 < D[k].x[m] → D[k].x[m] - prices[k] ≤ D[j].x[m] - prices[j])) := Lib.hid (by unfold fairAt; rw [skAt_key hlt, hskb]; simp [hxk, hmw, hltp, hjp, hwj])
              clear hc3 hc4 hskb hwj
              generalize prices[k] = pkv at pk hp0 hp9 hfa
              generalize prices[j] = pjv at pj hq0 hq9 hfa
              generalize D[k].x[m] = sv at s0 hk0 hk9 hfa
              generalize D[j].x[m] = tv at s1 hj0 hj9 hfa
              obtain ⟨x, hx⟩ : ∃ x, Hid (D[k] = x) := ⟨_, Lib.hid rfl⟩
              obtain ⟨y, hy⟩ : ∃ y, Hid (D[j] = y) := ⟨_, Lib.hid rfl⟩
              rw [hx.out] at r1 hxk hA3
              rw [hy.out] at q1 hxj
              by_cases d1 : 0 < sv
              · by_cases d2 : tv - pjv < sv - pkv
                · have e1 : decide (0 < sv) = true := decide_eq_true d1
                  have e2 : decide (tv - pjv < sv - pkv) = true := decide_eq_true d2
                  have hno : Hid (¬ fairAt (D.map Psn.key) who prices k m) := Lib.hid (fun hh => by have := hfa.out.1 hh d1; omega)
                  go_wp2
                  go_quiet (fail)
                  go_wp2
                  go_ret
                  exact ⟨ret_f (fun hh => hno.out ((hfP.out.1 hh k hlt).2 m hmw)), below_drewN Hbl.out _⟩
                · have e1 : decide (0 < sv) = true := decide_eq_true d1
                  have e2 : decide (tv - pjv < sv - pkv) = false := decide_eq_false d2
                  have hye : Hid (fairAt (D.map Psn.key) who prices k m) := Lib.hid (hfa.out.2 (fun _ => by omega))
                  go_wp2
                  go_quiet (fail)
                  go_wp2
                  go_roundw
                  case rel =>
                    refine ⟨m + 1, by omega, by go_num, fun b hb => ?_, below_drewN Hbi.out _⟩
                    rcases Nat.lt_or_eq_of_le (Nat.le_of_lt_succ hb) with h' | rfl
                    · exact Hq.out b h'
                    · exact hye.out
                  case measure => simp [intOf]; omega
              · have e1 : decide (0 < sv) = false := decide_eq_false d1
                have hye : Hid (fairAt (D.map Psn.key) who prices k m) := Lib.hid (hfa.out.2 (fun hh => absurd hh d1))
                go_wp2
                go_quiet (fail)
                go_wp2
                go_roundw
                case rel =>
                  refine ⟨m + 1, by omega, by go_num, fun b hb => ?_, below_drewN Hbi.out _⟩
                  rcases Nat.lt_or_eq_of_le (Nat.le_of_lt_succ hb) with h' | rfl
                  · exact Hq.out b h'
                  · exact hye.out
                case measure => simp [intOf]; omega
            · obtain rfl : m = who.length := by omega
              go_wp2
              go_roundw
              case rel =>
                refine ⟨k + 1, by omega, by go_num, fun i hi => ?_, Hbl.out⟩
                rcases Nat.lt_or_eq_of_le (Nat.le_of_lt_succ hi) with h' | rfl
                · exact Hp.out i h'
                · exact (hfr.out i hlt).2 ⟨hpz.out, Hq.out⟩
              case measure => simp [intOf]; omega
    · obtain rfl : k = D.length := by omega
      go_wp2
      go_ret
      exact ⟨ret_t (hfP.out.2 Hp.out), Hb0.out⟩



set_option maxHeartbeats 6400000 in
theorem fair_any (l : List Pk) (who prices : List Int) (A A' A3 : Option Addr) (c c' c3 : Nat) (n : Int) (w : World) (h : RdP w w.heap.size A l) (h' : RdL w w.heap.size A' 1 encInt who) (h3 : RdL w w.heap.size A3 1 encInt prices) (hl : l.length ≤ 1048576) (hl' : who.length ≤ 1048576) (hp : peopleP l n) (hn : (who.length : Int) = n) (hs : seatsP l who) (hpl : prices.length = l.length) (hpr : allIn prices 0 1000) :
    Calls Try.prog 51 #[.slice A l.length c, .slice A' who.length c', .slice A3 prices.length c3] w fun e w' => e = .returned (.bool (B (fairP l who prices))) ∧ Below w.heap.size w w' := by
  have hn7 : n ≤ 7 := hp.1.2
  have hn3 : 3 ≤ n := hp.1.1
  have hnl : n ≤ l.length := hp.2.1.1
  obtain ⟨D, rfl, hr, hi⟩ := h
  have hst : Hid (∀ (b : Nat) (hb : b < who.length), ∃ (i : Nat) (hi : i < D.length) (hx : b < D[i].x.length), who[b] = (i : Int) ∧ skB (D.map Psn.key) who b = D[i].x[b] ∧ D[i].x[b] ≤ 9 ∧ 0 ≤ D[i].x[b]) := Lib.hid (fun b hb => by
    obtain ⟨i, h1, h2, h3, h4, h5⟩ := seats_at hp hn hs hb
    have hi : i < D.length := by simpa using h1
    obtain ⟨h6, _⟩ := people_skill hp h1 (b := b) (by omega)
    have hx : b < D[i].x.length := by rw [skAt_key hi] at h6; exact h6
    have he : skB (D.map Psn.key) who b = D[i].x[b] := by rw [h3, skAt_key hi]; simp [hx]
    exact ⟨i, hi, hx, h2, he, by rw [← he]; exact h5, by rw [← he]; omega⟩)
  have hsk : Hid (∀ (i : Nat) (hi : i < D.length), (D[i].x.length : Int) = n) := Lib.hid (fun i hi => by have := hp.sk (i := i) (by simpa using hi); rw [skAt_key hi] at this; exact this)
  have hs9 : Hid (∀ (i b : Nat) (hi : i < D.length) (hb : b < D[i].x.length), 0 ≤ D[i].x[b] ∧ D[i].x[b] ≤ 9) := Lib.hid (fun i b hi hb => by
    have hl : (D[i].x.length : Int) = n := hsk.out i hi
    obtain ⟨h6, h7, h8⟩ := people_skill hp (i := i) (b := b) (by simpa using hi) (by omega)
    simp only [skAt_key hi] at h7 h8
    exact ⟨h7, h8⟩)
  have hfr : Hid (∀ i (hi : i < D.length), fairRow (D.map Psn.key) who prices i ↔ (prices[i]'(by simpa [hpl] using hi) ≠ 0 → hasUpTo who who.length i) ∧ ∀ b, b < who.length → fairAt (D.map Psn.key) who prices i b) := Lib.hid (fun i hi => by
    have : i < prices.length := by simpa [hpl] using hi
    simp [fairRow, this])
  have hpr9 : Hid (∀ (i : Nat) (hi : i < prices.length), 0 ≤ prices[i] ∧ prices[i] ≤ 1000) := Lib.hid (fun i hi => hpr _ (List.getElem_mem hi))
  have hfP : Hid (fairP (D.map Psn.key) who prices ↔ ∀ i, i < D.length → fairRow (D.map Psn.key) who prices i) := Lib.hid (by simp [fairP])
  rw [List.length_map] at hl hpl hnl ⊢
  obtain ⟨g, off, rfl, hg, hcd⟩ := people_cells hr (by omega)
  have H' := Lib.hid h'
  obtain ⟨gw, offw, rfl, hgw, hcw⟩ := h'.ints (by omega)
  obtain ⟨gp, offp, rfl, hgp, hcp⟩ := h3.ints (by omega)
  have Hi := Lib.hid hi
  have Hcd := Lib.hid hcd
  have Hcw := Lib.hid hcw
  have Hcp := Lib.hid hcp
  rw [hpl]
  have Hpl := Lib.hid hpl
  have Hwn := Lib.hid hn
  clear hr hi h' h3 hp hs hpr hcd hcw hcp hpl hn
  go_enter Try.func51, Try.ntmps51
  go_wp2
  go_loopw [14] (fun i wr => ∃ k : Nat, k ≤ D.length ∧ i = .int .i64 k ∧ (∀ i, i < k → fairRow (D.map Psn.key) who prices i) ∧ Below w.heap.size w wr) (fun i _ => D.length - (intOf i).toNat)
  case atStart => exact ⟨0, by omega, by rfl, fun j h => by omega, Below.refl _ _⟩
  case round =>
    obtain ⟨k, hk, rfl, hq, hb0⟩ := hrel
    have Hp := Lib.hid hq
    have Hb0 := Lib.hid hb0
    have hg0 := hb0.size
    clear hq hb0
    by_cases hlt : k < D.length
    · have hltp : k < prices.length := by rw [Hpl.out]; exact hlt
      have r0 := (Hb0.out.cell (p := ⟨g, off + k * 2, none⟩) hg).trans (Hcd.out k hlt).1
      have r1 := (Hb0.out.cell (p := ⟨g, off + k * 2 + 1, none⟩) hg).trans (Hcd.out k hlt).2
      have hxn := hsk.out k hlt
      obtain ⟨g3, off3, hA3, hg3, hc3⟩ := (Hi.out _ (List.getElem_mem hlt)).ints (show 0 < D[k].x.length by omega)
      rw [hA3] at r1
      have Hc3 := Lib.hid hc3
      clear hc3 hA3
      obtain ⟨x, hx⟩ : ∃ x, Hid (D[k] = x) := ⟨_, Lib.hid rfl⟩
      rw [hx.out] at r0 r1 hxn
      have Hwl : Hid (x.x.length = who.length) := Lib.hid (by have := Hwn.out; omega)
      have hxm : x.x.length ≤ 7 := by omega
      clear hxn
      have Hb1 : Hid (Below w.heap.size w (wr.alloc (.cells #[.string x.name, .slice (some ⟨g3, off3, none⟩) x.x.length x.c] 82))) := Lib.hid (Hb0.out.alloc hg0 _)
      have rp := (Hb1.out.cell (p := ⟨gp, offp + k, none⟩) hgp).trans (Hcp.out k hltp)
      obtain ⟨hp0, hp9⟩ := hpr9.out k hltp
      have H2 : Hid (RdL (wr.alloc (.cells #[.string x.name, .slice (some ⟨g3, off3, none⟩) x.x.length x.c] 82)) (wr.alloc (.cells #[.string x.name, .slice (some ⟨g3, off3, none⟩) x.x.length x.c] 82)).heap.size (some ⟨gw, offw, none⟩) 1 encInt who) := Lib.hid ((H'.out.below Hb1.out (Nat.le_refl _)).more Hb1.out.size)
      have hfk := hfr.out k hlt
      have Hfk := Lib.hid hfk
      clear hfk
      by_cases c1 : hasUpTo who who.length k
      · have f1 := B_t c1
        have hpz : Hid (prices[k] ≠ 0 → hasUpTo who who.length k) := Lib.hid (fun _ => c1)
        clear c1 Hfk
        generalize prices[k] = pv at rp hp0 hp9
        by_cases c2 : pv = 0
        · subst c2
          go_wp2_with (go_at_call 98; refine (containsInt_any who who.length (Nat.le_refl _) _ _ _ _ H2.out (by omega)).mono ?_; rintro e w' ⟨rfl, rfl⟩)
          clear rp r0 r1 H2
          have hg1 := Hb1.out.size
          clear Hb0 hg0
          generalize wr.alloc (.cells #[.string x.name, .slice (some ⟨g3, off3, none⟩) x.x.length x.c] 82) = wo at *
          generalize wr.heap.size = gx at *
          go_loopw [33] (fun i wr => ∃ m : Nat, m ≤ x.x.length ∧ i = .int .i64 m ∧ (∀ b, b < m → fairAt (D.map Psn.key) who prices k b) ∧ Below wo.heap.size wo wr) (fun i _ => x.x.length - (intOf i).toNat)
          case atStart => exact ⟨0, by omega, by rfl, fun j h => by omega, Below.refl _ _⟩
          case round =>
            obtain ⟨m, hm, rfl, hq, hbi⟩ := hrel
            have Hq := Lib.hid hq
            have Hbi := Lib.hid hbi
            have hgi := hbi.size
            have Hbl : Hid (Below w.heap.size w wr) := Lib.hid (Hb1.out.trans (hbi.mono hg1))
            clear hq hbi
            by_cases hmw : m < who.length
            · obtain ⟨j, hj, hxj, hwj, hskb, hj9, hj0⟩ := hst.out m hmw
              have hjp : j < prices.length := by rw [Hpl.out]; exact hj
              have hxk : m < D[k].x.length := by have := hsk.out k hlt; have := Hwn.out; omega
              obtain ⟨hk0, hk9⟩ := hs9.out k m hlt hxk
              obtain ⟨hp0, hp9⟩ := hpr9.out k hltp
              obtain ⟨hq0, hq9⟩ := hpr9.out j hjp
              have sw := (Hbl.out.cell (p := ⟨gw, offw + m, none⟩) hgw).trans (Hcw.out m hmw)
              rw [hwj] at sw
              have q1 := (Hbl.out.cell (p := ⟨g, off + j * 2 + 1, none⟩) hg).trans (Hcd.out j hj).2
              have pk := (Hbl.out.cell (p := ⟨gp, offp + k, none⟩) hgp).trans (Hcp.out k hltp)
              have pj := (Hbl.out.cell (p := ⟨gp, offp + j, none⟩) hgp).trans (Hcp.out j hjp)
              obtain ⟨g4, off4, hA4, hg4, hc4⟩ := (Hi.out _ (List.getElem_mem hj)).ints (Nat.lt_of_le_of_lt (Nat.zero_le m) hxj)
              have s0 := (Hbl.out.cell (p := ⟨g3, off3 + m, none⟩) hg3).trans (Hc3.out m hxk)
              have s1 := (Hbl.out.cell (p := ⟨g4, off4 + m, none⟩) hg4).trans (hc4 m hxj)
              rw [hA4] at q1
              have hfa : Hid (fairAt (D.map Psn.key) who prices k m ↔ (0 < D[k].x[m] → D[k].x[m] - prices[k] ≤ D[j].x[m] - prices[j])) := Lib.hid (by unfold fairAt; rw [skAt_key hlt, hskb]; simp [hxk, hmw, hltp, hjp, hwj])
              clear hc4 hskb hwj
              generalize prices[k] = pkv at pk hp0 hp9 hfa
              generalize prices[j] = pjv at pj hq0 hq9 hfa
              generalize D[k].x[m] = sv at s0 hk0 hk9 hfa
              generalize D[j].x[m] = tv at s1 hj0 hj9 hfa
              obtain ⟨y, hy⟩ : ∃ y, Hid (D[j] = y) := ⟨_, Lib.hid rfl⟩
              rw [hx.out] at hxk
              rw [hy.out] at q1 hxj
              by_cases d1 : 0 < sv
              · by_cases d2 : tv - pjv < sv - pkv
                · have e1 : decide (0 < sv) = true := decide_eq_true d1
                  have e2 : decide (tv - pjv < sv - pkv) = true := decide_eq_true d2
                  have hno : Hid (¬ fairAt (D.map Psn.key) who prices k m) := Lib.hid (fun hh => by have := hfa.out.1 hh d1; omega)
                  go_wp2
                  go_quiet (fail)
                  go_wp2
                  go_ret
                  exact ⟨ret_f (fun hh => hno.out ((hfP.out.1 hh k hlt).2 m hmw)), below_drewN Hbl.out _⟩
                · have e1 : decide (0 < sv) = true := decide_eq_true d1
                  have e2 : decide (tv - pjv < sv - pkv) = false := decide_eq_false d2
                  have hye : Hid (fairAt (D.map Psn.key) who prices k m) := Lib.hid (hfa.out.2 (fun _ => by omega))
                  go_wp2
                  go_quiet (fail)
                  go_wp2
                  go_roundw
                  case rel =>
                    refine ⟨m + 1, by omega, by go_num, fun b hb => ?_, below_drewN Hbi.out _⟩
                    rcases Nat.lt_or_eq_of_le (Nat.le_of_lt_succ hb) with h' | rfl
                    · exact Hq.out b h'
                    · exact hye.out
                  case measure => simp [intOf]; omega
              · have e1 : decide (0 < sv) = false := decide_eq_false d1
                have hye : Hid (fairAt (D.map Psn.key) who prices k m) := Lib.hid (hfa.out.2 (fun hh => absurd hh d1))
                go_wp2
                go_quiet (fail)
                go_wp2
                go_roundw
                case rel =>
                  refine ⟨m + 1, by omega, by go_num, fun b hb => ?_, below_drewN Hbi.out _⟩
                  rcases Nat.lt_or_eq_of_le (Nat.le_of_lt_succ hb) with h' | rfl
                  · exact Hq.out b h'
                  · exact hye.out
                case measure => simp [intOf]; omega
            · have hmx : m = x.x.length := by have := Hwl.out; omega
              subst hmx
              go_wp2
              go_roundw
              case rel =>
                refine ⟨k + 1, by omega, by go_num, fun i hi => ?_, Hbl.out⟩
                rcases Nat.lt_or_eq_of_le (Nat.le_of_lt_succ hi) with h' | rfl
                · exact Hp.out i h'
                · exact (hfr.out i hlt).2 ⟨hpz.out, fun b hb => Hq.out b (by rw [Hwl.out]; exact hb)⟩
              case measure => simp [intOf]; omega
        · go_wp2_with (go_at_call 98; refine (containsInt_any who who.length (Nat.le_refl _) _ _ _ _ H2.out (by omega)).mono ?_; rintro e w' ⟨rfl, rfl⟩)
          clear rp r0 r1 H2
          have hg1 := Hb1.out.size
          clear Hb0 hg0
          generalize wr.alloc (.cells #[.string x.name, .slice (some ⟨g3, off3, none⟩) x.x.length x.c] 82) = wo at *
          generalize wr.heap.size = gx at *
          go_loopw [33] (fun i wr => ∃ m : Nat, m ≤ x.x.length ∧ i = .int .i64 m ∧ (∀ b, b < m → fairAt (D.map Psn.key) who prices k b) ∧ Below wo.heap.size wo wr) (fun i _ => x.x.length - (intOf i).toNat)
          case atStart => exact ⟨0, by omega, by rfl, fun j h => by omega, Below.refl _ _⟩
          case round =>
            obtain ⟨m, hm, rfl, hq, hbi⟩ := hrel
            have Hq := Lib.hid hq
            have Hbi := Lib.hid hbi
            have hgi := hbi.size
            have Hbl : Hid (Below w.heap.size w wr) := Lib.hid (Hb1.out.trans (hbi.mono hg1))
            clear hq hbi
            by_cases hmw : m < who.length
            · obtain ⟨j, hj, hxj, hwj, hskb, hj9, hj0⟩ := hst.out m hmw
              have hjp : j < prices.length := by rw [Hpl.out]; exact hj
              have hxk : m < D[k].x.length := by have := hsk.out k hlt; have := Hwn.out; omega
              obtain ⟨hk0, hk9⟩ := hs9.out k m hlt hxk
              obtain ⟨hp0, hp9⟩ := hpr9.out k hltp
              obtain ⟨hq0, hq9⟩ := hpr9.out j hjp
              have sw := (Hbl.out.cell (p := ⟨gw, offw + m, none⟩) hgw).trans (Hcw.out m hmw)
              rw [hwj] at sw
              have q1 := (Hbl.out.cell (p := ⟨g, off + j * 2 + 1, none⟩) hg).trans (Hcd.out j hj).2
              have pk := (Hbl.out.cell (p := ⟨gp, offp + k, none⟩) hgp).trans (Hcp.out k hltp)
              have pj := (Hbl.out.cell (p := ⟨gp, offp + j, none⟩) hgp).trans (Hcp.out j hjp)
              obtain ⟨g4, off4, hA4, hg4, hc4⟩ := (Hi.out _ (List.getElem_mem hj)).ints (Nat.lt_of_le_of_lt (Nat.zero_le m) hxj)
              have s0 := (Hbl.out.cell (p := ⟨g3, off3 + m, none⟩) hg3).trans (Hc3.out m hxk)
              have s1 := (Hbl.out.cell (p := ⟨g4, off4 + m, none⟩) hg4).trans (hc4 m hxj)
              rw [hA4] at q1
              have hfa : Hid (fairAt (D.map Psn.key) who prices k m ↔ (0 < D[k].x[m] → D[k].x[m] - prices[k] ≤ D[j].x[m] - prices[j])) := Lib.hid (by unfold fairAt; rw [skAt_key hlt, hskb]; simp [hxk, hmw, hltp, hjp, hwj])
              clear hc4 hskb hwj
              generalize prices[k] = pkv at pk hp0 hp9 hfa
              generalize prices[j] = pjv at pj hq0 hq9 hfa
              generalize D[k].x[m] = sv at s0 hk0 hk9 hfa
              generalize D[j].x[m] = tv at s1 hj0 hj9 hfa
              obtain ⟨y, hy⟩ : ∃ y, Hid (D[j] = y) := ⟨_, Lib.hid rfl⟩
              rw [hx.out] at hxk
              rw [hy.out] at q1 hxj
              by_cases d1 : 0 < sv
              · by_cases d2 : tv - pjv < sv - pkv
                · have e1 : decide (0 < sv) = true := decide_eq_true d1
                  have e2 : decide (tv - pjv < sv - pkv) = true := decide_eq_true d2
                  have hno : Hid (¬ fairAt (D.map Psn.key) who prices k m) := Lib.hid (fun hh => by have := hfa.out.1 hh d1; omega)
                  go_wp2
                  go_quiet (fail)
                  go_wp2
                  go_ret
                  exact ⟨ret_f (fun hh => hno.out ((hfP.out.1 hh k hlt).2 m hmw)), below_drewN Hbl.out _⟩
                · have e1 : decide (0 < sv) = true := decide_eq_true d1
                  have e2 : decide (tv - pjv < sv - pkv) = false := decide_eq_false d2
                  have hye : Hid (fairAt (D.map Psn.key) who prices k m) := Lib.hid (hfa.out.2 (fun _ => by omega))
                  go_wp2
                  go_quiet (fail)
                  go_wp2
                  go_roundw
                  case rel =>
                    refine ⟨m + 1, by omega, by go_num, fun b hb => ?_, below_drewN Hbi.out _⟩
                    rcases Nat.lt_or_eq_of_le (Nat.le_of_lt_succ hb) with h' | rfl
                    · exact Hq.out b h'
                    · exact hye.out
                  case measure => simp [intOf]; omega
              · have e1 : decide (0 < sv) = false := decide_eq_false d1
                have hye : Hid (fairAt (D.map Psn.key) who prices k m) := Lib.hid (hfa.out.2 (fun hh => absurd hh d1))
                go_wp2
                go_quiet (fail)
                go_wp2
                go_roundw
                case rel =>
                  refine ⟨m + 1, by omega, by go_num, fun b hb => ?_, below_drewN Hbi.out _⟩
                  rcases Nat.lt_or_eq_of_le (Nat.le_of_lt_succ hb) with h' | rfl
                  · exact Hq.out b h'
                  · exact hye.out
                case measure => simp [intOf]; omega
            · have hmx : m = x.x.length := by have := Hwl.out; omega
              subst hmx
              go_wp2
              go_roundw
              case rel =>
                refine ⟨k + 1, by omega, by go_num, fun i hi => ?_, Hbl.out⟩
                rcases Nat.lt_or_eq_of_le (Nat.le_of_lt_succ hi) with h' | rfl
                · exact Hp.out i h'
                · exact (hfr.out i hlt).2 ⟨hpz.out, fun b hb => Hq.out b (by rw [Hwl.out]; exact hb)⟩
              case measure => simp [intOf]; omega
      · have f1 := B_f c1
        by_cases c2 : prices[k] = 0
        · have hpz : Hid (prices[k] ≠ 0 → hasUpTo who who.length k) := Lib.hid (fun hh => absurd c2 hh)
          clear c1 Hfk
          rw [c2] at rp
          clear c2 hp0 hp9
          go_wp2_with (go_at_call 98; refine (containsInt_any who who.length (Nat.le_refl _) _ _ _ _ H2.out (by omega)).mono ?_; rintro e w' ⟨rfl, rfl⟩)
          clear rp r0 r1 H2
          have hg1 := Hb1.out.size
          clear Hb0 hg0
          generalize wr.alloc (.cells #[.string x.name, .slice (some ⟨g3, off3, none⟩) x.x.length x.c] 82) = wo at *
          generalize wr.heap.size = gx at *
          go_loopw [33] (fun i wr => ∃ m : Nat, m ≤ x.x.length ∧ i = .int .i64 m ∧ (∀ b, b < m → fairAt (D.map Psn.key) who prices k b) ∧ Below wo.heap.size wo wr) (fun i _ => x.x.length - (intOf i).toNat)
          case atStart => exact ⟨0, by omega, by rfl, fun j h => by omega, Below.refl _ _⟩
          case round =>
            obtain ⟨m, hm, rfl, hq, hbi⟩ := hrel
            have Hq := Lib.hid hq
            have Hbi := Lib.hid hbi
            have hgi := hbi.size
            have Hbl : Hid (Below w.heap.size w wr) := Lib.hid (Hb1.out.trans (hbi.mono hg1))
            clear hq hbi
            by_cases hmw : m < who.length
            · obtain ⟨j, hj, hxj, hwj, hskb, hj9, hj0⟩ := hst.out m hmw
              have hjp : j < prices.length := by rw [Hpl.out]; exact hj
              have hxk : m < D[k].x.length := by have := hsk.out k hlt; have := Hwn.out; omega
              obtain ⟨hk0, hk9⟩ := hs9.out k m hlt hxk
              obtain ⟨hp0, hp9⟩ := hpr9.out k hltp
              obtain ⟨hq0, hq9⟩ := hpr9.out j hjp
              have sw := (Hbl.out.cell (p := ⟨gw, offw + m, none⟩) hgw).trans (Hcw.out m hmw)
              rw [hwj] at sw
              have q1 := (Hbl.out.cell (p := ⟨g, off + j * 2 + 1, none⟩) hg).trans (Hcd.out j hj).2
              have pk := (Hbl.out.cell (p := ⟨gp, offp + k, none⟩) hgp).trans (Hcp.out k hltp)
              have pj := (Hbl.out.cell (p := ⟨gp, offp + j, none⟩) hgp).trans (Hcp.out j hjp)
              obtain ⟨g4, off4, hA4, hg4, hc4⟩ := (Hi.out _ (List.getElem_mem hj)).ints (Nat.lt_of_le_of_lt (Nat.zero_le m) hxj)
              have s0 := (Hbl.out.cell (p := ⟨g3, off3 + m, none⟩) hg3).trans (Hc3.out m hxk)
              have s1 := (Hbl.out.cell (p := ⟨g4, off4 + m, none⟩) hg4).trans (hc4 m hxj)
              rw [hA4] at q1
              have hfa : Hid (fairAt (D.map Psn.key) who prices k m ↔ (0 < D[k].x[m] → D[k].x[m] - prices[k] ≤ D[j].x[m] - prices[j])) := Lib.hid (by unfold fairAt; rw [skAt_key hlt, hskb]; simp [hxk, hmw, hltp, hjp, hwj])
              clear hc4 hskb hwj
              generalize prices[k] = pkv at pk hp0 hp9 hfa
              generalize prices[j] = pjv at pj hq0 hq9 hfa
              generalize D[k].x[m] = sv at s0 hk0 hk9 hfa
              generalize D[j].x[m] = tv at s1 hj0 hj9 hfa
              obtain ⟨y, hy⟩ : ∃ y, Hid (D[j] = y) := ⟨_, Lib.hid rfl⟩
              rw [hx.out] at hxk
              rw [hy.out] at q1 hxj
              by_cases d1 : 0 < sv
              · by_cases d2 : tv - pjv < sv - pkv
                · have e1 : decide (0 < sv) = true := decide_eq_true d1
                  have e2 : decide (tv - pjv < sv - pkv) = true := decide_eq_true d2
                  have hno : Hid (¬ fairAt (D.map Psn.key) who prices k m) := Lib.hid (fun hh => by have := hfa.out.1 hh d1; omega)
                  go_wp2
                  go_quiet (fail)
                  go_wp2
                  go_ret
                  exact ⟨ret_f (fun hh => hno.out ((hfP.out.1 hh k hlt).2 m hmw)), below_drewN Hbl.out _⟩
                · have e1 : decide (0 < sv) = true := decide_eq_true d1
                  have e2 : decide (tv - pjv < sv - pkv) = false := decide_eq_false d2
                  have hye : Hid (fairAt (D.map Psn.key) who prices k m) := Lib.hid (hfa.out.2 (fun _ => by omega))
                  go_wp2
                  go_quiet (fail)
                  go_wp2
                  go_roundw
                  case rel =>
                    refine ⟨m + 1, by omega, by go_num, fun b hb => ?_, below_drewN Hbi.out _⟩
                    rcases Nat.lt_or_eq_of_le (Nat.le_of_lt_succ hb) with h' | rfl
                    · exact Hq.out b h'
                    · exact hye.out
                  case measure => simp [intOf]; omega
              · have e1 : decide (0 < sv) = false := decide_eq_false d1
                have hye : Hid (fairAt (D.map Psn.key) who prices k m) := Lib.hid (hfa.out.2 (fun hh => absurd hh d1))
                go_wp2
                go_quiet (fail)
                go_wp2
                go_roundw
                case rel =>
                  refine ⟨m + 1, by omega, by go_num, fun b hb => ?_, below_drewN Hbi.out _⟩
                  rcases Nat.lt_or_eq_of_le (Nat.le_of_lt_succ hb) with h' | rfl
                  · exact Hq.out b h'
                  · exact hye.out
                case measure => simp [intOf]; omega
            · have hmx : m = x.x.length := by have := Hwl.out; omega
              subst hmx
              go_wp2
              go_roundw
              case rel =>
                refine ⟨k + 1, by omega, by go_num, fun i hi => ?_, Hbl.out⟩
                rcases Nat.lt_or_eq_of_le (Nat.le_of_lt_succ hi) with h' | rfl
                · exact Hp.out i h'
                · exact (hfr.out i hlt).2 ⟨hpz.out, fun b hb => Hq.out b (by rw [Hwl.out]; exact hb)⟩
              case measure => simp [intOf]; omega
        · have hno : Hid (¬ fairRow (D.map Psn.key) who prices k) := Lib.hid (fun hh => c1 ((Hfk.out.1 hh).1 c2))
          clear c1 Hfk
          generalize prices[k] = pv at rp c2 hp0 hp9
          go_wp2_with (go_at_call 98; refine (containsInt_any who who.length (Nat.le_refl _) _ _ _ _ H2.out (by omega)).mono ?_; rintro e w' ⟨rfl, rfl⟩)
          go_ret
          exact ⟨ret_f (fun hh => hno.out (hfP.out.1 hh k hlt)), Hb0.out.alloc hg0 _⟩
    · obtain rfl : k = D.length := by omega
      go_wp2
      go_ret
      exact ⟨ret_t (hfP.out.2 Hp.out), Hb0.out⟩
end Go.Proofs.Ytpedfjcidbopiaa
