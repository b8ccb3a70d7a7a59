/-
  Contracts: the sum of the skills of a placing (both sides).
-/
import Derived.Test.YtpedfjcidbopiaaDoorPlacing
namespace Go.Proofs.YtpedfjcidbopiaaDoor
open Go.RowKit
set_option linter.unusedVariables false
set_option linter.unusedSimpArgs false
set_option maxRecDepth 100000

/-- The skill on bell b; the sum of the skills on the first k bells. -/
def skB (l : List Pk) (who : List Int) (b : Nat) : Int := (skAt l (who.getD b 0).toNat).getD b 0
def skTo (l : List Pk) (who : List Int) : Nat → Int
  | 0 => 0
  | k + 1 => skTo l who k + skB l who k
theorem people_skill {l : List Pk} {n : Int} (hp : peopleP l n) {i b : Nat} (hi : i < l.length) (hb : (b : Int) < n) : ∃ h : b < (skAt l i).length, 0 ≤ (skAt l i)[b] ∧ (skAt l i)[b] ≤ 9 := by
  have h1 := hp.2.2 i hi
  have h2 : b < (skAt l i).length := by have := h1.2.1; omega
  exact ⟨h2, (h1.2.2.1 _ (List.getElem_mem h2)).1, (h1.2.2.1 _ (List.getElem_mem h2)).2⟩
theorem seats_at {l : List Pk} {who : List Int} {n : Int} (hp : peopleP l n) (hn : (who.length : Int) = n) (hs : seatsP l who) {b : Nat} (hb : b < who.length) :
    ∃ i : Nat, i < l.length ∧ who[b] = (i : Int) ∧ skB l who b = (skAt l i).getD b 0 ∧ 0 < skB l who b ∧ skB l who b ≤ 9 := by
  obtain ⟨h1, _, h3⟩ := hs b hb
  have hg : who.getD b 0 = who[b] := by simp [hb]
  rw [hg] at h1 h3
  obtain ⟨h11, h12⟩ := h1
  obtain ⟨i, hi⟩ := Int.eq_ofNat_of_zero_le h11
  have hil : i < l.length := by omega
  obtain ⟨h2, h4, h5⟩ := people_skill hp hil (b := b) (by omega)
  have he : skB l who b = (skAt l i).getD b 0 := by unfold skB; rw [hg, hi, Int.toNat_natCast]
  rw [hi, Int.toNat_natCast] at h3
  have hq : (skAt l i).getD b 0 = (skAt l i)[b] := by simp [h2]
  exact ⟨i, hil, hi, he, by rw [he]; rw [hq] at h3 ⊢; omega, by rw [he, hq]; omega⟩
theorem skTo_bound {l : List Pk} {who : List Int} {n : Int} (hp : peopleP l n) (hn : (who.length : Int) = n) (hs : seatsP l who) : ∀ k, k ≤ who.length → 0 ≤ skTo l who k ∧ skTo l who k ≤ 9 * k
  | 0, _ => by simp [skTo]
  | k + 1, hk => by
    have h1 := skTo_bound hp hn hs k (by omega)
    obtain ⟨i, _, _, _, h2, h3⟩ := seats_at hp hn hs (b := k) (by omega)
    simp only [skTo]; omega

set_option maxHeartbeats 1600000 in
theorem l27Skill_any (l : List Pk) (who : List Int) (A A' : Option Addr) (c c' : Nat) (n : Int) (w : World) (h : RdP w w.heap.size A l) (h' : RdL w w.heap.size A' 1 encInt who) (hl : l.length ≤ 1048576) (hl' : who.length ≤ 1048576) (hp : peopleP l n) (hn : (who.length : Int) = n) (hs : seatsP l who) :
    Calls Tryd.prog 108 #[.slice A l.length c, .slice A' who.length c'] w fun e w' => e = .returned (.int .i64 (skTo l who who.length)) ∧ w = w' := by
  have hn7 : n ≤ 7 := hp.1.2
  have hbd : Hid (∀ k, k ≤ who.length → 0 ≤ skTo l who k ∧ skTo l who k ≤ 9 * k) := Lib.hid (skTo_bound hp hn hs)
  obtain ⟨D, rfl, hr, hi⟩ := h
  have hst : Hid (∀ (b : Nat) (hb : b < who.length), ∃ (i : Nat) (hi : i < D.length) (hx : b < D[i].x.length), who[b] = (i : Int) ∧ skB (D.map Psn.key) who b = D[i].x[b] ∧ 0 < skB (D.map Psn.key) who b ∧ skB (D.map Psn.key) who b ≤ 9) := Lib.hid (fun b hb => by
    obtain ⟨i, h1, h2, h3, h4, h5⟩ := seats_at hp hn hs hb
    have hi : i < D.length := by simpa using h1
    obtain ⟨h6, _⟩ := people_skill hp h1 (b := b) (by omega)
    have hx : b < D[i].x.length := by rw [skAt_key hi] at h6; exact h6
    exact ⟨i, hi, hx, h2, by rw [h3, skAt_key hi]; simp [hx], h4, h5⟩)
  rw [List.length_map] at hl ⊢
  have Hr := Lib.hid hr
  have Hi := Lib.hid hi
  have H' := Lib.hid h'
  clear hr hi h' hp hs
  obtain ⟨S, hS⟩ : ∃ S, Hid (S = skTo (D.map Psn.key) who) := ⟨_, Lib.hid rfl⟩
  rw [← hS.out]
  rw [← hS.out] at hbd
  go_enter Tryd.func108, Tryd.ntmps108
  go_wp2
  go_loop [5, 10] (fun s i => ∃ k : Nat, k ≤ who.length ∧ i = .int .i64 k ∧ s = .int .i64 (S k)) (fun _ i => who.length - (intOf i).toNat)
  case atStart => exact ⟨0, by omega, by rfl, by rw [hS.out]; rfl⟩
  case round =>
    obtain ⟨k, hk, rfl, rfl⟩ := hrel
    by_cases hlt : k < who.length
    · obtain ⟨i, hi, hx, he, hb, hb0, hb9⟩ := hst.out k hlt
      obtain ⟨g, off, hA, hg, hcell⟩ := H'.out.at hlt
      subst hA
      have r0 : w.cell? ⟨g, off + k, none⟩ = some (.int .i64 who[k]) := by have := hcell 0 _ rfl; rw [Nat.mul_one] at this; exact this
      rw [he] at r0
      obtain ⟨g2, off2, hA2, hg2, hcell2⟩ := Hr.out.at hi
      subst hA2
      have q1 : w.cell? ⟨g2, off2 + i * 2 + 1, none⟩ = _ := hcell2 1 _ rfl
      have hrk := Hi.out _ (List.getElem_mem hi)
      obtain ⟨x, hxx⟩ : ∃ x, Hid (D[i] = x) := ⟨_, Lib.hid rfl⟩
      rw [hb] at hb0 hb9
      have hs1 : Hid (S (k + 1) = S k + D[i].x[k]) := Lib.hid (by rw [hS.out]; simp only [skTo]; rw [hb])
      have hkx : k < D[i].x.length := hx
      have hsv : Hid (D[i].x[k]? = some D[i].x[k]) := Lib.hid (List.getElem?_eq_getElem hx)
      generalize D[i].x[k] = sv at hs1 hb0 hb9 hsv
      rw [hxx.out] at q1 hrk hkx hsv
      obtain ⟨g3, off3, hA3, hg3, hcell3⟩ := hrk.at hkx
      have s0 : w.cell? ⟨g3, off3 + k, none⟩ = some (.int .i64 sv) := by
        have h8 : w.cell? ⟨g3, off3 + k, none⟩ = some (.int .i64 x.x[k]) := by have := hcell3 0 _ rfl; rw [Nat.mul_one] at this; exact this
        have h9 := hsv.out; rw [List.getElem?_eq_getElem hkx] at h9; injection h9 with h9; rw [h8, h9]
      rw [hA3] at q1
      clear hcell hcell2 hcell3 hrk hA3 he hb hx
      have hb1 := hbd.out k hk
      obtain ⟨hb11, hb12⟩ := hb1
      generalize hSk : S k = T at hb11 hb12 ⊢
      have HSk := Lib.hid hSk
      clear hSk
      go_wp2
      go_round
      case rel => exact ⟨k + 1, by omega, by go_num, by rw [hs1.out, HSk.out]⟩
      case measure => simp [intOf]; omega
    · obtain rfl : k = who.length := by omega
      go_wp2
      go_ret
      exact ⟨rfl, rfl⟩
set_option maxHeartbeats 1600000 in
theorem skillOf_any (l : List Pk) (who : List Int) (A A' : Option Addr) (c c' : Nat) (n : Int) (w : World) (h : RdP w w.heap.size A l) (h' : RdL w w.heap.size A' 1 encInt who) (hl : l.length ≤ 1048576) (hl' : who.length ≤ 1048576) (hp : peopleP l n) (hn : (who.length : Int) = n) (hs : seatsP l who) :
    Calls Tryd.prog 104 #[.slice A l.length c, .slice A' who.length c'] w fun e w' => e = .returned (.int .i64 (skTo l who who.length)) ∧ w = w' := by
  have hn7 : n ≤ 7 := hp.1.2
  have hbd : Hid (∀ k, k ≤ who.length → 0 ≤ skTo l who k ∧ skTo l who k ≤ 9 * k) := Lib.hid (skTo_bound hp hn hs)
  obtain ⟨D, rfl, hr, hi⟩ := h
  have hst : Hid (∀ (b : Nat) (hb : b < who.length), ∃ (i : Nat) (hi : i < D.length) (hx : b < D[i].x.length), who[b] = (i : Int) ∧ skB (D.map Psn.key) who b = D[i].x[b] ∧ 0 < skB (D.map Psn.key) who b ∧ skB (D.map Psn.key) who b ≤ 9) := Lib.hid (fun b hb => by
    obtain ⟨i, h1, h2, h3, h4, h5⟩ := seats_at hp hn hs hb
    have hi : i < D.length := by simpa using h1
    obtain ⟨h6, _⟩ := people_skill hp h1 (b := b) (by omega)
    have hx : b < D[i].x.length := by rw [skAt_key hi] at h6; exact h6
    exact ⟨i, hi, hx, h2, by rw [h3, skAt_key hi]; simp [hx], h4, h5⟩)
  rw [List.length_map] at hl ⊢
  have Hr := Lib.hid hr
  have Hi := Lib.hid hi
  have H' := Lib.hid h'
  clear hr hi h' hp hs
  obtain ⟨S, hS⟩ : ∃ S, Hid (S = skTo (D.map Psn.key) who) := ⟨_, Lib.hid rfl⟩
  rw [← hS.out]
  rw [← hS.out] at hbd
  go_enter Tryd.func104, Tryd.ntmps104
  go_wp2
  go_loop [5, 10] (fun s i => ∃ k : Nat, k ≤ who.length ∧ i = .int .i64 k ∧ s = .int .i64 (S k)) (fun _ i => who.length - (intOf i).toNat)
  case atStart => exact ⟨0, by omega, by rfl, by rw [hS.out]; rfl⟩
  case round =>
    obtain ⟨k, hk, rfl, rfl⟩ := hrel
    by_cases hlt : k < who.length
    · obtain ⟨i, hi, hx, he, hb, hb0, hb9⟩ := hst.out k hlt
      obtain ⟨g, off, hA, hg, hcell⟩ := H'.out.at hlt
      subst hA
      have r0 : w.cell? ⟨g, off + k, none⟩ = some (.int .i64 who[k]) := by have := hcell 0 _ rfl; rw [Nat.mul_one] at this; exact this
      rw [he] at r0
      obtain ⟨g2, off2, hA2, hg2, hcell2⟩ := Hr.out.at hi
      subst hA2
      have q1 : w.cell? ⟨g2, off2 + i * 2 + 1, none⟩ = _ := hcell2 1 _ rfl
      have hrk := Hi.out _ (List.getElem_mem hi)
      obtain ⟨x, hxx⟩ : ∃ x, Hid (D[i] = x) := ⟨_, Lib.hid rfl⟩
      rw [hb] at hb0 hb9
      have hs1 : Hid (S (k + 1) = S k + D[i].x[k]) := Lib.hid (by rw [hS.out]; simp only [skTo]; rw [hb])
      have hkx : k < D[i].x.length := hx
      have hsv : Hid (D[i].x[k]? = some D[i].x[k]) := Lib.hid (List.getElem?_eq_getElem hx)
      generalize D[i].x[k] = sv at hs1 hb0 hb9 hsv
      rw [hxx.out] at q1 hrk hkx hsv
      obtain ⟨g3, off3, hA3, hg3, hcell3⟩ := hrk.at hkx
      have s0 : w.cell? ⟨g3, off3 + k, none⟩ = some (.int .i64 sv) := by
        have h8 : w.cell? ⟨g3, off3 + k, none⟩ = some (.int .i64 x.x[k]) := by have := hcell3 0 _ rfl; rw [Nat.mul_one] at this; exact this
        have h9 := hsv.out; rw [List.getElem?_eq_getElem hkx] at h9; injection h9 with h9; rw [h8, h9]
      rw [hA3] at q1
      clear hcell hcell2 hcell3 hrk hA3 he hb hx
      have hb1 := hbd.out k hk
      obtain ⟨hb11, hb12⟩ := hb1
      generalize hSk : S k = T at hb11 hb12 ⊢
      have HSk := Lib.hid hSk
      clear hSk
      go_wp2
      go_round
      case rel => exact ⟨k + 1, by omega, by go_num, by rw [hs1.out, HSk.out]⟩
      case measure => simp [intOf]; omega
    · obtain rfl : k = who.length := by omega
      go_wp2
      go_ret
      exact ⟨rfl, rfl⟩
end Go.Proofs.YtpedfjcidbopiaaDoor
