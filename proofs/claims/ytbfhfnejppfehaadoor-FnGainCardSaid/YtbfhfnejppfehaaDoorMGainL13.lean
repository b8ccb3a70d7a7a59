import Derived.Test.YtbfhfnejppfehaaDoorMGainL12
/-
  Contracts: the sum of the skills of a placing (both sides).
-/
namespace Go.Proofs.YtbfhfnejppfehaaDoor
open Go.RowKit
set_option linter.unusedVariables false
set_option linter.unusedSimpArgs false
set_option maxRecDepth 100000

/-- The skill on bell b; the sum of the skills on the first k bells. -/
def skB (l : List Pk) (who : List Int) (b : Nat) : Int := (skAt l (who.getD b 0).toNat).getD b 0
def skTo (l : List Pk) (who : List Int) : Nat → Int
  | 0 => 0
  | k + 1 => skTo l who k + skB l who k
theorem people_skill {l : List Pk} {n : Int} (hp : peopleP l n) {i b : Nat} (hi : i < l.length) (hb : (b : Int) < n) : ∃ h : b < (skAt l i).length, 0 ≤ (skAt l i)[b] ∧ (skAt l i)[b] ≤ 9 := by
  have h1 := hp.2.2 i hi
  have h2 : b < (skAt l i).length := by have := h1.2.1; omega
  exact ⟨h2, (h1.2.2.1 _ (List.getElem_mem h2)).1, (h1.2.2.1 _ (List.getElem_mem h2)).2⟩
theorem seats_at {l : List Pk} {who : List Int} {n : Int} (hp : peopleP l n) (hn : (who.length : Int) = n) (hs : seatsP l who) {b : Nat} (hb : b < who.length) :
    ∃ i : Nat, i < l.length ∧ who[b] = (i : Int) ∧ skB l who b = (skAt l i).getD b 0 ∧ 0 < skB l who b ∧ skB l who b ≤ 9 := by
  obtain ⟨h1, _, h3⟩ := hs b hb
  have hg : who.getD b 0 = who[b] := by simp [hb]
  rw [hg] at h1 h3
  obtain ⟨h11, h12⟩ := h1
  obtain ⟨i, hi⟩ := Int.eq_ofNat_of_zero_le h11
  have hil : i < l.length := by omega
  obtain ⟨h2, h4, h5⟩ := people_skill hp hil (b := b) (by omega)
  have he : skB l who b = (skAt l i).getD b 0 := by unfold skB; rw [hg, hi, Int.toNat_natCast]
  rw [hi, Int.toNat_natCast] at h3
  have hq : (skAt l i).getD b 0 = (skAt l i)[b] := by simp [h2]
  exact ⟨i, hil, hi, he, by rw [he]; rw [hq] at h3 ⊢; omega, by rw [he, hq]; omega⟩
theorem skTo_bound {l : List Pk} {who : List Int} {n : Int} (hp : peopleP l n) (hn : (who.length : Int) = n) (hs : seatsP l who) : ∀ k, k ≤ who.length → 0 ≤ skTo l who k ∧ skTo l who k ≤ 9 * k
  | 0, _ => by simp [skTo]
  | k + 1, hk => by
    have h1 := skTo_bound hp hn hs k (by omega)
    obtain ⟨i, _, _, _, h2, h3⟩ := seats_at hp hn hs (b := k) (by omega)
    simp only [skTo]; omega

set_option maxHeartbeats 1600000 in
theorem l27Skill_any (l : List Pk) (who : List Int) (A A' : Option Addr) (c c' : Nat) (n : Int) (w : World) (h : RdP w w.heap.size A l) (h' : RdL w w.heap.size A' 1 encInt who) (hl : l.length ≤ 1048576) (hl' : who.length ≤ 1048576) (hp : peopleP l n) (hn : (who.length : Int) = n) (hs : seatsP l who) :
    Calls Tryd.prog 51 #[.slice A l.length c, .slice A' who.length c'] w fun e w' => e = .returned (.int .i64 (skTo l who who.length)) ∧ w = w' := by
  have hn7 : n ≤ 7 := hp.1.2
  have hbd : Hid (∀ k, k ≤ who.length → 0 ≤ skTo l who k ∧ skTo l who k ≤ 9 * k) := Lib.hid (skTo_bound hp hn hs)
  obtain ⟨D, rfl, hr, hi⟩ := h
  have hst : Hid (∀ (b : Nat) (hb : b < who.length), ∃ (i : Nat) (hi : i < D.length) (hx : b < D[i].x.length), who[b] = (i : Int) ∧ skB (D.map Psn.key) who b = D[i].x[b] ∧ 0 < skB (D.map Psn.key) who b ∧ skB (D.map Psn.key) who b ≤ 9) := Lib.hid (fun b hb => by
    obtain ⟨i, h1, h2, h3, h4, h5⟩ := seats_at hp hn hs hb
    have hi : i < D.length := by simpa using h1
    obtain ⟨h6, _⟩ := people_skill hp h1 (b := b) (by omega)
    have hx : b < D[i].x.length := by rw [skAt_key hi] at h6; exact h6
    exact ⟨i, hi, hx, h2, by rw [h3, skAt_key hi]; simp [hx], h4, h5⟩)
  rw [List.length_map] at hl ⊢
  have Hr := Lib.hid hr
  have Hi := Lib.hid hi
  have H' := Lib.hid h'
  clear hr hi h' hp hs
  obtain ⟨S, hS⟩ : ∃ S, Hid (S = skTo (D.map Psn.key) who) := ⟨_, Lib.hid rfl⟩
  rw [← hS.out]
  rw [← hS.out] at hbd
  go_enter Tryd.func51, Tryd.ntmps51
  go_wp2
  go_loop [5, 10] (fun s i => ∃ k : Nat, k ≤ who.length ∧ i = .int .i64 k ∧ s = .int .i64 (S k)) (fun _ i => who.length - (intOf i).toNat)
  case atStart => exact ⟨0, by omega, by rfl, by rw [hS.out]; rfl⟩
  case round =>
    obtain ⟨k, hk, rfl, rfl⟩ := hrel
    by_cases hlt : k < who.length
    · obtain ⟨i, hi, hx, he, hb, hb0, hb9⟩ := hst.out k hlt
      obtain ⟨g, off, hA, hg, hcell⟩ := H'.out.at hlt
      subst hA
      have r0 : w.cell? ⟨g, off + k, none⟩ = some (.int .i64 who[k]) := by have := hcell 0 _ rfl; rw [Nat.mul_one] at this; exact this
      rw [he] at r0
      obtain ⟨g2, off2, hA2, hg2, hcell2⟩ := Hr.out.at hi
      subst hA2
      have q1 : w.cell? ⟨g2, off2 + i * 2 + 1, none⟩ = _ := hcell2 1 _ rfl
      have hrk := Hi.out _ (List.getElem_mem hi)
      obtain ⟨x, hxx⟩ : ∃ x, Hid (D[i] = x) := ⟨_, Lib.hid rfl⟩
      rw [hb] at hb0 hb9
      have hs1 : Hid (S (k + 1) = S k + D[i].x[k]) := Lib.hid (by rw [hS.out]; simp only [skTo]; rw [hb])
      have hkx : k < D[i].x.length := hx
      have hsv : Hid (D[i].x[k]? = some D[i].x[k]) := Lib.hid (List.getElem?_eq_getElem hx)
      generalize D[i].x[k] = sv at hs1 hb0 hb9 hsv
      rw [hxx.out] at q1 hrk hkx hsv
      obtain ⟨g3, off3, hA3, hg3, hcell3⟩ := hrk.at hkx
      have s0 : w.cell? ⟨g3, off3 + k, none⟩ = some (.int .i64 sv) := by
        have h8 : w.cell? ⟨g3, off3 + k, none⟩ = some (.int .i64 x.x[k]) := by have := hcell3 0 _ rfl; rw [Nat.mul_one] at this; exact this
        have h9 := hsv.out; rw [List.getElem?_eq_getElem hkx] at h9; injection h9 with h9; rw [h8, h9]
      rw [hA3] at q1
      clear hcell hcell2 hcell3 hrk hA3 he hb hx
      have hb1 := hbd.out k hk
      obtain ⟨hb11, hb12⟩ := hb1
      generalize hSk : S k = T at hb11 hb12 ⊢
      have HSk := Lib.hid hSk
      clear hSk
      go_wp2
      go_round
      case rel => exact ⟨k + 1, by omega, by go_num, by rw [hs1.out, HSk.out]⟩
      case measure => simp [intOf]; omega
    · obtain rfl : k = who.length := by omega
      go_wp2
      go_ret
      exact ⟨rfl, rfl⟩
set_option maxHeartbeats 1600000 in
theorem skillOf_any (l : List Pk) (who : List Int) (A A' : Option Addr) (c c' : Nat) (n : Int) (w : World) (h : RdP w w.heap.size A l) (h' : RdL w w.heap.size A' 1 encInt who) (hl : l.length ≤ 1048576) (hl' : who.length ≤ 1048576) (hp : peopleP l n) (hn : (who.length : Int) = n) (hs : seatsP l who) :
    Calls Tryd.prog 46 #[.slice A l.length c, .slice A' who.length c'] w fun e w' => e = .returned (.int .i64 (skTo l who who.length)) ∧ w = w' := by
  have hn7 : n ≤ 7 := hp.1.2
  have hbd : Hid (∀ k, k ≤ who.length → 0 ≤ skTo l who k ∧ skTo l who k ≤ 9 * k) := Lib.hid (skTo_bound hp hn hs)
  obtain ⟨D, rfl, hr, hi⟩ := h
  have hst : Hid (∀ (b : Nat) (hb : b < who.length), ∃ (i : Nat) (hi : i < D.length) (hx : b < D[i].x.length), who[b] = (i : Int) ∧ skB (D.map Psn.key) who b = D[i].x[b] ∧ 0 < skB (D.map Psn.key) who b ∧ skB (D.map Psn.key) who b ≤ 9) := Lib.hid (fun b hb => by
    obtain ⟨i, h1, h2, h3, h4, h5⟩ := seats_at hp hn hs hb
    have hi : i < D.length := by simpa using h1
    obtain ⟨h6, _⟩ := people_skill hp h1 (b := b) (by omega)
    have hx : b < D[i].x.length := by rw [skAt_key hi] at h6; exact h6
    exact ⟨i, hi, hx, h2, by rw [h3, skAt_key hi]; simp [hx], h4, h5⟩)
  rw [List.length_map] at hl ⊢
  have Hr := Lib.hid hr
  have Hi := Lib.hid hi
  have H' := Lib.hid h'
  clear hr hi h' hp hs
  obtain ⟨S, hS⟩ : ∃ S, Hid (S = skTo (D.map Psn.key) who) := ⟨_, Lib.hid rfl⟩
  rw [← hS.out]
  rw [← hS.out] at hbd
  go_enter Tryd.func46, Tryd.ntmps46
  go_wp2
  go_loop [5, 10] (fun s i => ∃ k : Nat, k ≤ who.length ∧ i = .int .i64 k ∧ s = .int .i64 (S k)) (fun _ i => who.length - (intOf i).toNat)
  case atStart => exact ⟨0, by omega, by rfl, by rw [hS.out]; rfl⟩
  case round =>
    obtain ⟨k, hk, rfl, rfl⟩ := hrel
    by_cases hlt : k < who.length
    · obtain ⟨i, hi, hx, he, hb, hb0, hb9⟩ := hst.out k hlt
      obtain ⟨g, off, hA, hg, hcell⟩ := H'.out.at hlt
      subst hA
      have r0 : w.cell? ⟨g, off + k, none⟩ = some (.int .i64 who[k]) := by have := hcell 0 _ rfl; rw [Nat.mul_one] at this; exact this
      rw [he] at r0
      obtain ⟨g2, off2, hA2, hg2, hcell2⟩ := Hr.out.at hi
      subst hA2
      have q1 : w.cell? ⟨g2, off2 + i * 2 + 1, none⟩ = _ := hcell2 1 _ rfl
      have hrk := Hi.out _ (List.getElem_mem hi)
      obtain ⟨x, hxx⟩ : ∃ x, Hid (D[i] = x) := ⟨_, Lib.hid rfl⟩
      rw [hb] at hb0 hb9
      have hs1 : Hid (S (k + 1) = S k + D[i].x[k]) := Lib.hid (by rw [hS.out]; simp only [skTo]; rw [hb])
      have hkx : k < D[i].x.length := hx
      have hsv : Hid (D[i].x[k]? = some D[i].x[k]) := Lib.hid (List.getElem?_eq_getElem hx)
      generalize D[i].x[k] = sv at hs1 hb0 hb9 hsv
      rw [hxx.out] at q1 hrk hkx hsv
      obtain ⟨g3, off3, hA3, hg3, hcell3⟩ := hrk.at hkx
      have s0 : w.cell? ⟨g3, off3 + k, none⟩ = some (.int .i64 sv) := by
        have h8 : w.cell? ⟨g3, off3 + k, none⟩ = some (.int .i64 x.x[k]) := by have := hcell3 0 _ rfl; rw [Nat.mul_one] at this; exact this
        have h9 := hsv.out; rw [List.getElem?_eq_getElem hkx] at h9; injection h9 with h9; rw [h8, h9]
      rw [hA3] at q1
      clear hcell hcell2 hcell3 hrk hA3 he hb hx
      have hb1 := hbd.out k hk
      obtain ⟨hb11, hb12⟩ := hb1
      generalize hSk : S k = T at hb11 hb12 ⊢
      have HSk := Lib.hid hSk
      clear hSk
      go_wp2
      go_round
      case rel => exact ⟨k + 1, by omega, by go_num, by rw [hs1.out, HSk.out]⟩
      case measure => simp [intOf]; omega
    · obtain rfl : k = who.length := by omega
      go_wp2
      go_ret
      exact ⟨rfl, rfl⟩
end Go.Proofs.YtbfhfnejppfehaaDoor

/-
  The plain law of the best placing: the search with a record of the best, and the search that answers the best.
-/
namespace Go.Proofs.YtbfhfnejppfehaaDoor
open Go.RowKit
set_option linter.unusedVariables false
set_option linter.unusedSimpArgs false

/-- The sum of the skills of a placing. -/
def sk (l : List Pk) (y : List Int) : Int := skTo l y y.length
/-- Person k may ring the next bell. -/
def usable (l : List Pk) (who : List Int) (k : Nat) : Prop := ¬ hasUpTo who who.length k ∧ (skAt l k).getD who.length 0 ≠ 0
open Classical in
noncomputable def bestTo (l : List Pk) (f : List Int → List Int) (who : List Int) : Nat → List Int
  | 0 => []
  | k + 1 => if usable l who k then (if 0 < (f (who ++ [(k : Int)])).length ∧ ((bestTo l f who k).length = 0 ∨ sk l (bestTo l f who k) < sk l (f (who ++ [(k : Int)]))) then f (who ++ [(k : Int)]) else bestTo l f who k) else bestTo l f who k
noncomputable def best (l : List Pk) : Nat → List Int → List Int
  | 0, who => who
  | d + 1, who => bestTo l (best l d) who l.length
open Classical in
noncomputable def placeTo (l : List Pk) (g : List Int → List Int × Int → List Int × Int) (who : List Int) (st : List Int × Int) : Nat → List Int × Int
  | 0 => st
  | k + 1 => if usable l who k then g (who ++ [(k : Int)]) (placeTo l g who st k) else placeTo l g who st k
noncomputable def placeF (l : List Pk) : Nat → List Int → List Int × Int → List Int × Int
  | 0, who, st => if st.2 < sk l who then (who, sk l who) else st
  | d + 1, who, st => placeTo l (placeF l d) who st l.length
/-- What a record becomes by a placing (none: empty). -/
noncomputable def rec1 (l : List Pk) (y : List Int) (st : List Int × Int) : List Int × Int := if 0 < y.length ∧ st.2 < sk l y then (y, sk l y) else st
theorem rec1_y {l : List Pk} {y : List Int} {st : List Int × Int} (h1 : 0 < y.length) (h2 : st.2 < sk l y) : rec1 l y st = (y, sk l y) := by unfold rec1; rw [if_pos ⟨h1, h2⟩]
theorem rec1_n {l : List Pk} {y : List Int} {st : List Int × Int} (h : ¬ st.2 < sk l y) : rec1 l y st = st := by unfold rec1; rw [if_neg (fun x => h x.2)]
theorem bestTo_no {l : List Pk} {f : List Int → List Int} {who : List Int} {k : Nat} (h : ¬ usable l who k) : bestTo l f who (k + 1) = bestTo l f who k := by simp only [bestTo]; rw [if_neg h]
theorem bestTo_y {l : List Pk} {f : List Int → List Int} {who : List Int} {k : Nat} (h : usable l who k) (h2 : 0 < (f (who ++ [(k : Int)])).length) (h3 : (bestTo l f who k).length = 0 ∨ sk l (bestTo l f who k) < sk l (f (who ++ [(k : Int)]))) : bestTo l f who (k + 1) = f (who ++ [(k : Int)]) := by
  simp only [bestTo]; rw [if_pos h, if_pos ⟨h2, h3⟩]
theorem bestTo_n {l : List Pk} {f : List Int → List Int} {who : List Int} {k : Nat} (h : usable l who k) (h2 : ¬ (0 < (f (who ++ [(k : Int)])).length ∧ ((bestTo l f who k).length = 0 ∨ sk l (bestTo l f who k) < sk l (f (who ++ [(k : Int)]))))) : bestTo l f who (k + 1) = bestTo l f who k := by
  simp only [bestTo]; rw [if_pos h, if_neg h2]
theorem placeTo_no {l : List Pk} {g : List Int → List Int × Int → List Int × Int} {who : List Int} {st : List Int × Int} {k : Nat} (h : ¬ usable l who k) : placeTo l g who st (k + 1) = placeTo l g who st k := by simp only [placeTo]; rw [if_neg h]
theorem placeTo_y {l : List Pk} {g : List Int → List Int × Int → List Int × Int} {who : List Int} {st : List Int × Int} {k : Nat} (h : usable l who k) : placeTo l g who st (k + 1) = g (who ++ [(k : Int)]) (placeTo l g who st k) := by simp only [placeTo]; rw [if_pos h]
theorem placeTo_best (l : List Pk) (f : List Int → List Int) (g : List Int → List Int × Int → List Int × Int) (who : List Int) (st : List Int × Int) (hfg : ∀ k s, g (who ++ [k]) s = rec1 l (f (who ++ [k])) s) : ∀ k, placeTo l g who st k = rec1 l (bestTo l f who k) st
  | 0 => by simp [placeTo, rec1, bestTo]
  | k + 1 => by
    have ih := placeTo_best l f g who st hfg k
    by_cases hu : usable l who k
    · rw [placeTo_y hu, ih, hfg]
      generalize hy : f (who ++ [(k : Int)]) = y
      by_cases hy0 : 0 < y.length
      · by_cases hb : (bestTo l f who k).length = 0
        · rw [bestTo_y hu (by rw [hy]; exact hy0) (.inl hb), hy]
          have : rec1 l (bestTo l f who k) st = st := by unfold rec1; rw [if_neg (by omega)]
          rw [this]
        · by_cases hs : sk l (bestTo l f who k) < sk l y
          · rw [bestTo_y hu (by rw [hy]; exact hy0) (.inr (by rw [hy]; exact hs)), hy]
            by_cases h1 : st.2 < sk l (bestTo l f who k)
            · rw [rec1_y (l := l) (y := bestTo l f who k) (by omega) h1, rec1_y hy0 hs, rec1_y hy0 (by omega)]
            · rw [rec1_n (l := l) (y := bestTo l f who k) h1]
          · rw [bestTo_n hu (by rw [hy]; rintro ⟨_, h | h⟩; exact hb h; exact hs h)]
            by_cases h1 : st.2 < sk l (bestTo l f who k)
            · rw [rec1_y (l := l) (y := bestTo l f who k) (by omega) h1, rec1_n hs]
            · rw [rec1_n (l := l) (y := bestTo l f who k) h1, rec1_n (by omega)]
      · rw [bestTo_n hu (by rw [hy]; exact fun h => hy0 h.1)]
        have : ∀ s, rec1 l y s = s := fun s => by unfold rec1; rw [if_neg (fun h => hy0 h.1)]
        rw [this]
    · rw [placeTo_no hu, bestTo_no hu, ih]
theorem placeF_best (l : List Pk) : ∀ (d : Nat) (who : List Int) (st : List Int × Int), 0 < who.length + d → placeF l d who st = rec1 l (best l d who) st
  | 0, who, st, h => by
    simp only [placeF, best]; unfold rec1
    by_cases h1 : st.2 < sk l who
    · rw [if_pos h1, if_pos ⟨by omega, h1⟩]
    · rw [if_neg h1, if_neg (fun h => h1 h.2)]
  | d + 1, who, st, _ => by
    simp only [placeF, best]
    exact placeTo_best l (best l d) (placeF l d) who st (fun k s => placeF_best l d (who ++ [k]) s (by simp; omega)) l.length
/-! ### What is found is a placing -/
theorem seats_snoc {l : List Pk} {who : List Int} {k : Nat} (h : seatsP l who) (hk : k < l.length) (hu : usable l who k) : seatsP l (who ++ [(k : Int)]) := by
  intro b hb
  rw [List.length_append, List.length_singleton] at hb
  by_cases e : b < who.length
  · have hg : (who ++ [(k : Int)]).getD b 0 = who.getD b 0 := by simp [List.getD, List.getElem?_append_left e]
    have := h b e
    unfold seatAt at this ⊢
    rw [hg]
    refine ⟨this.1, fun ⟨j, h1, h2, h3⟩ => this.2.1 ⟨j, by omega, h2, ?_⟩, this.2.2⟩
    rw [List.getElem_append_left (by omega)] at h3; exact h3
  · obtain rfl : b = who.length := by omega
    have hg : (who ++ [(k : Int)]).getD who.length 0 = k := by simp [List.getD]
    unfold seatAt
    rw [hg]
    refine ⟨⟨by omega, by omega⟩, fun ⟨j, h1, h2, h3⟩ => hu.1 ⟨j, h2, h2, ?_⟩, by rw [Int.toNat_natCast]; exact hu.2⟩
    rw [List.getElem_append_left h2] at h3; exact h3
def fullP (l : List Pk) (N : Nat) (y : List Int) : Prop := y = [] ∨ (seatsP l y ∧ y.length = N)
theorem bestTo_full {l : List Pk} {N : Nat} {f : List Int → List Int} {who : List Int} (hf : ∀ k : Nat, k < l.length → usable l who k → fullP l N (f (who ++ [(k : Int)]))) : ∀ k, k ≤ l.length → fullP l N (bestTo l f who k)
  | 0, _ => .inl rfl
  | k + 1, hk => by
    have ih := bestTo_full hf k (by omega)
    by_cases hu : usable l who k
    · by_cases hc : 0 < (f (who ++ [(k : Int)])).length ∧ ((bestTo l f who k).length = 0 ∨ sk l (bestTo l f who k) < sk l (f (who ++ [(k : Int)])))
      · rw [bestTo_y hu hc.1 hc.2]; exact hf k (by omega) hu
      · rw [bestTo_n hu hc]; exact ih
    · rw [bestTo_no hu]; exact ih
theorem best_full {l : List Pk} {N : Nat} : ∀ (d : Nat) (who : List Int), seatsP l who → who.length + d = N → fullP l N (best l d who)
  | 0, who, hs, hn => .inr ⟨hs, by rw [best]; omega⟩
  | d + 1, who, hs, hn => bestTo_full (fun k hk hu => best_full d _ (seats_snoc hs hk hu) (by simp; omega)) _ (Nat.le_refl _)
theorem seats_nil {l : List Pk} : seatsP l [] := fun b hb => by simp at hb
theorem sk_pos {l : List Pk} {y : List Int} {n : Int} (hp : peopleP l n) (hn : (y.length : Int) = n) (hs : seatsP l y) : 0 < sk l y := by
  have h3 := hp.1.1
  have hb := skTo_bound hp hn hs (y.length - 1) (by omega)
  obtain ⟨i, _, _, _, h2, _⟩ := seats_at hp hn hs (b := y.length - 1) (by omega)
  unfold sk
  rw [show y.length = (y.length - 1) + 1 from by omega]
  simp only [skTo]; omega
end Go.Proofs.YtbfhfnejppfehaaDoor

/-
  Contracts: prices that keep each bell with the person who rings it (both sides).
-/
namespace Go.Proofs.YtbfhfnejppfehaaDoor
open Go.RowKit
set_option linter.unusedVariables false
set_option linter.unusedSimpArgs false
set_option maxRecDepth 100000

theorem RdL.ints {w : World} {b : Nat} {A : Option Addr} {l : List Int} (h : RdL w b A 1 encInt l) (hl : 0 < l.length) :
    ∃ g off, A = some ⟨g, off, none⟩ ∧ g < b ∧ ∀ (m : Nat) (hm : m < l.length), w.cell? ⟨g, off + m, none⟩ = some (.int .i64 l[m]) := by
  obtain ⟨g, off, hA, hg, _⟩ := h.at hl
  refine ⟨g, off, hA, hg, fun m hm => ?_⟩
  obtain ⟨g', off', hA', _, hcell⟩ := h.at hm
  rw [hA] at hA'
  simp only [Option.some.injEq, Addr.mk.injEq, and_true] at hA'
  obtain ⟨rfl, rfl⟩ := hA'
  have := hcell 0 _ rfl; rw [Nat.mul_one] at this; exact this
theorem people_cells {w : World} {b : Nat} {A : Option Addr} {D : List Psn} (h : RdL w b A 2 Psn.enc D) (hl : 0 < D.length) :
    ∃ g off, A = some ⟨g, off, none⟩ ∧ g < b ∧ ∀ (i : Nat) (hi : i < D.length), w.cell? ⟨g, off + i * 2, none⟩ = some (.string D[i].name) ∧ w.cell? ⟨g, off + i * 2 + 1, none⟩ = some (.slice D[i].A D[i].x.length D[i].c) := by
  obtain ⟨g, off, hA, hg, _⟩ := h.at hl
  refine ⟨g, off, hA, hg, fun m hm => ?_⟩
  obtain ⟨g', off', hA', _, hcell⟩ := h.at hm
  rw [hA] at hA'
  simp only [Option.some.injEq, Addr.mk.injEq, and_true] at hA'
  obtain ⟨rfl, rfl⟩ := hA'
  exact ⟨hcell 0 _ rfl, hcell 1 _ rfl⟩
def fairAt (l : List Pk) (who prices : List Int) (i b : Nat) : Prop := 0 < (skAt l i).getD b 0 → (skAt l i).getD b 0 - prices.getD i 0 ≤ skB l who b - prices.getD (who.getD b 0).toNat 0
def fairRow (l : List Pk) (who prices : List Int) (i : Nat) : Prop := (prices.getD i 0 ≠ 0 → hasUpTo who who.length i) ∧ ∀ b, b < who.length → fairAt l who prices i b
def fairP (l : List Pk) (who prices : List Int) : Prop := ∀ i, i < l.length → fairRow l who prices i








end Go.Proofs.YtbfhfnejppfehaaDoor
