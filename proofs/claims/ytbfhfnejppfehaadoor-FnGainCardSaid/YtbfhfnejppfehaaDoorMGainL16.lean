import Derived.Test.YtbfhfnejppfehaaDoorMGainL13
import Derived.Test.YtbfhfnejppfehaaDoorMGainL15
import Derived.Test.YtbfhfnejppfehaaDoorMGainL06
/-
  The plain law of the prices: the best placing cannot be bettered; the least prices are the greatest gains of chains; rounds of raising reach them.
-/
namespace Go.Proofs.YtbfhfnejppfehaaDoor
open Go.RowKit
set_option linter.unusedVariables false
set_option linter.unusedSimpArgs false

theorem bestTo_mono {l : List Pk} {f : List Int → List Int} {who : List Int} {k : Nat} (h : 0 < (bestTo l f who k).length) : 0 < (bestTo l f who (k + 1)).length ∧ sk l (bestTo l f who k) ≤ sk l (bestTo l f who (k + 1)) := by
  by_cases hu : usable l who k
  · by_cases hc : 0 < (f (who ++ [(k : Int)])).length ∧ ((bestTo l f who k).length = 0 ∨ sk l (bestTo l f who k) < sk l (f (who ++ [(k : Int)])))
    · rw [bestTo_y hu hc.1 hc.2]
      refine ⟨hc.1, ?_⟩
      rcases hc.2 with h0 | h0
      · omega
      · omega
    · rw [bestTo_n hu hc]; exact ⟨h, Int.le_refl _⟩
  · rw [bestTo_no hu]; exact ⟨h, Int.le_refl _⟩
theorem bestTo_ge {l : List Pk} {f : List Int → List Int} {who : List Int} {k : Nat} (hu : usable l who k) (h0 : 0 < (f (who ++ [(k : Int)])).length) : ∀ K, k < K → 0 < (bestTo l f who K).length ∧ sk l (f (who ++ [(k : Int)])) ≤ sk l (bestTo l f who K)
  | 0, h => by omega
  | K + 1, h => by
    rcases Nat.lt_or_eq_of_le (Nat.le_of_lt_succ h) with h' | rfl
    · have ih := bestTo_ge hu h0 K h'
      have := bestTo_mono ih.1
      exact ⟨this.1, Int.le_trans ih.2 this.2⟩
    · by_cases hc : (bestTo l f who k).length = 0 ∨ sk l (bestTo l f who k) < sk l (f (who ++ [(k : Int)]))
      · rw [bestTo_y hu h0 hc]; exact ⟨h0, Int.le_refl _⟩
      · rw [bestTo_n hu (fun x => hc x.2)]
        exact ⟨by omega, by omega⟩
theorem best_opt {l : List Pk} {N : Nat} (hN : 0 < N) : ∀ (d : Nat) (who y : List Int), seatsP l y → y.length = N → who.length + d = N → y.take who.length = who → 0 < (best l d who).length ∧ sk l y ≤ sk l (best l d who)
  | 0, who, y, hs, hy, hn, ht => by
    have : y = who := by rw [← ht, List.take_of_length_le (by omega)]
    subst this
    simp only [best]; exact ⟨by omega, Int.le_refl _⟩
  | d + 1, who, y, hs, hy, hn, ht => by
    have hb : who.length < y.length := by omega
    have h1 := hs who.length hb
    unfold seatAt at h1
    have hg : y.getD who.length 0 = y[who.length] := getD_get hb
    rw [hg] at h1
    obtain ⟨⟨h11, h12⟩, h2, h3⟩ := h1
    obtain ⟨k, hk⟩ := Int.eq_ofNat_of_zero_le h11
    rw [hk, Int.toNat_natCast] at h3
    have htk : y.take (who ++ [(k : Int)]).length = who ++ [(k : Int)] := by
      rw [List.length_append, List.length_singleton, List.take_succ_eq_append_getElem hb, ht, hk]
    have hu : usable l who k := by
      refine ⟨fun ⟨j, h4, h5, h6⟩ => h2 ⟨j, by omega, h4, ?_⟩, h3⟩
      rw [hk, ← h6]
      have : who[j] = (y.take who.length)[j]'(by rw [ht]; exact h4) := by simp only [ht]
      rw [this, List.getElem_take]
    obtain ⟨i1, i2⟩ := best_opt hN d (who ++ [(k : Int)]) y hs hy (by simp; omega) htk
    obtain ⟨j1, j2⟩ := bestTo_ge (f := best l d) hu i1 l.length (by omega)
    simp only [best]
    exact ⟨j1, Int.le_trans i2 j2⟩
def sv (l : List Pk) (i b : Nat) : Int := (skAt l i).getD b 0
def wv (y : List Int) (b : Nat) : Nat := (y.getD b 0).toNat
theorem sk_tot (l : List Pk) (y : List Int) : sk l y = totS (sv l) y.length (wv y) := by
  unfold sk totS
  generalize y.length = k
  induction k with
  | zero => rfl
  | succ k ih => rw [sumF_range_succ]; simp only [skTo]; rw [ih]; rfl
theorem skTo_tot (l : List Pk) (y : List Int) (k : Nat) : skTo l y k = totS (sv l) k (wv y) := by
  unfold totS
  induction k with
  | zero => rfl
  | succ k ih => rw [sumF_range_succ]; simp only [skTo]; rw [ih]; rfl
theorem seats_valid {l : List Pk} {y : List Int} {n : Int} (hp : peopleP l n) (hn : (y.length : Int) = n) (hs : seatsP l y) : validS (sv l) y.length l.length (wv y) := by
  refine ⟨fun b hb => ?_, fun b c hb hc e => ?_⟩
  · obtain ⟨i, h1, h2, h3, h4, h5⟩ := seats_at hp hn hs hb
    have e : wv y b = i := by unfold wv; rw [getD_get hb, h2, Int.toNat_natCast]
    rw [e]; exact ⟨h1, by unfold sv; rw [← h3]; exact h4⟩
  · have key : ∀ b c, b < y.length → c < y.length → wv y b = wv y c → ¬ b < c := fun b c hb hc e hlt => by
      obtain ⟨i, h1, h2, _⟩ := seats_at hp hn hs hb
      obtain ⟨j, h3, h4, _⟩ := seats_at hp hn hs hc
      have e1 : wv y b = i := by unfold wv; rw [getD_get hb, h2, Int.toNat_natCast]
      have e2 : wv y c = j := by unfold wv; rw [getD_get hc, h4, Int.toNat_natCast]
      refine (hs c hc).2.1 ⟨b, hb, hlt, ?_⟩
      rw [getD_get hc, h2, h4]; omega
    have a := key b c hb hc e
    have d := key c b hc hb e.symm
    omega
theorem valid_seats {l : List Pk} {n : Int} {N : Nat} (hp : peopleP l n) (hn : (N : Int) = n) {F : Nat → Nat} (h : validS (sv l) N l.length F) :
    ∃ y : List Int, seatsP l y ∧ y.length = N ∧ sk l y = totS (sv l) N F := by
  have hl : ((List.range N).map fun b => (F b : Int)).length = N := by simp
  have hg : ∀ b, b < N → ((List.range N).map fun b => (F b : Int)).getD b 0 = (F b : Int) := fun b hb => by rw [getD_get (by simpa using hb)]; simp
  refine ⟨(List.range N).map fun b => (F b : Int), fun b hb => ?_, hl, ?_⟩
  · rw [hl] at hb
    unfold seatAt
    rw [hg b hb, Int.toNat_natCast]
    have := h.1 b hb
    refine ⟨⟨by omega, by omega⟩, fun ⟨j, h1, h2, h3⟩ => ?_, by have := this.2; unfold sv at this; omega⟩
    have hj : j < N := by simpa using h1
    have : ((F j : Nat) : Int) = F b := by rw [← h3]; simp
    have := h.2 j b hj hb (by omega)
    omega
  · rw [sk_tot, hl]
    unfold totS
    refine sumF_congr _ _ _ fun b hb => ?_
    have : wv ((List.range N).map fun b => (F b : Int)) b = F b := by unfold wv; rw [hg b (List.mem_range.1 hb), Int.toNat_natCast]
    rw [this]
/-- The best placing, where there is one, cannot be bettered. -/
theorem best_optS {l : List Pk} {n : Int} {N : Nat} (hp : peopleP l n) (hn : (N : Int) = n) (hb : 0 < (best l N []).length) :
    seatsP l (best l N []) ∧ (best l N []).length = N ∧ optS (sv l) (wv (best l N [])) N l.length := by
  have h3 := hp.1.1
  rcases best_full (N := N) N [] seats_nil (by simp) with h0 | ⟨h1, h2⟩
  · rw [h0] at hb; simp at hb
  · refine ⟨h1, h2, ?_, fun F hF => ?_⟩
    · have := seats_valid hp (by omega) h1
      rw [h2] at this; exact this
    · obtain ⟨y, hy1, hy2, hy3⟩ := valid_seats hp hn hF
      have := (best_opt (by omega) N [] y hy1 hy2 (by simp) (by simp)).2
      rw [hy3, sk_tot, h2] at this
      exact this
theorem sv_le {l : List Pk} {n : Int} {N : Nat} (hp : peopleP l n) (hn : (N : Int) = n) (i b : Nat) : sv l i b ≤ 9 := by
  unfold sv
  by_cases hi : i < l.length
  · by_cases hb : b < N
    · obtain ⟨h, h1, h2⟩ := people_skill hp hi (b := b) (by omega)
      rw [getD_get h]; exact h2
    · have := (hp.2.2 i hi).2.1
      rw [List.getD_eq_getElem?_getD, List.getElem?_eq_none (by omega)]; simp
  · have : skAt l i = [] := by unfold skAt; rw [List.getD_eq_getElem?_getD, List.getElem?_eq_none (by omega)]; rfl
    rw [this]; simp
/-- The least prices. -/
def prL (l : List Pk) (y : List Int) (N : Nat) : List Int := (List.range l.length).map fun i => eS (sv l) (wv y) N N i
theorem prL_len (l : List Pk) (y : List Int) (N : Nat) : (prL l y N).length = l.length := by simp [prL]
theorem prL_at {l : List Pk} (y : List Int) (N : Nat) {i : Nat} (hi : i < l.length) : (prL l y N).getD i 0 = eS (sv l) (wv y) N N i := by
  rw [getD_get (by rw [prL_len]; exact hi)]; simp [prL]
/-- Prices between e and the greatest gains; of the pairs in P the raising is done. -/
structure RQ (l : List Pk) (y : List Int) (N : Nat) (e : Nat → Int) (P : Nat → Nat → Prop) (q : List Int) : Prop where
  len : q.length = l.length
  lo : ∀ i, i < l.length → e i ≤ q.getD i 0
  hi : ∀ i, i < l.length → q.getD i 0 ≤ eS (sv l) (wv y) N N i
  did : ∀ i b, i < l.length → b < N → P i b → 0 < sv l i b → e (wv y b) + cst (sv l) (wv y) i b ≤ q.getD i 0
/-- Prices that k rounds at least have raised. -/
def PQ (l : List Pk) (y : List Int) (N k : Nat) (q : List Int) : Prop := RQ l y N (eS (sv l) (wv y) N k) (fun _ _ => False) q
section
variable {l : List Pk} {y : List Int} {N k : Nat} {e : Nat → Int} {P Q : Nat → Nat → Prop} {q q0 : List Int}
theorem RQ.imp (h : RQ l y N e P q) (hi : ∀ i b, i < l.length → b < N → Q i b → P i b) : RQ l y N e Q q := ⟨h.len, h.lo, h.hi, fun i b h1 h2 h3 h4 => h.did i b h1 h2 (hi i b h1 h2 h3) h4⟩
theorem RQ.skip (h : RQ l y N e P q) {i b : Nat} (hs : sv l i b ≤ 0) : RQ l y N e (fun j c => P j c ∨ (j = i ∧ c = b)) q :=
  ⟨h.len, h.lo, h.hi, fun j c h1 h2 h3 h4 => by
    rcases h3 with h3 | ⟨rfl, rfl⟩
    · exact h.did j c h1 h2 h3 h4
    · omega⟩
theorem RQ.raise (ho : optS (sv l) (wv y) N l.length) (h : RQ l y N e P q) {i b : Nat} (hi : i < l.length) (hb : b < N) (hs : 0 < sv l i b) {v : Int} (hv : v = max (q.getD i 0) (q.getD (wv y b) 0 + cst (sv l) (wv y) i b)) :
    RQ l y N e (fun j c => P j c ∨ (j = i ∧ c = b)) (q.set i v) := by
  have hw := (ho.1.1 b hb).1
  have hpost := eS_post ho hb hs
  have hi2 := h.hi _ hw
  have lo2 := h.lo _ hw
  have hii := h.hi _ hi
  have hget : ∀ j, j < l.length → (q.set i v).getD j 0 = if j = i then v else q.getD j 0 := fun j hj => by
    rw [List.getD_eq_getElem?_getD, List.getElem?_set]
    by_cases e : j = i
    · rw [if_pos e, if_pos e.symm, if_pos (by rw [h.len]; omega)]; rfl
    · rw [if_neg e, if_neg (fun x => e x.symm), List.getD_eq_getElem?_getD]
  have hge : ∀ j, j < l.length → q.getD j 0 ≤ (q.set i v).getD j 0 := fun j hj => by
    rw [hget j hj]; split
    · rename_i e; rw [hv, e]; omega
    · omega
  refine ⟨by rw [List.length_set]; exact h.len, fun j hj => Int.le_trans (h.lo j hj) (hge j hj), fun j hj => ?_, fun j c h1 h2 h3 h4 => ?_⟩
  · rw [hget j hj]; split
    · rename_i e; rw [hv, e]; omega
    · exact h.hi j hj
  · rcases h3 with h3 | ⟨rfl, rfl⟩
    · exact Int.le_trans (h.did j c h1 h2 h3 h4) (hge j h1)
    · rw [hget j h1, if_pos rfl, hv]; omega
/-- A round begins. -/
theorem PQ.round (h : PQ l y N k q) : RQ l y N (fun i => q.getD i 0) (fun _ _ => False) q := ⟨h.len, fun i _ => Int.le_refl _, h.hi, fun _ _ _ _ hf => hf.elim⟩
/-- A round is over. -/
theorem PQ.next (ho : optS (sv l) (wv y) N l.length) (h0 : PQ l y N k q0) (h : RQ l y N (fun i => q0.getD i 0) P q) (hp : ∀ i b, i < l.length → b < N → P i b) : PQ l y N (k + 1) q :=
  ⟨h.len, fun i hi => eS_step (q := fun j => q.getD j 0) (Int.le_trans (Int.le_trans (eS_nonneg k i) (h0.lo i hi)) (h.lo i hi)) (fun b hb hs => by
    have h1 := h.did i b hi hb (hp i b hi hb) hs
    have h2 := h0.lo (wv y b) (ho.1.1 b hb).1
    omega), h.hi, fun _ _ _ _ hf => hf.elim⟩
theorem PQ.done (ho : optS (sv l) (wv y) N l.length) (h : PQ l y N k q) (hk : N ≤ k) : q = prL l y N := by
  apply List.ext_getElem
  · rw [h.len, prL_len]
  · intro i h1 h2
    have hi : i < l.length := by rw [← h.len]; exact h1
    have a := h.lo i hi
    have b := h.hi i hi
    rw [eS_all ho hk, getD_get h1] at *
    rw [← getD_get h2, prL_at y N hi]
    omega
theorem PQ.fair (ho : optS (sv l) (wv y) N l.length) (hy : y.length = N) (h : PQ l y N k q) (hf : fairP l y q) : q = prL l y N := by
  have hle := eS_least (s := sv l) (who := wv y) (n := N) (m := l.length) (q := fun i => q.getD i 0) (fun b hb => (ho.1.1 b hb).1) (fun i hi => Int.le_trans (eS_nonneg k i) (h.lo i hi)) (fun i b hi hb hs => by
    have := (hf i hi).2 b (by omega) hs
    unfold skB at this
    show q.getD (wv y b) 0 + cst (sv l) (wv y) i b ≤ q.getD i 0
    unfold cst sv wv
    omega)
  apply List.ext_getElem
  · rw [h.len, prL_len]
  · intro i h1 h2
    have hi : i < l.length := by rw [← h.len]; exact h1
    have a : eS (sv l) (wv y) N N i ≤ q.getD i 0 := hle N i hi
    have b := h.hi i hi
    rw [← getD_get h1, ← getD_get h2, prL_at y N hi]
    omega
theorem PQ.start : PQ l y N 0 (List.replicate l.length 0) := by
  have hg : ∀ i, (List.replicate l.length (0 : Int)).getD i 0 = 0 := fun i => by
    rw [List.getD_eq_getElem?_getD, List.getElem?_replicate]; split <;> rfl
  exact ⟨by simp, fun i _ => by rw [hg]; exact Int.le_refl _, fun i _ => by rw [hg]; exact eS_nonneg _ _, fun _ _ _ _ hf => hf.elim⟩
theorem PQ.bd (ho : optS (sv l) (wv y) N l.length) {n : Int} (hp : peopleP l n) (hn : (N : Int) = n) (h : PQ l y N k q) : ∀ i, i < l.length → 0 ≤ q.getD i 0 ∧ q.getD i 0 ≤ 63 := fun i hi => by
  have a := Int.le_trans (eS_nonneg k i) (h.lo i hi)
  have b := eS_bd (s := sv l) (who := wv y) (n := N) (sv_le hp hn) (fun b hb => Int.le_of_lt (ho.1.1 b hb).2) N i
  have c := h.hi i hi
  have := hp.1.2
  omega
theorem RQ.bd (ho : optS (sv l) (wv y) N l.length) {n : Int} (hp : peopleP l n) (hn : (N : Int) = n) (he : ∀ i, i < l.length → 0 ≤ e i) (h : RQ l y N e P q) : ∀ i, i < l.length → 0 ≤ q.getD i 0 ∧ q.getD i 0 ≤ 63 := fun i hi => by
  have a := Int.le_trans (he i hi) (h.lo i hi)
  have b := eS_bd (s := sv l) (who := wv y) (n := N) (sv_le hp hn) (fun b hb => Int.le_of_lt (ho.1.1 b hb).2) N i
  have c := h.hi i hi
  have := hp.1.2
  omega
/-- Who rings no bell is no bell's ringer. -/
theorem free_of {n : Int} (hp : peopleP l n) (hn : (N : Int) = n) (hs : seatsP l y) (hy : y.length = N) {i : Nat} (h : ¬ hasUpTo y y.length i) : ∀ b, b < N → wv y b ≠ i := fun b hb e => by
  obtain ⟨j, h1, h2, _⟩ := seats_at hp (by omega) hs (b := b) (by omega)
  refine h ⟨b, by omega, by omega, ?_⟩
  unfold wv at e
  rw [getD_get (by omega), h2, Int.toNat_natCast] at e
  rw [h2, e]
theorem PQ.strict (ho : optS (sv l) (wv y) N l.length) (hs : seatsP l y) (hy : y.length = N) {n : Int} (hp : peopleP l n) (hn : (N : Int) = n) (h0 : PQ l y N k q0) (hf : ¬ fairP l y q0) (h : RQ l y N (fun i => q0.getD i 0) P q) (hP : ∀ i b, i < l.length → b < N → P i b) :
    ∃ i, i < l.length ∧ q0.getD i 0 < q.getD i 0 := by
  by_cases hx : ∃ i, i < l.length ∧ q0.getD i 0 < q.getD i 0
  · exact hx
  · exfalso
    refine hf fun i hi => ⟨fun hne => ?_, fun b hb hsb => ?_⟩
    · by_cases hu : hasUpTo y y.length i
      · exact hu
      · exfalso
        have h1 := h0.hi i hi
        have h2 := Int.le_trans (eS_nonneg k i) (h0.lo i hi)
        rw [eS_free ho hi (free_of hp hn hs hy hu) N] at h1
        omega
    · have h1 := h.did i b hi (by omega) (hP i b hi (by omega)) hsb
      have h2 : ¬ q0.getD i 0 < q.getD i 0 := fun h => hx ⟨i, hi, h⟩
      unfold skB
      unfold cst sv wv at h1
      omega
theorem prL_fair (ho : optS (sv l) (wv y) N l.length) (hn0 : seatsP l y) (hy : y.length = N) {n : Int} (hp : peopleP l n) (hn : (N : Int) = n) : fairP l y (prL l y N) := by
  intro i hi
  refine ⟨fun hne => ?_, fun b hb hs => ?_⟩
  · rw [prL_at y N hi] at hne
    by_cases hu : hasUpTo y y.length i
    · exact hu
    · exact absurd (eS_free ho hi (free_of hp hn hn0 hy hu) N) hne
  · have hw := (ho.1.1 b (by omega)).1
    have := eS_post ho (i := i) (b := b) (by omega) hs
    rw [prL_at y N hi, show (y.getD b 0).toNat = wv y b from rfl, prL_at y N hw]
    unfold skB
    unfold cst sv wv at this
    unfold sv wv
    omega
end
/-! ### What is left to raise -/
def rdW (w : World) (g i : Nat) : Int := match w.cell? ⟨g, i, none⟩ with
  | some (.int _ v) => v
  | _ => 0
theorem rdW_of {w : World} {b c g : Nat} {q : List Int} (h : OwnL w b c (some ⟨g, 0, none⟩) 1 encInt q) {i : Nat} (hi : i < q.length) : rdW w g i = q.getD i 0 := by
  unfold rdW; rw [(h.cellInt i hi).1, getD_get hi]
def potW (w : World) (g m : Nat) : Nat := (sumF (fun i => 63 - rdW w g i) (List.range m)).toNat
theorem sumF_lt {α : Type} (f g : α → Int) (l : List α) (h : ∀ x ∈ l, f x ≤ g x) {y : α} (hy : y ∈ l) (hl : f y < g y) : sumF f l < sumF g l := by
  induction l with
  | nil => simp at hy
  | cons x l ih =>
    simp only [sumF]
    rcases List.mem_cons.1 hy with rfl | hy
    · have := sumF_le f g l (fun z hz => h z (by simp [hz])); omega
    · have := ih (fun z hz => h z (by simp [hz])) hy; have := h x (by simp); omega
theorem potW_lt {w w' : World} {b c b' c' g m : Nat} {q0 q : List Int} (h0 : OwnL w b c (some ⟨g, 0, none⟩) 1 encInt q0) (h : OwnL w' b' c' (some ⟨g, 0, none⟩) 1 encInt q) (l0 : q0.length = m) (l1 : q.length = m)
    (hle : ∀ i, i < m → q0.getD i 0 ≤ q.getD i 0) (hb : ∀ i, i < m → q.getD i 0 ≤ 63) {j : Nat} (hj : j < m) (hlt : q0.getD j 0 < q.getD j 0) : potW w' g m < potW w g m := by
  have a : sumF (fun i => 63 - rdW w' g i) (List.range m) < sumF (fun i => 63 - rdW w g i) (List.range m) := sumF_lt _ _ _ (fun i hi => by
    have := List.mem_range.1 hi
    rw [rdW_of h0 (by omega), rdW_of h (by omega)]
    have := hle i (by omega); omega) (List.mem_range.2 hj) (by rw [rdW_of h0 (by omega), rdW_of h (by omega)]; omega)
  have b : 0 ≤ sumF (fun i => 63 - rdW w' g i) (List.range m) := sumF_nonneg _ _ fun i hi => by
    have := List.mem_range.1 hi
    rw [rdW_of h (by omega)]
    have := hb i (by omega); omega
  unfold potW; omega
end Go.Proofs.YtbfhfnejppfehaaDoor
