/-
  Plain: the best placing with its prices passes the check; what passes the check is best.
-/
import Derived.Test.YtpedfjcidbopiaaPlacingP
import Derived.Test.YtpedfjcidbopiaaPricesFor
import Derived.Test.YtpedfjcidbopiaaCheckPlacing
import Derived.Test.YtpedfjcidbopiaaSkillOf
namespace Go.Proofs.Ytpedfjcidbopiaa
open Go.RowKit
set_option linter.unusedVariables false
set_option linter.unusedSimpArgs false
set_option maxRecDepth 100000

theorem place_good {l : List Pk} {n : Int} (h : bestP l n) : placingP l n (best l n.toNat []) ∧ checkP l n (best l n.toNat []) (prL l (best l n.toNat []) n.toNat) ∧ fairP l (best l n.toNat []) (prL l (best l n.toNat []) n.toNat) := by
  have hp := h.1
  have hN : ((n.toNat : Nat) : Int) = n := by have := hp.1.1; omega
  obtain ⟨h1, h2, h3⟩ := best_optS hp hN h.2
  have h0 : placingP l n (best l n.toNat []) := ⟨hp, by rw [h2]; exact hN, h1⟩
  have hq : PQ l (best l n.toNat []) n.toNat n.toNat (prL l (best l n.toNat []) n.toNat) :=
    ⟨prL_len _ _ _, fun i hi => by rw [prL_at _ _ hi]; exact Int.le_refl _, fun i hi => by rw [prL_at _ _ hi]; exact Int.le_refl _, fun _ _ _ _ hf => hf.elim⟩
  exact ⟨h0, ⟨h0, prL_len _ _ _, allIn_of (prL_len _ _ _) (hq.bd h3 hp hN)⟩, prL_fair h3 h1 h2 hp hN⟩
theorem place_top {l : List Pk} {n : Int} {who ps : List Int} (h : checkP l n who ps) (hf : fairP l who ps) : bestP l n ∧ placingP l n (best l n.toNat []) ∧ skTo l (best l n.toNat []) (best l n.toNat []).length = skTo l who who.length := by
  obtain ⟨⟨hp, hlen, hs⟩, hpl, hin⟩ := h
  have h3 := hp.1.1
  have hN : ((n.toNat : Nat) : Int) = n := by omega
  have hwN : who.length = n.toNat := by omega
  obtain ⟨h1, h2⟩ := best_opt (l := l) (N := n.toNat) (by omega) n.toNat [] who hs hwN (by simp) (by simp)
  obtain ⟨g1, g2, _⟩ := best_optS hp hN h1
  have ht := fair_top (n := n) hp (by rw [g2]; exact hN) hs g1 (by rw [g2, hwN]) hf (fun i => by
    by_cases hi : i < ps.length
    · exact (by rw [getD_get hi]; exact (hin _ (List.getElem_mem hi)).1)
    · rw [List.getD_eq_getElem?_getD, List.getElem?_eq_none (by omega)]; simp) (fun i hi => by
    rw [List.getD_eq_getElem?_getD, List.getElem?_eq_none (by omega)]; rfl)
  refine ⟨⟨hp, h1⟩, ⟨hp, by rw [g2]; exact hN, g1⟩, ?_⟩
  unfold sk at h2
  omega
open Classical in
noncomputable def bestR (l : List Pk) (n : Int) : List Int := if bestP l n then best l n.toNat [] else []
open Classical in
noncomputable def priceR (l : List Pk) (n : Int) : List Int := if bestP l n then prL l (best l n.toNat []) n.toNat else []
open Classical in
noncomputable def skillR (l : List Pk) (n : Int) (who : List Int) : Int := if placingP l n who then skTo l who who.length else 0
theorem bestR_t {l : List Pk} {n : Int} (h : bestP l n) : bestR l n = best l n.toNat [] := if_pos h
theorem bestR_f {l : List Pk} {n : Int} (h : ¬ bestP l n) : bestR l n = [] := if_neg h
theorem priceR_t {l : List Pk} {n : Int} (h : bestP l n) : priceR l n = prL l (best l n.toNat []) n.toNat := if_pos h
theorem priceR_f {l : List Pk} {n : Int} (h : ¬ bestP l n) : priceR l n = [] := if_neg h
theorem skillR_t {l : List Pk} {n : Int} {who : List Int} (h : placingP l n who) : skillR l n who = skTo l who who.length := if_pos h
theorem skillR_f {l : List Pk} {n : Int} {who : List Int} (h : ¬ placingP l n who) : skillR l n who = 0 := if_neg h
theorem bestR_bd (l : List Pk) (n : Int) : (bestR l n).length ≤ 7 := by
  by_cases h : bestP l n
  · rw [bestR_t h]; exact best_len h.1
  · rw [bestR_f h]; simp
theorem priceR_bd (l : List Pk) (n : Int) : (priceR l n).length ≤ 7 := by
  by_cases h : bestP l n
  · rw [priceR_t h]; exact prL_bd h _ _
  · rw [priceR_f h]; simp


theorem sBest_r (l : List Pk) (A : Option Addr) (c : Nat) (n : Int) (w : World) (h : RdP w w.heap.size A l) (hl : l.length ≤ 1048576) (hc : l.length ≤ c) (hs : ∀ x ∈ l, Person_small 1048576 x) :
    Calls Try.prog 8 #[.slice A l.length c, .int .i64 n] w fun e w' => ∃ A2 c2, e = .returned (.tuple #[.slice A2 (bestR l n).length c2, .bool (B (bestP l n))]) ∧ (bestR l n).length ≤ c2 ∧ RdL w' w'.heap.size A2 1 encInt (bestR l n) ∧ Below w.heap.size w w' := by
  by_cases hp : bestP l n
  · rw [bestR_t hp, B_t hp]; exact (sBestC_t l A c n w h hl hc hs hp).mono fun e w' ⟨A2, c2, h1, h2, h3, h4⟩ => ⟨A2, c2, h1, h2, h3.rd encInt_len, h4⟩
  · rw [bestR_f hp, B_f hp]; exact (sBest_f l A c n w h hl hc hs hp).mono fun e w' ⟨h1, h4⟩ => ⟨none, 0, h1, by simp, RdL.nil, h4⟩
theorem iBest_r (l : List Pk) (A : Option Addr) (c : Nat) (n : Int) (w : World) (h : RdP w w.heap.size A l) (hl : l.length ≤ 1048576) (hc : l.length ≤ c) (hs : ∀ x ∈ l, Person_small 1048576 x) :
    Calls Try.prog 7 #[.slice A l.length c, .int .i64 n] w fun e w' => ∃ A2 c2, e = .returned (.tuple #[.slice A2 (bestR l n).length c2, .bool (B (bestP l n))]) ∧ (bestR l n).length ≤ c2 ∧ RdL w' w'.heap.size A2 1 encInt (bestR l n) ∧ Below w.heap.size w w' := by
  by_cases hp : bestP l n
  · rw [bestR_t hp, B_t hp]; exact (iBestC_t l A c n w h hl hc hs hp).mono fun e w' ⟨A2, c2, h1, h2, h3, h4⟩ => ⟨A2, c2, h1, h2, h3.rd encInt_len, h4⟩
  · rw [bestR_f hp, B_f hp]; exact (iBest_f l A c n w h hl hc hs hp).mono fun e w' ⟨h1, h4⟩ => ⟨none, 0, h1, by simp, RdL.nil, h4⟩

theorem sPrices_r (l : List Pk) (A : Option Addr) (c : Nat) (n : Int) (w : World) (h : RdP w w.heap.size A l) (hl : l.length ≤ 1048576) (hc : l.length ≤ c) (hs : ∀ x ∈ l, Person_small 1048576 x) :
    Calls Try.prog 10 #[.slice A l.length c, .int .i64 n] w fun e w' => ∃ A2 c2, e = .returned (.tuple #[.slice A2 (priceR l n).length c2, .bool (B (bestP l n))]) ∧ RdL w' w'.heap.size A2 1 encInt (priceR l n) ∧ Below w.heap.size w w' := by
  by_cases hp : bestP l n
  · rw [priceR_t hp, B_t hp]; exact (sPrices_t l A c n w h hl hc hs hp).mono fun e w' ⟨A2, c2, h1, h3, h4⟩ => ⟨A2, c2, h1, h3.rd encInt_len, h4⟩
  · rw [priceR_f hp, B_f hp]; exact (sPrices_f l A c n w h hl hc hs hp).mono fun e w' ⟨h1, h4⟩ => ⟨none, 0, h1, RdL.nil, h4⟩
theorem iPrices_r (l : List Pk) (A : Option Addr) (c : Nat) (n : Int) (w : World) (h : RdP w w.heap.size A l) (hl : l.length ≤ 1048576) (hc : l.length ≤ c) (hs : ∀ x ∈ l, Person_small 1048576 x) :
    Calls Try.prog 9 #[.slice A l.length c, .int .i64 n] w fun e w' => ∃ A2 c2, e = .returned (.tuple #[.slice A2 (priceR l n).length c2, .bool (B (bestP l n))]) ∧ RdL w' w'.heap.size A2 1 encInt (priceR l n) ∧ Below w.heap.size w w' := by
  by_cases hp : bestP l n
  · rw [priceR_t hp, B_t hp]; exact (iPrices_t l A c n w h hl hc hs hp).mono fun e w' ⟨A2, c2, h1, h3, h4⟩ => ⟨A2, c2, h1, h3.rd encInt_len, h4⟩
  · rw [priceR_f hp, B_f hp]; exact (iPrices_f l A c n w h hl hc hs hp).mono fun e w' ⟨h1, h4⟩ => ⟨none, 0, h1, RdL.nil, h4⟩


theorem sCheck_r (l : List Pk) (who prices : List Int) (A A' A3 : Option Addr) (c c' c3 : Nat) (n : Int) (w : World) (h : RdP w w.heap.size A l) (h' : RdL w w.heap.size A' 1 encInt who) (h3 : RdL w w.heap.size A3 1 encInt prices) (hl : l.length ≤ 1048576) (hc : l.length ≤ c) (hs : ∀ x ∈ l, Person_small 1048576 x) (hl' : who.length ≤ 1048576) (hc' : who.length ≤ c') (hl3 : prices.length ≤ 1048576) :
    Calls Try.prog 13 #[.slice A l.length c, .int .i64 n, .slice A' who.length c', .slice A3 prices.length c3] w fun e w' => e = .returned (.tuple #[.bool (B (checkP l n who prices ∧ fairP l who prices)), .bool (B (checkP l n who prices))]) ∧ Below w.heap.size w w' := by
  by_cases hp : checkP l n who prices
  · have e : B (checkP l n who prices ∧ fairP l who prices) = B (fairP l who prices) := by
      by_cases hf : fairP l who prices
      · rw [B_t hf, B_t ⟨hp, hf⟩]
      · rw [B_f hf, B_f fun h => hf h.2]
    rw [e, B_t hp]; exact sCheck_t l who prices A A' A3 c c' c3 n w h h' h3 hl hc hs hl' hc' hl3 hp
  · rw [B_f hp, B_f (p := checkP l n who prices ∧ fairP l who prices) fun h => hp h.1]; exact sCheck_f l who prices A A' A3 c c' c3 n w h h' h3 hl hc hs hl' hc' hl3 hp
theorem iCheck_r (l : List Pk) (who prices : List Int) (A A' A3 : Option Addr) (c c' c3 : Nat) (n : Int) (w : World) (h : RdP w w.heap.size A l) (h' : RdL w w.heap.size A' 1 encInt who) (h3 : RdL w w.heap.size A3 1 encInt prices) (hl : l.length ≤ 1048576) (hc : l.length ≤ c) (hs : ∀ x ∈ l, Person_small 1048576 x) (hl' : who.length ≤ 1048576) (hc' : who.length ≤ c') (hl3 : prices.length ≤ 1048576) :
    Calls Try.prog 12 #[.slice A l.length c, .int .i64 n, .slice A' who.length c', .slice A3 prices.length c3] w fun e w' => e = .returned (.tuple #[.bool (B (checkP l n who prices ∧ fairP l who prices)), .bool (B (checkP l n who prices))]) ∧ Below w.heap.size w w' := by
  by_cases hp : checkP l n who prices
  · have e : B (checkP l n who prices ∧ fairP l who prices) = B (fairP l who prices) := by
      by_cases hf : fairP l who prices
      · rw [B_t hf, B_t ⟨hp, hf⟩]
      · rw [B_f hf, B_f fun h => hf h.2]
    rw [e, B_t hp]; exact iCheck_t l who prices A A' A3 c c' c3 n w h h' h3 hl hc hs hl' hc' hl3 hp
  · rw [B_f hp, B_f (p := checkP l n who prices ∧ fairP l who prices) fun h => hp h.1]; exact iCheck_f l who prices A A' A3 c c' c3 n w h h' h3 hl hc hs hl' hc' hl3 hp

theorem sSkillOf_r (l : List Pk) (who : List Int) (A A' : Option Addr) (c c' : Nat) (n : Int) (w : World) (h : RdP w w.heap.size A l) (h' : RdL w w.heap.size A' 1 encInt who) (hl : l.length ≤ 1048576) (hc : l.length ≤ c) (hs : ∀ x ∈ l, Person_small 1048576 x) (hl' : who.length ≤ 1048576) (hc' : who.length ≤ c') :
    Calls Try.prog 15 #[.slice A l.length c, .int .i64 n, .slice A' who.length c'] w fun e w' => e = .returned (.tuple #[.int .i64 (skillR l n who), .bool (B (placingP l n who))]) ∧ Below w.heap.size w w' := by
  by_cases hp : placingP l n who
  · rw [skillR_t hp, B_t hp]; exact sSkillOf_t l who A A' c c' n w h h' hl hc hs hl' hc' hp
  · rw [skillR_f hp, B_f hp]; exact sSkillOf_f l who A A' c c' n w h h' hl hc hs hl' hc' hp
theorem iSkillOf_r (l : List Pk) (who : List Int) (A A' : Option Addr) (c c' : Nat) (n : Int) (w : World) (h : RdP w w.heap.size A l) (h' : RdL w w.heap.size A' 1 encInt who) (hl : l.length ≤ 1048576) (hc : l.length ≤ c) (hs : ∀ x ∈ l, Person_small 1048576 x) (hl' : who.length ≤ 1048576) (hc' : who.length ≤ c') :
    Calls Try.prog 14 #[.slice A l.length c, .int .i64 n, .slice A' who.length c'] w fun e w' => e = .returned (.tuple #[.int .i64 (skillR l n who), .bool (B (placingP l n who))]) ∧ Below w.heap.size w w' := by
  by_cases hp : placingP l n who
  · rw [skillR_t hp, B_t hp]; exact iSkillOf_t l who A A' c c' n w h h' hl hc hs hl' hc' hp
  · rw [skillR_f hp, B_f hp]; exact iSkillOf_f l who A A' c c' n w h h' hl hc hs hl' hc' hp
end Go.Proofs.Ytpedfjcidbopiaa
