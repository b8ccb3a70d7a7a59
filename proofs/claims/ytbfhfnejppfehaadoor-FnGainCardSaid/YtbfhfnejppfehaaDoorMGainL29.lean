import Derived.Test.YtbfhfnejppfehaaDoorMGainL13
import Derived.Test.YtbfhfnejppfehaaDoorMGainL28
import Derived.Test.YtbfhfnejppfehaaDoorMGainL21
/-
  CheckPlacing of the program returns what the reference's returns, for all arguments: no condition.
-/
namespace Go.Proofs.YtbfhfnejppfehaaDoor
open Go.RowKit
set_option linter.unusedVariables false
set_option linter.unusedSimpArgs false
set_option maxRecDepth 100000

def checkP (l : List Pk) (n : Int) (who prices : List Int) : Prop := placingP l n who ∧ prices.length = l.length ∧ allIn prices 0 1000




end Go.Proofs.YtbfhfnejppfehaaDoor

/-
  SkillOf of the program returns what the reference's returns, for all arguments: no condition.
-/
namespace Go.Proofs.YtbfhfnejppfehaaDoor
open Go.RowKit
set_option linter.unusedVariables false
set_option linter.unusedSimpArgs false
set_option maxRecDepth 100000


end Go.Proofs.YtbfhfnejppfehaaDoor

/-
  Plain: the best placing with its prices passes the check; what passes the check is best.
-/
namespace Go.Proofs.YtbfhfnejppfehaaDoor
open Go.RowKit
set_option linter.unusedVariables false
set_option linter.unusedSimpArgs false
set_option maxRecDepth 100000

theorem place_good {l : List Pk} {n : Int} (h : bestP l n) : placingP l n (best l n.toNat []) ∧ checkP l n (best l n.toNat []) (prL l (best l n.toNat []) n.toNat) ∧ fairP l (best l n.toNat []) (prL l (best l n.toNat []) n.toNat) := by
  have hp := h.1
  have hN : ((n.toNat : Nat) : Int) = n := by have := hp.1.1; omega
  obtain ⟨h1, h2, h3⟩ := best_optS hp hN h.2
  have h0 : placingP l n (best l n.toNat []) := ⟨hp, by rw [h2]; exact hN, h1⟩
  have hq : PQ l (best l n.toNat []) n.toNat n.toNat (prL l (best l n.toNat []) n.toNat) :=
    ⟨prL_len _ _ _, fun i hi => by rw [prL_at _ _ hi]; exact Int.le_refl _, fun i hi => by rw [prL_at _ _ hi]; exact Int.le_refl _, fun _ _ _ _ hf => hf.elim⟩
  exact ⟨h0, ⟨h0, prL_len _ _ _, allIn_of (prL_len _ _ _) (hq.bd h3 hp hN)⟩, prL_fair h3 h1 h2 hp hN⟩
theorem place_top {l : List Pk} {n : Int} {who ps : List Int} (h : checkP l n who ps) (hf : fairP l who ps) : bestP l n ∧ placingP l n (best l n.toNat []) ∧ skTo l (best l n.toNat []) (best l n.toNat []).length = skTo l who who.length := by
  obtain ⟨⟨hp, hlen, hs⟩, hpl, hin⟩ := h
  have h3 := hp.1.1
  have hN : ((n.toNat : Nat) : Int) = n := by omega
  have hwN : who.length = n.toNat := by omega
  obtain ⟨h1, h2⟩ := best_opt (l := l) (N := n.toNat) (by omega) n.toNat [] who hs hwN (by simp) (by simp)
  obtain ⟨g1, g2, _⟩ := best_optS hp hN h1
  have ht := fair_top (n := n) hp (by rw [g2]; exact hN) hs g1 (by rw [g2, hwN]) hf (fun i => by
    by_cases hi : i < ps.length
    · exact (by rw [getD_get hi]; exact (hin _ (List.getElem_mem hi)).1)
    · rw [List.getD_eq_getElem?_getD, List.getElem?_eq_none (by omega)]; simp) (fun i hi => by
    rw [List.getD_eq_getElem?_getD, List.getElem?_eq_none (by omega)]; rfl)
  refine ⟨⟨hp, h1⟩, ⟨hp, by rw [g2]; exact hN, g1⟩, ?_⟩
  unfold sk at h2
  omega
open Classical in
noncomputable def bestR (l : List Pk) (n : Int) : List Int := if bestP l n then best l n.toNat [] else []
open Classical in
noncomputable def priceR (l : List Pk) (n : Int) : List Int := if bestP l n then prL l (best l n.toNat []) n.toNat else []
open Classical in
noncomputable def skillR (l : List Pk) (n : Int) (who : List Int) : Int := if placingP l n who then skTo l who who.length else 0
theorem bestR_t {l : List Pk} {n : Int} (h : bestP l n) : bestR l n = best l n.toNat [] := if_pos h
theorem bestR_f {l : List Pk} {n : Int} (h : ¬ bestP l n) : bestR l n = [] := if_neg h
theorem priceR_t {l : List Pk} {n : Int} (h : bestP l n) : priceR l n = prL l (best l n.toNat []) n.toNat := if_pos h
theorem priceR_f {l : List Pk} {n : Int} (h : ¬ bestP l n) : priceR l n = [] := if_neg h
theorem skillR_t {l : List Pk} {n : Int} {who : List Int} (h : placingP l n who) : skillR l n who = skTo l who who.length := if_pos h
theorem skillR_f {l : List Pk} {n : Int} {who : List Int} (h : ¬ placingP l n who) : skillR l n who = 0 := if_neg h
theorem bestR_bd (l : List Pk) (n : Int) : (bestR l n).length ≤ 7 := by
  by_cases h : bestP l n
  · rw [bestR_t h]; exact best_len h.1
  · rw [bestR_f h]; simp
theorem priceR_bd (l : List Pk) (n : Int) : (priceR l n).length ≤ 7 := by
  by_cases h : bestP l n
  · rw [priceR_t h]; exact prL_bd h _ _
  · rw [priceR_f h]; simp


theorem sBest_r (l : List Pk) (A : Option Addr) (c : Nat) (n : Int) (w : World) (h : RdP w w.heap.size A l) (hl : l.length ≤ 1048576) (hc : l.length ≤ c) (hs : ∀ x ∈ l, Person_small 1048576 x) :
    Calls Tryd.prog 113 #[.slice A l.length c, .int .i64 n] w fun e w' => ∃ A2 c2, e = .returned (.tuple #[.slice A2 (bestR l n).length c2, .bool (B (bestP l n))]) ∧ (bestR l n).length ≤ c2 ∧ RdL w' w'.heap.size A2 1 encInt (bestR l n) ∧ Below w.heap.size w w' := by
  by_cases hp : bestP l n
  · rw [bestR_t hp, B_t hp]; exact (sBestC_t l A c n w h hl hc hs hp).mono fun e w' ⟨A2, c2, h1, h2, h3, h4⟩ => ⟨A2, c2, h1, h2, h3.rd encInt_len, h4⟩
  · rw [bestR_f hp, B_f hp]; exact (sBest_f l A c n w h hl hc hs hp).mono fun e w' ⟨h1, h4⟩ => ⟨none, 0, h1, by simp, RdL.nil, h4⟩
theorem iBest_r (l : List Pk) (A : Option Addr) (c : Nat) (n : Int) (w : World) (h : RdP w w.heap.size A l) (hl : l.length ≤ 1048576) (hc : l.length ≤ c) (hs : ∀ x ∈ l, Person_small 1048576 x) :
    Calls Tryd.prog 26 #[.slice A l.length c, .int .i64 n] w fun e w' => ∃ A2 c2, e = .returned (.tuple #[.slice A2 (bestR l n).length c2, .bool (B (bestP l n))]) ∧ (bestR l n).length ≤ c2 ∧ RdL w' w'.heap.size A2 1 encInt (bestR l n) ∧ Below w.heap.size w w' := by
  by_cases hp : bestP l n
  · rw [bestR_t hp, B_t hp]; exact (iBestC_t l A c n w h hl hc hs hp).mono fun e w' ⟨A2, c2, h1, h2, h3, h4⟩ => ⟨A2, c2, h1, h2, h3.rd encInt_len, h4⟩
  · rw [bestR_f hp, B_f hp]; exact (iBest_f l A c n w h hl hc hs hp).mono fun e w' ⟨h1, h4⟩ => ⟨none, 0, h1, by simp, RdL.nil, h4⟩




end Go.Proofs.YtbfhfnejppfehaaDoor
