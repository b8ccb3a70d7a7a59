/-
  The law of placings, plain: fair prices certify a placing as the best.
-/
import Derived.Test.YtpedfjcidbopiaaMedian
import Derived.Test.YtpedfjcidbopiaaCheck
set_option linter.unusedVariables false
set_option linter.unusedSimpArgs false
namespace Go.Proofs.Ytpedfjcidbopiaa
theorem sumF_sub_list (p : Nat → Int) (hp : ∀ i, 0 ≤ p i) : ∀ (L M : List Nat), L.Nodup → (∀ x ∈ L, p x ≠ 0 → x ∈ M) → sumF p L ≤ sumF p M
  | [], M, _, _ => sumF_nonneg p M fun x _ => hp x
  | x :: L, M, hn, h => by
    obtain ⟨h1, h2⟩ := List.nodup_cons.1 hn
    by_cases e : p x = 0
    · have := sumF_sub_list p hp L M h2 (fun y hy => h y (List.mem_cons_of_mem _ hy))
      simp only [sumF]; omega
    · have hx := h x List.mem_cons_self e
      have := sumF_sub_list p hp L (M.erase x) h2 (fun y hy he => by
        have := h y (List.mem_cons_of_mem _ hy) he
        exact (List.mem_erase_of_ne (fun ee : y = x => h1 (by rw [← ee]; exact hy))).2 this)
      rw [sumF_perm p (List.perm_cons_erase hx)]
      simp only [sumF]; omega
/-- What is paid for the first k bells. -/
def payTo (prices who : List Int) : Nat → Int
  | 0 => 0
  | k + 1 => payTo prices who k + prices.getD (who.getD k 0).toNat 0
theorem fair_sum {l : List Pk} {who prices y : List Int} (hf : fairP l who prices) (hl : y.length = who.length) (hy : ∀ b, b < y.length → (y.getD b 0).toNat < l.length ∧ 0 < skB l y b) : ∀ k, k ≤ y.length → skTo l y k + payTo prices who k ≤ skTo l who k + payTo prices y k
  | 0, _ => by simp [skTo, payTo]
  | k + 1, hk => by
    have ih := fair_sum hf hl hy k (by omega)
    obtain ⟨h1, h2⟩ := hy k (by omega)
    have := (hf _ h1).2 k (by omega)
    unfold fairAt at this
    have := this h2
    have e : (skAt l (y.getD k 0).toNat).getD k 0 = skB l y k := rfl
    rw [e] at this
    simp only [skTo, payTo]; omega
theorem payTo_sum (prices y : List Int) : ∀ k, payTo prices y k = sumF (fun i => prices.getD i 0) ((List.range k).map fun b => (y.getD b 0).toNat)
  | 0 => rfl
  | k + 1 => by rw [sumF_map, sumF_range_succ, ← sumF_map (fun i => prices.getD i 0), ← payTo_sum prices y k]; rfl
theorem seats_ne {l : List Pk} {y : List Int} (h : seatsP l y) {b c : Nat} (hbc : b < c) (hc : c < y.length) : (y.getD b 0).toNat ≠ (y.getD c 0).toNat := fun e => by
  obtain ⟨⟨b1, b2⟩, _, _⟩ := h b (by omega)
  obtain ⟨⟨c1, c2⟩, hn, _⟩ := h c hc
  have hb : b < y.length := by omega
  rw [List.getD_eq_getElem?_getD, List.getElem?_eq_getElem hb] at e b1
  exact hn ⟨b, hb, hbc, by simp only [Option.getD_some] at e b1; omega⟩
theorem seats_nodup {l : List Pk} {y : List Int} (h : seatsP l y) : ((List.range y.length).map fun b => (y.getD b 0).toNat).Nodup :=
  List.pairwise_map.2 (List.Pairwise.imp_of_mem (fun {b c} hb hc hlt => seats_ne h hlt (List.mem_range.1 hc)) List.pairwise_lt_range)
/-- Fair prices certify: no placing is better. -/
theorem fair_top {l : List Pk} {n : Int} {who prices y : List Int} (hp : peopleP l n) (hn : (y.length : Int) = n) (hw : seatsP l who) (hs : seatsP l y) (hl : y.length = who.length) (hf : fairP l who prices) (h0 : ∀ i, 0 ≤ prices.getD i 0) (hz : ∀ i, l.length ≤ i → prices.getD i 0 = 0) : skTo l y y.length ≤ skTo l who who.length := by
  have h1 := fair_sum hf hl (fun b hb => by
    obtain ⟨⟨b1, b2⟩, _, b3⟩ := hs b hb
    have hi : (y.getD b 0).toNat < l.length := by omega
    obtain ⟨h5, h6, _⟩ := people_skill hp hi (b := b) (by omega)
    refine ⟨hi, ?_⟩
    unfold skB
    rw [List.getD_eq_getElem?_getD, List.getElem?_eq_getElem h5] at b3 ⊢
    simp only [Option.getD_some] at b3 ⊢
    omega) y.length (Nat.le_refl _)
  have h2 : payTo prices y y.length ≤ payTo prices who who.length := by
    rw [payTo_sum, payTo_sum]
    refine sumF_sub_list _ h0 _ _ (seats_nodup hs) fun x hx hne => ?_
    by_cases hxl : x < l.length
    · obtain ⟨j, hj, hj2, e⟩ := (hf x hxl).1 hne
      refine List.mem_map.2 ⟨j, List.mem_range.2 hj, ?_⟩
      rw [List.getD_eq_getElem?_getD, List.getElem?_eq_getElem hj]
      simp only [Option.getD_some]; omega
    · exact absurd (hz x (by omega)) hne
  rw [← hl] at h2 ⊢
  omega
end Go.Proofs.Ytpedfjcidbopiaa
