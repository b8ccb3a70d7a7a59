import Derived.Test.YtbfhfnejppfehaaDoorMGainL03
import Derived.Test.YtbfhfnejppfehaaDoorMGainL04
/-
  Words of our own that know no program: a whole list appended; an own list of integers written.
-/
namespace Go.Proofs.YtbfhfnejppfehaaDoor
open Go.RowKit
set_option linter.unusedVariables false
set_option linter.unusedSimpArgs false

theorem flat_inv {α : Type} {enc : α → List Value} {size : Nat} (henc : ∀ x, (enc x).length = size) : ∀ (l : List α) (j : Nat) (u : Value), (flat enc l)[j]? = some u → ∃ (i : Nat) (hi : i < l.length) (k : Nat), j = i * size + k ∧ (enc l[i])[k]? = some u
  | [], j, u, h => by simp [flat] at h
  | x :: l, j, u, h => by
    simp only [flat] at h
    by_cases hj : j < (enc x).length
    · rw [List.getElem?_append_left hj] at h
      exact ⟨0, by simp, j, by simp, by simpa using h⟩
    · rw [List.getElem?_append_right (by omega)] at h
      obtain ⟨i, hi, k, e, hk⟩ := flat_inv henc l _ u h
      rw [henc] at e hj
      exact ⟨i + 1, by simpa using hi, k, by rw [Nat.succ_mul]; omega, by simpa using hk⟩
section
variable {P : Program} {ops : Array Oper} {rest : List Oper} {o : Oper} {a : Act} {Q : Exit → Act → World → Prop} {w : World}
/-- 'l = append(l, ys...)': ys reads as a list that is not empty. -/
theorem wpList_pushAll {α : Type} (hgd : o.guard = none) (s x : Operand) (t : TypeId) (ho : o.op = .call { callee := .builtin .append, args := #[s, x], argTypes := #[t, t] })
    (base : Nat) (e : TypeId) (z : Value) (size bytes : Nat) (enc : α → List Value)
    (ht : P.underlying t = some (.slice e)) (hinfo : (P.info? e).map (fun i => (i.zero, i.size, i.bytes)) = some (some z, size, bytes)) (hzs : z.cells.size = size) (hsz : 0 < size)
    (v : Value) (l ys : List α) (A : Option Addr) (c b : Nat) (hs : a.eval s = v) (hx : a.eval x = .slice A ys.length c) (hr : RdL w b A size enc ys) (hne : 0 < ys.length)
    (hown : Grow w base e size enc v l) (henc : ∀ x, (enc x).length = size) (h1 : ∀ x, ∀ u ∈ enc x, u.oneCell' = true)
    (hn : l.length + ys.length ≤ 1000000000) (hb : bytes ≤ 1000) (hbase : base ≤ w.heap.size)
    (h : ∀ v' w', Grow w' base e size enc v' (l ++ ys) → Below base w w' → w.grownBy w' v.ownBlock → wpList P ops Q rest (a.put o.dst v') w') :
    wpList P ops Q (o :: rest) a w := by
  obtain ⟨i, hi, hzz⟩ := Option.map_eq_some_iff.1 hinfo
  simp only [Prod.mk.injEq] at hzz
  obtain ⟨hz, hs', hb'⟩ := hzz
  have hmul : (l.length + ys.length) * bytes ≤ 1000000000 * 1000 := Nat.mul_le_mul hn hb
  obtain ⟨g, off, hA, _, _⟩ := hr.at (k := 0) hne
  subst hA
  refine wpList_append_own (P := P) _ hgd s x t ho base e i z size bytes ht hi hz hs' hb' hzs hsz v l.length (flat enc l) hs hown ⟨g, off, none⟩ ys.length c (flat enc ys) hx (flat_len henc ys)
    (fun j u hu => by
      obtain ⟨i, hi, k, rfl, hk⟩ := flat_inv henc ys j u hu
      obtain ⟨g', off', hA', _, hcell⟩ := hr.at hi
      simp only [Option.some.injEq, Addr.mk.injEq, and_true] at hA'
      obtain ⟨rfl, rfl⟩ := hA'
      have e : (⟨g, off, none⟩ : Addr).add (i * size + k) = ⟨g, off + (i * size + k), none⟩ := by unfold Addr.add; split <;> simp_all
      rw [e]; exact hcell k u hk) (fun u hu => by
      obtain ⟨j, hj⟩ := List.getElem?_of_mem hu
      obtain ⟨i, hi, k, _, hk⟩ := flat_inv henc ys j u hj
      exact h1 _ u (List.mem_of_getElem? hk)) (by unfold maxLen; omega) (by omega) hbase ?_
  intro v' w' hown' hg _
  have hr : ∀ k, v.ownBlock = some k → base ≤ k := fun k hk => by
    rcases hown.2 with ⟨rfl, _⟩ | ⟨g, cap, cur, rfl, hbg, _⟩
    · simp [Value.ownBlock] at hk
    · simp [Value.ownBlock] at hk; omega
  refine h v' w' ?_ ?_ hg
  · unfold Grow
    rw [List.length_append, flat_append]
    exact hown'
  · exact (Below.refl base w).grown hg hbase hr
end
theorem Grow.capN {α : Type} {w : World} {base : Nat} {e : TypeId} {size : Nat} {enc : α → List Value} {l : List α} {A : Option Addr} {n c : Nat} (h : Grow w base e size enc (.slice A n c) l) : n ≤ c := by
  rcases h.2 with ⟨h1, h2⟩ | ⟨g, cap, cur, h1, h2, h3, h4, h5, _⟩
  · injection h1 with _ e1 e2; omega
  · injection h1 with _ e1 e2; omega
section
variable {w : World} {b c g : Nat} {l : List Int}
theorem OwnL.some_of {A : Option Addr} (h : OwnL w b c A 1 encInt l) (hl : 0 < l.length) : ∃ g, A = some ⟨g, 0, none⟩ ∧ b ≤ g ∧ g < c ∧ g < w.heap.size := by
  obtain ⟨g, f, hA, h1, h2, h3⟩ := h.cells hl
  exact ⟨g, hA, h1, h2, h3.lt⟩
theorem OwnL.cellInt (h : OwnL w b c (some ⟨g, 0, none⟩) 1 encInt l) (k : Nat) (hk : k < l.length) : w.cell? ⟨g, k, none⟩ = some (.int .i64 l[k]) ∧ w.frozen? ⟨g, k, none⟩ = false := by
  rcases h with h | ⟨g', f, hA, h1, h2, h3, h4⟩
  · subst h; simp at hk
  · simp only [Option.some.injEq, Addr.mk.injEq, and_true] at hA
    subst hA
    have := h4 k hk 0 _ rfl
    have hc := h3.cell (i := k) (by omega)
    rw [Nat.mul_one, Nat.add_zero] at this
    rw [this] at hc
    exact ⟨hc, h3.free (by omega)⟩
theorem OwnL.setInt (h : OwnL w b c (some ⟨g, 0, none⟩) 1 encInt l) (k : Nat) (hk : k < l.length) (v : Int) : OwnL (w.setCell ⟨g, k, none⟩ (.int .i64 v)) b c (some ⟨g, 0, none⟩) 1 encInt (l.set k v) := by
  rcases h with h | ⟨g', f, hA, h1, h2, h3, h4⟩
  · subst h; simp at hk
  · simp only [Option.some.injEq, Addr.mk.injEq, and_true] at hA
    subst hA
    refine .inr ⟨g, _, rfl, h1, h2, by rw [List.length_set]; exact h3.set (i := k) (by omega) _, fun i hi j u hu => ?_⟩
    have hj : j = 0 := by have := (List.getElem?_eq_some_iff.1 hu).1; simp [encInt] at this; exact this
    subst hj
    by_cases e : i = k
    · subst e
      rw [List.getElem_set_self] at hu
      rw [Nat.mul_one, Nat.add_zero, upd_same]
      simpa [encInt] using hu
    · rw [List.getElem_set_ne (by omega)] at hu
      rw [Nat.mul_one, Nat.add_zero, upd_other _ _ _ _ (by omega)]
      have := h4 i (by simpa using hi) 0 u hu
      rw [Nat.mul_one, Nat.add_zero] at this
      exact this
end
end Go.Proofs.YtbfhfnejppfehaaDoor
