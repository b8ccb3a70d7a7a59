/-
  The reader of choices: values with weights.
-/
import Derived.Test.YtpedfjcidbopiaaCur
import Derived.Test.YtpedfjcidbopiaaGrowA
import Derived.Deep.CutRange
namespace Go.Proofs.Ytpedfjcidbopiaa
open Go.RowKit
set_option linter.unusedVariables false
set_option linter.unusedSimpArgs false
set_option maxRecDepth 100000

theorem Grow.keptBy {α : Type} {enc : α → List Value} {w w' : World} {base : Nat} {e : TypeId} {size : Nat} {v : Value} {l : List α} {o : Option Nat} (h : Grow w base e size enc v l) (hg : w.grownBy w' o) (hne : ∀ g, v.ownBlock = some g → some g ≠ o) : Grow w' base e size enc v l := by
  have hlt := h.block_lt
  refine ⟨h.1, ?_⟩
  rcases h.2 with ⟨h1, h2⟩ | ⟨g, cap, cur, h1, h2, h3, h4⟩
  · exact .inl ⟨h1, h2⟩
  · have e1 : v.ownBlock = some g := by rw [h1]; rfl
    exact .inr ⟨g, cap, cur, h1, h2, (hg.block g (hlt g e1) (hne g e1)).trans h3, h4⟩
theorem Grow.turn {α : Type} {enc : α → List Value} {w w' : World} {base : Nat} {e : TypeId} {size : Nat} {v : Value} {l : List α} {g0 : Nat} (h : Grow w base e size enc v l) (hg : Turn g0 w w') (hb : g0 < base) : Grow w' base e size enc v l := by
  have hlt := h.block_lt
  refine ⟨h.1, ?_⟩
  rcases h.2 with ⟨h1, h2⟩ | ⟨g, cap, cur, h1, h2, h3, h4⟩
  · exact .inl ⟨h1, h2⟩
  · have e1 : v.ownBlock = some g := by rw [h1]; rfl
    exact .inr ⟨g, cap, cur, h1, h2, (hg.block g (hlt g e1) (by omega)).trans h3, h4⟩
theorem Turn.thenB {g : Nat} {a b c : World} (h : Turn g a b) (k : Below a.heap.size b c) : Turn g a c :=
  ⟨k.os.trans h.os, k.tape.trans h.tape, k.output.trans h.output, Nat.le_trans h.size k.size, fun i hi hr => (k.block i hi).trans (h.block i hi hr)⟩
/-- Two slices of the call's own lie apart. -/
def Apart (a b : Value) : Prop := ∀ g, a.ownBlock = some g → some g ≠ b.ownBlock
theorem Apart.swap {a b : Value} (h : Apart a b) : Apart b a := fun g hg e => h g (e.symm.trans rfl) hg.symm
theorem Apart.grow {a b a' : Value} {m : Nat} (h : Apart a b) (hb : ∀ g, b.ownBlock = some g → g < m) (ha : a'.ownBlock = a.ownBlock ∨ a'.ownBlock = some (m + 1)) : Apart a' b := by
  intro g hg e
  rcases ha with ha | ha
  · exact h g (ha ▸ hg) e
  · rw [ha] at hg
    have := hb g e.symm
    injection hg with hg
    omega
theorem RdL.tail1 {w : World} {b g o : Nat} {y : Int} {l : List Int} (h : RdL w b (some ⟨g, o, none⟩) 1 encInt (y :: l)) : RdL w b (some ⟨g, o + 1, none⟩) 1 encInt l := by
  rcases h with h | ⟨g', off, hA, hg, hc⟩
  · cases h
  · injection hA with hA; injection hA with h1 h2
    subst h1 h2
    refine .inr ⟨g, o + 1, rfl, hg, fun i hi j u hu => ?_⟩
    have := hc (i + 1) (by simpa using hi) j u (by simpa using hu)
    rw [show o + 1 + (i * 1 + j) = o + ((i + 1) * 1 + j) by omega]
    exact this
theorem RdL.set0 {w : World} {b g : Nat} {x y : Int} {l : List Int} (h : RdL w b (some ⟨g, 0, none⟩) 1 encInt (y :: l)) : RdL (w.setCell ⟨g, 0, none⟩ (.int .i64 x)) b (some ⟨g, 0, none⟩) 1 encInt (x :: l) := by
  rcases h with h | ⟨g', off, hA, hg, hc⟩
  · cases h
  · injection hA with hA; injection hA with h1 h2
    subst h1 h2
    refine .inr ⟨g, 0, rfl, hg, fun i hi j u hu => ?_⟩
    have hj : j = 0 := by
      have := (List.getElem?_eq_some_iff.1 hu).1
      simp [encInt] at this; omega
    subst hj
    cases i with
    | zero =>
      have h0 := hc 0 (by simp) 0 _ rfl
      simp [encInt] at hu h0
      subst hu
      exact World.cell?_setCell_same _ _ _ (by simpa using h0)
    | succ i =>
      have h0 := hc (i + 1) (by simpa using hi) 0 u (by simpa using hu)
      rw [World.cell?_setCell_other _ _ _ _ (fun e => by injection e with _ e; omega)]
      exact h0
theorem RdL.setOther {w : World} {b : Nat} {A : Option Addr} {l : List Int} {p : Addr} {u : Value} (h : RdL w b A 1 encInt l) (hne : ∀ g off, A = some ⟨g, off, none⟩ → g ≠ p.block) : RdL (w.setCell p u) b A 1 encInt l := by
  rcases h with h | ⟨g, off, rfl, hg, hc⟩
  · exact .inl h
  · exact .inr ⟨g, off, rfl, hg, fun i hi j v hv => (World.cell?_setCell_other _ _ _ _ (fun e => hne g off rfl (congrArg Addr.block e).symm)).trans (hc i hi j v hv)⟩
theorem RdL.turn {w w' : World} {b g : Nat} {A : Option Addr} {l : List Int} (h : RdL w b A 1 encInt l) (ht : Turn g w w') (hb : b ≤ w.heap.size) (hne : ∀ q off, A = some ⟨q, off, none⟩ → q ≠ g) : RdL w' b A 1 encInt l := by
  rcases h with h | ⟨q, off, rfl, hg, hc⟩
  · exact .inl h
  · exact .inr ⟨q, off, rfl, hg, fun i hi j v hv => (ht.cell (p := ⟨q, _, none⟩) (Nat.lt_of_lt_of_le hg hb) (hne q off rfl)).trans (hc i hi j v hv)⟩
end Go.Proofs.Ytpedfjcidbopiaa
