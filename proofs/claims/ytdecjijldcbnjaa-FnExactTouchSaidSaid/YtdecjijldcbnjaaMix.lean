/-
  A list of which a first part has been turned; an own list of ringers written at one place; the band behind one change, in plain words.
-/
import Derived.Test.YtdecjijldcbnjaaBand
import Derived.Test.YtdecjijldcbnjaaChgRow
namespace Go.Proofs.Ytdecjijldcbnjaa
open Go.RowKit
set_option linter.unusedVariables false
set_option linter.unusedSimpArgs false

section
variable {α : Type} (f : α → α)
/-- The first k elements are turned. -/
def mix : List α → Nat → List α
  | [], _ => []
  | x :: l, 0 => x :: l
  | x :: l, k + 1 => f x :: mix l k
theorem mix_zero (l : List α) : mix f l 0 = l := by cases l <;> rfl
theorem mix_len : ∀ (l : List α) (k : Nat), (mix f l k).length = l.length
  | [], _ => rfl
  | x :: l, 0 => rfl
  | x :: l, k + 1 => by simp [mix, mix_len l k]
theorem mix_all : ∀ (l : List α) (k : Nat), l.length ≤ k → mix f l k = l.map f
  | [], _, _ => rfl
  | x :: l, 0, h => by simp at h
  | x :: l, k + 1, h => by simp only [mix, List.map_cons]; rw [mix_all l k (by simpa using h)]
theorem mix_at : ∀ (l : List α) (k i : Nat) (hi : i < (mix f l k).length) (h2 : i < l.length), k ≤ i → (mix f l k)[i] = l[i]
  | x :: l, 0, i, _, _, _ => rfl
  | x :: l, k + 1, 0, _, _, h => by omega
  | x :: l, k + 1, i + 1, hi, h2, h => by
    simp only [mix, List.getElem_cons_succ]
    exact mix_at l k i _ (by simpa using h2) (by omega)
theorem mix_set : ∀ (l : List α) (k : Nat) (h : k < l.length), (mix f l k).set k (f l[k]) = mix f l (k + 1)
  | x :: l, 0, h => by simp [mix, mix_zero]
  | x :: l, k + 1, h => by
    simp only [mix, List.set_cons_succ, List.getElem_cons_succ]
    rw [mix_set l k (by simpa using h)]
end
section
variable {w : World} {b c g : Nat} {l : List Rgr}
theorem OwnL.cellRgr (h : OwnL w b c (some ⟨g, 0, none⟩) 2 Rgr.enc l) (k : Nat) (hk : k < l.length) : w.cell? ⟨g, k * 2, none⟩ = some (.int .i64 l[k].place) ∧ w.frozen? ⟨g, k * 2, none⟩ = false ∧ w.cell? ⟨g, k * 2 + 1, none⟩ = some (.bool l[k].deaf) ∧ w.frozen? ⟨g, k * 2 + 1, none⟩ = false := by
  rcases h with h | ⟨g', f, hA, h1, h2, h3, h4⟩
  · subst h; simp at hk
  · simp only [Option.some.injEq, Addr.mk.injEq, and_true] at hA
    subst hA
    have e0 := h4 k hk 0 _ rfl
    have e1 := h4 k hk 1 _ rfl
    have c0 := h3.cell (i := k * 2) (by omega)
    have c1 := h3.cell (i := k * 2 + 1) (by omega)
    rw [Nat.add_zero] at e0
    rw [e0] at c0
    rw [e1] at c1
    exact ⟨c0, h3.free (by omega), c1, h3.free (by omega)⟩
theorem OwnL.someRgr {A : Option Addr} (h : OwnL w b c A 2 Rgr.enc l) (hl : 0 < l.length) : ∃ g, A = some ⟨g, 0, none⟩ ∧ b ≤ g ∧ g < c ∧ g < w.heap.size := by
  obtain ⟨g, f, hA, h1, h2, h3⟩ := h.cells hl
  exact ⟨g, hA, h1, h2, h3.lt⟩
theorem OwnL.setRgr (h : OwnL w b c (some ⟨g, 0, none⟩) 2 Rgr.enc l) (k : Nat) (hk : k < l.length) (j : Nat) (hj : j < 2) (u : Value) (y : Rgr) (hy : Rgr.enc y = (Rgr.enc l[k]).set j u) : OwnL (w.setCell ⟨g, k * 2 + j, none⟩ u) b c (some ⟨g, 0, none⟩) 2 Rgr.enc (l.set k y) := by
  rcases h with h | ⟨g', f, hA, h1, h2, h3, h4⟩
  · subst h; simp at hk
  · simp only [Option.some.injEq, Addr.mk.injEq, and_true] at hA
    subst hA
    refine .inr ⟨g, _, rfl, h1, h2, by rw [List.length_set]; exact h3.set (i := k * 2 + j) (by omega) _, fun i hi m v hv => ?_⟩
    have hm : m < 2 := (List.getElem?_eq_some_iff.1 hv).1
    by_cases e : i = k
    · subst e
      rw [List.getElem_set_self, hy] at hv
      by_cases e2 : m = j
      · subst e2
        rw [upd_same]
        rw [List.getElem?_set_self (by rw [Rgr_enc_len]; omega)] at hv
        injection hv
      · rw [List.getElem?_set_ne (by omega)] at hv
        rw [upd_other _ _ _ _ (by omega)]
        exact h4 i hk m v hv
    · rw [List.getElem_set_ne (by omega)] at hv
      rw [upd_other _ _ _ _ (by omega)]
      exact h4 i (by simpa using hi) m v hv
theorem OwnL.setPlace (h : OwnL w b c (some ⟨g, 0, none⟩) 2 Rgr.enc l) (k : Nat) (hk : k < l.length) (v : Int) : OwnL (w.setCell ⟨g, k * 2, none⟩ (.int .i64 v)) b c (some ⟨g, 0, none⟩) 2 Rgr.enc (l.set k ⟨v, l[k].deaf⟩) :=
  h.setRgr k hk 0 (by omega) _ _ rfl
theorem OwnL.setDeaf (h : OwnL w b c (some ⟨g, 0, none⟩) 2 Rgr.enc l) (k : Nat) (hk : k < l.length) (v : Bool) : OwnL (w.setCell ⟨g, k * 2 + 1, none⟩ (.bool v)) b c (some ⟨g, 0, none⟩) 2 Rgr.enc (l.set k ⟨l[k].place, v⟩) :=
  h.setRgr k hk 1 (by omega) _ _ rfl
end
/-- The change at the band's step by the book. -/
def ownChg (b : Bnd) : ByteArray := b.m.x.getD b.step.toNat ByteArray.empty
/-- The change at the band's step for whoever heard the call. -/
def heardChg (b : Bnd) : ByteArray := if b.step = (b.m.x.length : Int) - 1 then (if b.call.toList = [98] then b.bob else if b.call.toList = [115] then b.sing else ownChg b) else ownChg b
/-- A ringer behind one change. -/
noncomputable def stepR (b : Bnd) (r : Rgr) : Rgr := ⟨((mvP b.m.stage.toNat (if r.deaf then ownChg b else heardChg b) r.place.toNat : Nat) : Int), r.deaf⟩
def hearR (r : Rgr) : Rgr := ⟨r.place, false⟩
/-- The ringers behind one change. -/
noncomputable def stepRs (b : Bnd) : List Rgr := if b.step = (b.m.x.length : Int) - 1 then (b.rx.map (stepR b)).map hearR else b.rx.map (stepR b)
theorem stepRs_len (b : Bnd) : (stepRs b).length = b.rx.length := by unfold stepRs; split <;> simp
/-- The step behind one change. -/
def stepN (b : Bnd) : Int := if b.step = (b.m.x.length : Int) - 1 then 0 else b.step + 1
def stepC (b : Bnd) : ByteArray := if b.step = (b.m.x.length : Int) - 1 then ⟨#[112]⟩ else b.call
noncomputable def stepT (b : Bnd) : ByteArray := timesS b.tru (chgS b.m.stage.toNat (heardChg b))
end Go.Proofs.Ytdecjijldcbnjaa
