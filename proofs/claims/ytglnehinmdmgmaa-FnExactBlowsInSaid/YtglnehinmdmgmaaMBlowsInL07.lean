import Derived.Test.YtglnehinmdmgmaaMBlowsInL02
import Derived.Laws.AppendOwn
import Derived.Maps.AppendAt
/-
  Words of our own that know no program: a list that the call itself makes, one append after the other.
-/
namespace Go.Proofs.Ytglnehinmdmgmaa
open Go.RowKit
set_option linter.unusedVariables false
set_option linter.unusedSimpArgs false

/-- The cells of a list, one element after the other. -/
def flat {α : Type} (enc : α → List Value) : List α → List Value
  | [] => []
  | x :: l => enc x ++ flat enc l
section
variable {α : Type} {enc : α → List Value} {size : Nat}
theorem flat_append (l m : List α) : flat enc (l ++ m) = flat enc l ++ flat enc m := by
  induction l with
  | nil => rfl
  | cons x l ih => simp [flat, ih]
theorem flat_len (henc : ∀ x, (enc x).length = size) (l : List α) : (flat enc l).length = l.length * size := by
  induction l with
  | nil => simp [flat]
  | cons x l ih => simp [flat, ih, henc, Nat.succ_mul]; omega
theorem flat_at (henc : ∀ x, (enc x).length = size) : ∀ (l : List α) (i : Nat) (hi : i < l.length) (j : Nat) (u : Value), (enc l[i])[j]? = some u → (flat enc l)[i * size + j]? = some u
  | x :: l, 0, hi, j, u, hu => by
    have hj : j < (enc x).length := (List.getElem?_eq_some_iff.1 hu).1
    simp only [flat]
    rw [Nat.zero_mul, Nat.zero_add, List.getElem?_append_left hj]
    exact hu
  | x :: l, i + 1, hi, j, u, hu => by
    simp only [flat]
    rw [List.getElem?_append_right (by rw [henc, Nat.succ_mul]; omega), henc]
    have := flat_at henc l i (by simpa using hi) j u (by simpa using hu)
    rw [show (i + 1) * size + j - size = i * size + j by rw [Nat.succ_mul]; omega]
    exact this
end

/-- The value v is a slice of the call's own (nil, or at the head of a block from base on) that holds the list. -/
def Grow {α : Type} (w : World) (base : Nat) (e : TypeId) (size : Nat) (enc : α → List Value) (v : Value) (l : List α) : Prop :=
  w.ownsRow base e size v l.length (flat enc l)

section
variable {α : Type} {w w' : World} {base : Nat} {e : TypeId} {size : Nat} {enc : α → List Value} {v : Value} {l : List α}
theorem Grow.nil : Grow w base e size enc (.slice none 0 0) ([] : List α) := ⟨by simp [flat], .inl ⟨rfl, rfl⟩⟩
/-- '[]T{}': a new block without cells. -/
theorem Grow.empty {b : Nat} (hb : b ≤ w.heap.size) : Grow (w.alloc (.cells #[] e)) b e size enc (.slice (some ⟨w.heap.size, 0, none⟩) 0 0) ([] : List α) :=
  ⟨by simp [flat], .inr ⟨w.heap.size, 0, #[], rfl, hb, heap_alloc_new w _, Nat.le_refl _, by simp [maxLen], by simp, by simp [flat]⟩⟩
theorem Grow.later (h : Grow w base e size enc v l) (hb : Below w.heap.size w w') : Grow w' base e size enc v l := by
  refine ⟨h.1, ?_⟩
  rcases h.2 with ⟨h1, h2⟩ | ⟨g, cap, cur, h1, h2, h3, h4⟩
  · exact .inl ⟨h1, h2⟩
  · refine .inr ⟨g, cap, cur, h1, h2, ?_, h4⟩
    have hlt : g < w.heap.size := by
      rcases Nat.lt_or_ge g w.heap.size with x | x
      · exact x
      · rw [Array.getElem?_eq_none x] at h3; cases h3
    exact (hb.block g hlt).trans h3
/-- A store below the base. -/
theorem Grow.set (h : Grow w base e size enc v l) {p : Addr} (hp : p.block < base) (u : Value) : Grow (w.setCell p u) base e size enc v l := by
  refine ⟨h.1, ?_⟩
  rcases h.2 with ⟨h1, h2⟩ | ⟨g, cap, cur, h1, h2, h3, h4⟩
  · exact .inl ⟨h1, h2⟩
  · exact .inr ⟨g, cap, cur, h1, h2, (Below.heap_setCell w p u g (by omega)).trans h3, h4⟩
theorem Grow.drewN (h : Grow w base e size enc v l) (n : Nat) : Grow (w.drewN n) base e size enc v l := h
theorem Grow.alloc (h : Grow w base e size enc v l) (o : Obj) : Grow (w.alloc o) base e size enc v l := h.later ((Below.refl _ _).alloc (Nat.le_refl _) o)
/-- What it is good for: a slice of the call's own. -/
theorem Grow.own (h : Grow w base e size enc v l) (henc : ∀ x, (enc x).length = size) : ∃ A c, v = .slice A l.length c ∧ OwnL w base w.heap.size A size enc l := by
  rcases h.2 with ⟨h1, h2⟩ | ⟨g, cap, cur, h1, h2, h3, h4, h5, h6, h7⟩
  · have : l = [] := List.eq_nil_of_length_eq_zero h2
    subst this
    exact ⟨none, 0, h1, .inl rfl⟩
  · refine ⟨_, cap, h1, .inr ⟨g, fun i => (flat enc l).getD i undef, rfl, h2, ?_, ?_, ?_⟩⟩
    · rcases Nat.lt_or_ge g w.heap.size with x | x
      · exact x
      · rw [Array.getElem?_eq_none x] at h3; cases h3
    · refine ⟨?_, fun i hi => ⟨?_, ?_⟩⟩
      · rcases Nat.lt_or_ge g w.heap.size with x | x
        · exact x
        · rw [Array.getElem?_eq_none x] at h3; cases h3
      · rw [cell_of_row w g i cur e (0, 0) h3]
        have hl := flat_len henc l
        have : (flat enc l)[i]? = cur[i]? := by
          rw [← h7, List.getElem?_take_of_lt (by omega)]
          simp
        rw [← this]
        show _ = some ((flat enc l).getD i undef)
        rw [List.getD_eq_getElem?_getD, List.getElem?_eq_getElem (by omega)]
        rfl
      · simp [World.frozen?, h3]
    · intro i hi j u hu
      show (flat enc l).getD (i * size + j) undef = u
      rw [List.getD_eq_getElem?_getD, flat_at henc l i hi j u hu]
      rfl
end

section
variable {P : Program} {ops : Array Oper} {rest : List Oper} {o : Oper} {a : Act} {Q : Exit → Act → World → Prop} {w : World}
/-- 'l = append(l, x)': its elements were just built in a block of their own. -/
theorem wpList_push {α : Type} (hgd : o.guard = none) (s x : Operand) (t : TypeId) (ho : o.op = .call { callee := .builtin .append, args := #[s, x], argTypes := #[t, t] })
    (base : Nat) (e : TypeId) (z : Value) (size bytes : Nat) (enc : α → List Value)
    (ht : P.underlying t = some (.slice e)) (hinfo : (P.info? e).map (fun i => (i.zero, i.size, i.bytes)) = some (some z, size, bytes)) (hzs : z.cells.size = size) (hsz : 0 < size)
    {news : List Value} {e' : TypeId} {g : Nat} (v : Value) (l ys : List α) (c : Nat) (hs : a.eval s = v) (hx : a.eval x = .slice (some ⟨g, 0, none⟩) ys.length c) (hg0 : g = w.heap.size)
    (hown : Grow w base e size enc v l) (hne : news = flat enc ys) (henc : ∀ x, (enc x).length = size) (h1 : ∀ u ∈ news, u.oneCell' = true)
    (hn : l.length + ys.length ≤ 1000000000) (hb : bytes ≤ 1000) (hbase : base ≤ w.heap.size)
    (h : ∀ v' w', Grow w' base e size enc v' (l ++ ys) → Below base w w' → w.grownBy w' v.ownBlock → wpList P ops Q rest (a.put o.dst v') w') :
    wpList P ops Q (o :: rest) a (w.alloc (.cells news.toArray e')) := by
  obtain ⟨i, hi, hzz⟩ := Option.map_eq_some_iff.1 hinfo
  simp only [Prod.mk.injEq] at hzz
  obtain ⟨hz, hs', hb'⟩ := hzz
  subst hne
  subst hg0
  have hmul : (l.length + ys.length) * bytes ≤ 1000000000 * 1000 := Nat.mul_le_mul hn hb
  refine wpList_append_own (P := P) _ hgd s x t ho base e i z size bytes ht hi hz hs' hb' hzs hsz v l.length (flat enc l) hs (hown.alloc _) ⟨w.heap.size, 0, none⟩ ys.length c (flat enc ys) hx (flat_len henc ys)
    (fun j u hu => by
      have e : (⟨w.heap.size, 0, none⟩ : Addr).add j = ⟨w.heap.size, j, none⟩ := by unfold Addr.add; split <;> simp_all
      rw [e, World.cell?_alloc_new]; simpa using hu) h1 (by unfold maxLen; omega) (by omega) (by simp; omega) ?_
  intro v' w' hown' hg _
  have hr : ∀ k, v.ownBlock = some k → base ≤ k := fun k hk => by
    rcases hown.2 with ⟨rfl, _⟩ | ⟨g, cap, cur, rfl, hbg, _⟩
    · simp [Value.ownBlock] at hk
    · simp [Value.ownBlock] at hk; omega
  refine h v' w' ?_ ?_ ?_
  · unfold Grow
    rw [List.length_append, flat_append]
    exact hown'
  · exact ((Below.refl base w).alloc hbase _).grown hg (by simp; omega) hr
  · exact ⟨hg.os, hg.tape, hg.output, Nat.le_trans (by simp) hg.size, fun k hk hne => (hg.block k (by simp; omega) hne).trans (Below.heap_alloc w _ k hk)⟩
end
end Go.Proofs.Ytglnehinmdmgmaa

/-
  Words of our own that know no program: a slice of elements that each hold a slice of integers: read, owned, made by append.
-/
namespace Go.Proofs.Ytglnehinmdmgmaa
open Go.RowKit
set_option linter.unusedVariables false
set_option linter.unusedSimpArgs false

section
variable {δ β : Type} {enc : δ → List Value} {size : Nat} {iA : δ → Option Addr} {ix : δ → List β} {eb : β → List Value} {ib : Nat}
/-- An outer slice that reads as a list of elements, each with an inner slice that reads as a list. -/
def RdN (w : World) (b : Nat) (A : Option Addr) (size : Nat) (enc : δ → List Value) (iA : δ → Option Addr) (ix : δ → List β) (ib : Nat) (eb : β → List Value) (D : List δ) : Prop :=
  RdL w b A size enc D ∧ ∀ d ∈ D, RdL w b (iA d) ib eb (ix d)
/-- All inner blocks lie apart, none is the outer one; all lie from b on, ahead of c. -/
def OwnN (w : World) (b c : Nat) (A : Option Addr) (size : Nat) (enc : δ → List Value) (iA : δ → Option Addr) (ix : δ → List β) (ib : Nat) (eb : β → List Value) (D : List δ) : Prop :=
  D = [] ∨ ∃ (g : Nat) (h : Nat → Nat), b ≤ g ∧ g < c ∧ OwnL w g (g + 1) A size enc D ∧
    ∀ (i : Nat) (hi : i < D.length), b ≤ h i ∧ h i < c ∧ h i ≠ g ∧ OwnL w (h i) (h i + 1) (iA D[i]) ib eb (ix D[i]) ∧ ∀ j, j < i → h j ≠ h i
variable {w w' : World} {b b' c c' : Nat} {A : Option Addr} {D : List δ}
theorem RdN.below {k : Nat} (h : RdN w b A size enc iA ix ib eb D) (hb : Below k w w') (hc : b ≤ k) : RdN w' b A size enc iA ix ib eb D :=
  ⟨h.1.below hb hc, fun d hd => (h.2 d hd).below hb hc⟩
theorem RdN.more (h : RdN w b A size enc iA ix ib eb D) (hb : b ≤ b') : RdN w b' A size enc iA ix ib eb D :=
  ⟨h.1.more hb, fun d hd => (h.2 d hd).more hb⟩
theorem OwnN.nil : OwnN w b c A size enc iA ix ib eb ([] : List δ) := .inl rfl
theorem OwnN.rd (h : OwnN w b c A size enc iA ix ib eb D) (henc : ∀ x, (enc x).length = size) (heb : ∀ x, (eb x).length = ib) : RdN w w.heap.size A size enc iA ix ib eb D := by
  rcases h with h | ⟨g, h, _, _, ho, hi⟩
  · subst h; exact ⟨.inl rfl, by simp⟩
  · refine ⟨ho.rd henc, fun d hd => ?_⟩
    obtain ⟨i, hlt, rfl⟩ := List.getElem_of_mem hd
    exact (hi i hlt).2.2.2.1.rd heb
theorem OwnN.later (h : OwnN w b c A size enc iA ix ib eb D) (hb : Below w.heap.size w w') : OwnN w' b c A size enc iA ix ib eb D := by
  rcases h with h | ⟨g, h, h1, h2, ho, hi⟩
  · exact .inl h
  · exact .inr ⟨g, h, h1, h2, ho.later hb, fun i hlt => ⟨(hi i hlt).1, (hi i hlt).2.1, (hi i hlt).2.2.1, (hi i hlt).2.2.2.1.later hb, (hi i hlt).2.2.2.2⟩⟩
theorem OwnN.chg (h : OwnN w b c A size enc iA ix ib eb D) (k : Chg b' c' w w') (hr : c ≤ b' ∨ c' ≤ b) : OwnN w' b c A size enc iA ix ib eb D := by
  rcases h with h | ⟨g, h, h1, h2, ho, hi⟩
  · exact .inl h
  · exact .inr ⟨g, h, h1, h2, ho.chg k (by omega), fun i hlt => ⟨(hi i hlt).1, (hi i hlt).2.1, (hi i hlt).2.2.1, (hi i hlt).2.2.2.1.chg k (by have := hi i hlt; omega), (hi i hlt).2.2.2.2⟩⟩
theorem OwnN.mono (h : OwnN w b c A size enc iA ix ib eb D) (hb : b' ≤ b) (hc : c ≤ c') : OwnN w b' c' A size enc iA ix ib eb D := by
  rcases h with h | ⟨g, h, h1, h2, ho, hi⟩
  · exact .inl h
  · exact .inr ⟨g, h, by omega, by omega, ho, fun i hlt => ⟨by have := hi i hlt; omega, by have := hi i hlt; omega, (hi i hlt).2.2⟩⟩
theorem OwnL.congr {α : Type} {enc : α → List Value} {l l' : List α} (h : OwnL w b c A size enc l) (hl : l.length = l'.length) (he : ∀ (i : Nat) (h1 : i < l.length) (h2 : i < l'.length), enc l'[i] = enc l[i]) : OwnL w b c A size enc l' := by
  rcases h with h | ⟨g, f, rfl, hg, hg2, hc, hf⟩
  · subst h; exact .inl (List.eq_nil_of_length_eq_zero (by simpa using hl.symm))
  · exact .inr ⟨g, f, rfl, hg, hg2, by rw [← hl]; exact hc, fun i hi j u hu => hf i (by omega) j u (by rw [← he i (by omega) hi]; exact hu)⟩

/-- The value v is a slice of the call's own, made by append, whose elements' inner slices lie in blocks of their own. -/
def GrowN (w : World) (base : Nat) (e : TypeId) (size : Nat) (enc : δ → List Value) (iA : δ → Option Addr) (ix : δ → List β) (ib : Nat) (eb : β → List Value) (v : Value) (D : List δ) : Prop :=
  Grow w base e size enc v D ∧ ∃ h : Nat → Nat, ∀ (i : Nat) (hi : i < D.length), base ≤ h i ∧ h i < w.heap.size ∧ v.ownBlock ≠ some (h i) ∧ OwnL w (h i) (h i + 1) (iA D[i]) ib eb (ix D[i]) ∧ ∀ j, j < i → h j ≠ h i
variable {base : Nat} {e : TypeId} {v : Value}
theorem GrowN.nil : GrowN w base e size enc iA ix ib eb (.slice none 0 0) ([] : List δ) := ⟨Grow.nil, fun i => i, fun i hi => by simp at hi⟩
theorem GrowN.empty (hb : b ≤ w.heap.size) : GrowN (w.alloc (.cells #[] e)) b e size enc iA ix ib eb (.slice (some ⟨w.heap.size, 0, none⟩) 0 0) ([] : List δ) := ⟨Grow.empty hb, fun i => i, fun i hi => by simp at hi⟩
theorem GrowN.later (h : GrowN w base e size enc iA ix ib eb v D) (hb : Below w.heap.size w w') : GrowN w' base e size enc iA ix ib eb v D := by
  obtain ⟨h1, h, hi⟩ := h
  exact ⟨h1.later hb, h, fun i hlt => ⟨(hi i hlt).1, Nat.lt_of_lt_of_le (hi i hlt).2.1 hb.size, (hi i hlt).2.2.1, (hi i hlt).2.2.2.1.later hb, (hi i hlt).2.2.2.2⟩⟩
theorem GrowN.drewN (h : GrowN w base e size enc iA ix ib eb v D) (k : Nat) : GrowN (w.drewN k) base e size enc iA ix ib eb v D := h
theorem Grow.ownB {α : Type} {enc : α → List Value} {l : List α} (h : Grow w base e size enc v l) (henc : ∀ x, (enc x).length = size) (hl : 0 < l.length) : ∃ g A c, v.ownBlock = some g ∧ base ≤ g ∧ g < w.heap.size ∧ v = .slice A l.length c ∧ OwnL w g (g + 1) A size enc l := by
  obtain ⟨A, c, hv, ho⟩ := h.own henc
  rcases ho with h0 | ⟨g, f, rfl, h1, h2, h3⟩
  · subst h0; simp at hl
  · exact ⟨g, some ⟨g, 0, none⟩, c, by rw [hv]; rfl, h1, h2, hv, .inr ⟨g, f, rfl, Nat.le_refl _, by omega, h3⟩⟩
theorem GrowN.own (h : GrowN w base e size enc iA ix ib eb v D) (henc : ∀ x, (enc x).length = size) : ∃ A c, v = .slice A D.length c ∧ OwnN w base w.heap.size A size enc iA ix ib eb D := by
  obtain ⟨h1, h, hi⟩ := h
  rcases Nat.eq_zero_or_pos D.length with h0 | hpos
  · obtain ⟨A, c, hv, _⟩ := h1.own henc
    exact ⟨A, c, hv, .inl (List.eq_nil_of_length_eq_zero h0)⟩
  · obtain ⟨g, A, c, hb, hg1, hg2, hv, ho⟩ := h1.ownB henc hpos
    exact ⟨A, c, hv, .inr ⟨g, h, hg1, hg2, ho, fun i hlt => ⟨(hi i hlt).1, (hi i hlt).2.1, fun he => (hi i hlt).2.2.1 (by rw [hb, he]), (hi i hlt).2.2.2.1, (hi i hlt).2.2.2.2⟩⟩⟩
end

section
variable {P : Program} {ops : Array Oper} {rest : List Oper} {o : Oper} {a : Act} {Q : Exit → Act → World → Prop} {w : World}
end
end Go.Proofs.Ytglnehinmdmgmaa
