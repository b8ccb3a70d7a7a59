import Derived.Test.YtglnehinmdmgmaaGreatMErrorsL01
import Derived.Maps.AppendAt
import Derived.Deep.AppendLies
import Derived.Deep.RegionLaw
import Derived.Test.YtglnehinmdmgmaaGreatMErrorsL03
import Derived.Deep.CutRange
import Derived.Test.YtglnehinmdmgmaaGreatMErrorsL00
/-
  Words of our own that know no program: a slice of elements that each hold a slice of integers: read, owned, made by append.
-/
namespace Go.Proofs.YtglnehinmdmgmaaGreat
open Go.RowKit
set_option linter.unusedVariables false
set_option linter.unusedSimpArgs false

section
variable {δ β : Type} {enc : δ → List Value} {size : Nat} {iA : δ → Option Addr} {ix : δ → List β} {eb : β → List Value} {ib : Nat}
/-- An outer slice that reads as a list of elements, each with an inner slice that reads as a list. -/
def RdN (w : World) (b : Nat) (A : Option Addr) (size : Nat) (enc : δ → List Value) (iA : δ → Option Addr) (ix : δ → List β) (ib : Nat) (eb : β → List Value) (D : List δ) : Prop :=
  RdL w b A size enc D ∧ ∀ d ∈ D, RdL w b (iA d) ib eb (ix d)
/-- All inner blocks lie apart, none is the outer one; all lie from b on, ahead of c. -/
def OwnN (w : World) (b c : Nat) (A : Option Addr) (size : Nat) (enc : δ → List Value) (iA : δ → Option Addr) (ix : δ → List β) (ib : Nat) (eb : β → List Value) (D : List δ) : Prop :=
  D = [] ∨ ∃ (g : Nat) (h : Nat → Nat), b ≤ g ∧ g < c ∧ OwnL w g (g + 1) A size enc D ∧
    ∀ (i : Nat) (hi : i < D.length), b ≤ h i ∧ h i < c ∧ h i ≠ g ∧ OwnL w (h i) (h i + 1) (iA D[i]) ib eb (ix D[i]) ∧ ∀ j, j < i → h j ≠ h i
variable {w w' : World} {b b' c c' : Nat} {A : Option Addr} {D : List δ}
theorem RdN.below {k : Nat} (h : RdN w b A size enc iA ix ib eb D) (hb : Below k w w') (hc : b ≤ k) : RdN w' b A size enc iA ix ib eb D :=
  ⟨h.1.below hb hc, fun d hd => (h.2 d hd).below hb hc⟩
theorem RdN.more (h : RdN w b A size enc iA ix ib eb D) (hb : b ≤ b') : RdN w b' A size enc iA ix ib eb D :=
  ⟨h.1.more hb, fun d hd => (h.2 d hd).more hb⟩
theorem OwnN.nil : OwnN w b c A size enc iA ix ib eb ([] : List δ) := .inl rfl
theorem OwnN.rd (h : OwnN w b c A size enc iA ix ib eb D) (henc : ∀ x, (enc x).length = size) (heb : ∀ x, (eb x).length = ib) : RdN w w.heap.size A size enc iA ix ib eb D := by
  rcases h with h | ⟨g, h, _, _, ho, hi⟩
  · subst h; exact ⟨.inl rfl, by simp⟩
  · refine ⟨ho.rd henc, fun d hd => ?_⟩
    obtain ⟨i, hlt, rfl⟩ := List.getElem_of_mem hd
    exact (hi i hlt).2.2.2.1.rd heb
theorem OwnN.later (h : OwnN w b c A size enc iA ix ib eb D) (hb : Below w.heap.size w w') : OwnN w' b c A size enc iA ix ib eb D := by
  rcases h with h | ⟨g, h, h1, h2, ho, hi⟩
  · exact .inl h
  · exact .inr ⟨g, h, h1, h2, ho.later hb, fun i hlt => ⟨(hi i hlt).1, (hi i hlt).2.1, (hi i hlt).2.2.1, (hi i hlt).2.2.2.1.later hb, (hi i hlt).2.2.2.2⟩⟩
theorem OwnN.chg (h : OwnN w b c A size enc iA ix ib eb D) (k : Chg b' c' w w') (hr : c ≤ b' ∨ c' ≤ b) : OwnN w' b c A size enc iA ix ib eb D := by
  rcases h with h | ⟨g, h, h1, h2, ho, hi⟩
  · exact .inl h
  · exact .inr ⟨g, h, h1, h2, ho.chg k (by omega), fun i hlt => ⟨(hi i hlt).1, (hi i hlt).2.1, (hi i hlt).2.2.1, (hi i hlt).2.2.2.1.chg k (by have := hi i hlt; omega), (hi i hlt).2.2.2.2⟩⟩
theorem OwnN.mono (h : OwnN w b c A size enc iA ix ib eb D) (hb : b' ≤ b) (hc : c ≤ c') : OwnN w b' c' A size enc iA ix ib eb D := by
  rcases h with h | ⟨g, h, h1, h2, ho, hi⟩
  · exact .inl h
  · exact .inr ⟨g, h, by omega, by omega, ho, fun i hlt => ⟨by have := hi i hlt; omega, by have := hi i hlt; omega, (hi i hlt).2.2⟩⟩
theorem OwnL.congr {α : Type} {enc : α → List Value} {l l' : List α} (h : OwnL w b c A size enc l) (hl : l.length = l'.length) (he : ∀ (i : Nat) (h1 : i < l.length) (h2 : i < l'.length), enc l'[i] = enc l[i]) : OwnL w b c A size enc l' := by
  rcases h with h | ⟨g, f, rfl, hg, hg2, hc, hf⟩
  · subst h; exact .inl (List.eq_nil_of_length_eq_zero (by simpa using hl.symm))
  · exact .inr ⟨g, f, rfl, hg, hg2, by rw [← hl]; exact hc, fun i hi j u hu => hf i (by omega) j u (by rw [← he i (by omega) hi]; exact hu)⟩

/-- The value v is a slice of the call's own, made by append, whose elements' inner slices lie in blocks of their own. -/
def GrowN (w : World) (base : Nat) (e : TypeId) (size : Nat) (enc : δ → List Value) (iA : δ → Option Addr) (ix : δ → List β) (ib : Nat) (eb : β → List Value) (v : Value) (D : List δ) : Prop :=
  Grow w base e size enc v D ∧ ∃ h : Nat → Nat, ∀ (i : Nat) (hi : i < D.length), base ≤ h i ∧ h i < w.heap.size ∧ v.ownBlock ≠ some (h i) ∧ OwnL w (h i) (h i + 1) (iA D[i]) ib eb (ix D[i]) ∧ ∀ j, j < i → h j ≠ h i
variable {base : Nat} {e : TypeId} {v : Value}
theorem GrowN.nil : GrowN w base e size enc iA ix ib eb (.slice none 0 0) ([] : List δ) := ⟨Grow.nil, fun i => i, fun i hi => by simp at hi⟩
theorem GrowN.empty (hb : b ≤ w.heap.size) : GrowN (w.alloc (.cells #[] e)) b e size enc iA ix ib eb (.slice (some ⟨w.heap.size, 0, none⟩) 0 0) ([] : List δ) := ⟨Grow.empty hb, fun i => i, fun i hi => by simp at hi⟩
theorem GrowN.later (h : GrowN w base e size enc iA ix ib eb v D) (hb : Below w.heap.size w w') : GrowN w' base e size enc iA ix ib eb v D := by
  obtain ⟨h1, h, hi⟩ := h
  exact ⟨h1.later hb, h, fun i hlt => ⟨(hi i hlt).1, Nat.lt_of_lt_of_le (hi i hlt).2.1 hb.size, (hi i hlt).2.2.1, (hi i hlt).2.2.2.1.later hb, (hi i hlt).2.2.2.2⟩⟩
theorem GrowN.drewN (h : GrowN w base e size enc iA ix ib eb v D) (k : Nat) : GrowN (w.drewN k) base e size enc iA ix ib eb v D := h
theorem Grow.ownB {α : Type} {enc : α → List Value} {l : List α} (h : Grow w base e size enc v l) (henc : ∀ x, (enc x).length = size) (hl : 0 < l.length) : ∃ g A c, v.ownBlock = some g ∧ base ≤ g ∧ g < w.heap.size ∧ v = .slice A l.length c ∧ OwnL w g (g + 1) A size enc l := by
  obtain ⟨A, c, hv, ho⟩ := h.own henc
  rcases ho with h0 | ⟨g, f, rfl, h1, h2, h3⟩
  · subst h0; simp at hl
  · exact ⟨g, some ⟨g, 0, none⟩, c, by rw [hv]; rfl, h1, h2, hv, .inr ⟨g, f, rfl, Nat.le_refl _, by omega, h3⟩⟩
theorem GrowN.own (h : GrowN w base e size enc iA ix ib eb v D) (henc : ∀ x, (enc x).length = size) : ∃ A c, v = .slice A D.length c ∧ OwnN w base w.heap.size A size enc iA ix ib eb D := by
  obtain ⟨h1, h, hi⟩ := h
  rcases Nat.eq_zero_or_pos D.length with h0 | hpos
  · obtain ⟨A, c, hv, _⟩ := h1.own henc
    exact ⟨A, c, hv, .inl (List.eq_nil_of_length_eq_zero h0)⟩
  · obtain ⟨g, A, c, hb, hg1, hg2, hv, ho⟩ := h1.ownB henc hpos
    exact ⟨A, c, hv, .inr ⟨g, h, hg1, hg2, ho, fun i hlt => ⟨(hi i hlt).1, (hi i hlt).2.1, fun he => (hi i hlt).2.2.1 (by rw [hb, he]), (hi i hlt).2.2.2.1, (hi i hlt).2.2.2.2⟩⟩⟩
end

section
variable {P : Program} {ops : Array Oper} {rest : List Oper} {o : Oper} {a : Act} {Q : Exit → Act → World → Prop} {w : World}
end
end Go.Proofs.YtglnehinmdmgmaaGreat

/-
  Contracts of the helper functions that the laws use for lists of lists of integers.
-/
namespace Go.Proofs.YtglnehinmdmgmaaGreat
open Go.RowKit Go.ChangeShapes Go.WideShapes
set_option linter.unusedVariables false
set_option linter.unusedSimpArgs false
set_option maxRecDepth 100000

/-- A list of integers in memory: what it holds, its address, its room. -/
structure Sl where
  x : List Int
  A : Option Addr
  c : Nat
def Sl.enc (s : Sl) : List Value := [.slice s.A s.x.length s.c]
theorem Sl_enc_len (s : Sl) : (Sl.enc s).length = 1 := rfl
theorem IntS_info : (Tryz.prog.info? 24).map (fun i => (i.zero, i.size, i.bytes)) = some (some (.slice none 0 0), 1, 24) := by kernel_rfl
/-- How many numbers there are. -/
def tot (l : List (List Int)) : Nat := (l.map List.length).sum
abbrev RdNS (w : World) (b : Nat) (A : Option Addr) (D : List Sl) : Prop := RdN w b A 1 Sl.enc Sl.A Sl.x 1 encInt D
abbrev OwnNS (w : World) (b c : Nat) (A : Option Addr) (D : List Sl) : Prop := OwnN w b c A 1 Sl.enc Sl.A Sl.x 1 encInt D
def RdS (w : World) (b : Nat) (A : Option Addr) (l : List (List Int)) : Prop := ∃ D : List Sl, D.map Sl.x = l ∧ RdNS w b A D
def OwnS (w : World) (b c : Nat) (A : Option Addr) (l : List (List Int)) : Prop := ∃ D : List Sl, D.map Sl.x = l ∧ OwnNS w b c A D
section
variable {w w' : World} {b b' c c' : Nat} {A : Option Addr} {l : List (List Int)}
theorem OwnS.nil : OwnS w b c A [] := ⟨[], rfl, OwnN.nil⟩
theorem OwnS.rd (h : OwnS w b c A l) (_ : True) : RdS w w.heap.size A l := by obtain ⟨D, hD, h⟩ := h; exact ⟨D, hD, h.rd Sl_enc_len encInt_len⟩
theorem OwnS.later (h : OwnS w b c A l) (hb : Below w.heap.size w w') : OwnS w' b c A l := by obtain ⟨D, hD, h⟩ := h; exact ⟨D, hD, h.later hb⟩
theorem OwnS.chg (h : OwnS w b c A l) (k : Chg b' c' w w') (hr : c ≤ b' ∨ c' ≤ b) : OwnS w' b c A l := by obtain ⟨D, hD, h⟩ := h; exact ⟨D, hD, h.chg k hr⟩
theorem OwnS.mono (h : OwnS w b c A l) (hb : b' ≤ b) (hc : c ≤ c') : OwnS w b' c' A l := by obtain ⟨D, hD, h⟩ := h; exact ⟨D, hD, h.mono hb hc⟩
end

/-- What the marks make of lists of such lengths. -/
def markIntSL : List Nat → Nat → List (List Int)
  | [], _ => []
  | n :: ns, q => markIntL n q :: markIntSL ns (q + n)
end Go.Proofs.YtglnehinmdmgmaaGreat

/-
  Words of our own that know no program: an append that tells which block it may have turned.
-/
namespace Go.Proofs.YtglnehinmdmgmaaGreat
open Go.RowKit
set_option linter.unusedVariables false
set_option linter.unusedSimpArgs false

section
variable {P : Program} {ops : Array Oper} {rest : List Oper} {o : Oper} {a : Act} {Q : Exit → Act → World → Prop} {w : World}
/-- 'l = append(l, x)', as wpList_push; the new slice's block is the old one's, or new. -/
theorem wpList_pushA {α : Type} (hgd : o.guard = none) (s x : Operand) (t : TypeId) (ho : o.op = .call { callee := .builtin .append, args := #[s, x], argTypes := #[t, t] })
    (base : Nat) (e : TypeId) (z : Value) (size bytes : Nat) (enc : α → List Value)
    (ht : P.underlying t = some (.slice e)) (hinfo : (P.info? e).map (fun i => (i.zero, i.size, i.bytes)) = some (some z, size, bytes)) (hzs : z.cells.size = size) (hsz : 0 < size)
    {news : List Value} {e' : TypeId} {g : Nat} (v : Value) (l ys : List α) (c : Nat) (hs : a.eval s = v) (hx : a.eval x = .slice (some ⟨g, 0, none⟩) ys.length c) (hg0 : g = w.heap.size)
    (hown : Grow w base e size enc v l) (hne : news = flat enc ys) (henc : ∀ x, (enc x).length = size) (h1 : ∀ u ∈ news, u.oneCell' = true)
    (hn : l.length + ys.length ≤ 1000000000) (hb : bytes ≤ 1000) (hbase : base ≤ w.heap.size)
    (h : ∀ v' w', Grow w' base e size enc v' (l ++ ys) → Below base w w' → w.grownBy w' v.ownBlock → (v'.ownBlock = v.ownBlock ∨ v'.ownBlock = some (w.heap.size + 1)) → wpList P ops Q rest (a.put o.dst v') w') :
    wpList P ops Q (o :: rest) a (w.alloc (.cells news.toArray e')) := by
  obtain ⟨i, hi, hzz⟩ := Option.map_eq_some_iff.1 hinfo
  simp only [Prod.mk.injEq] at hzz
  obtain ⟨hz, hs', hb'⟩ := hzz
  subst hne
  subst hg0
  have hmul : (l.length + ys.length) * bytes ≤ 1000000000 * 1000 := Nat.mul_le_mul hn hb
  refine wpList_append_own_at (P := P) _ hgd s x t ho base e i z size bytes ht hi hz hs' hb' hzs hsz v l.length (flat enc l) hs (hown.alloc _) ⟨w.heap.size, 0, none⟩ ys.length c (flat enc ys) hx (flat_len henc ys)
    (fun j u hu => by
      have e : (⟨w.heap.size, 0, none⟩ : Addr).add j = ⟨w.heap.size, j, none⟩ := by unfold Addr.add; split <;> simp_all
      rw [e, World.cell?_alloc_new]; simpa using hu) h1 (by unfold maxLen; omega) (by omega) (by simp; omega) ?_
  intro v' w' hown' hg _ hblk
  have hr : ∀ k, v.ownBlock = some k → base ≤ k := fun k hk => by
    rcases hown.2 with ⟨rfl, _⟩ | ⟨g, cap, cur, rfl, hbg, _⟩
    · simp [Value.ownBlock] at hk
    · simp [Value.ownBlock] at hk; omega
  refine h v' w' ?_ ?_ ?_ ?_
  · unfold Grow
    rw [List.length_append, flat_append]
    exact hown'
  · exact ((Below.refl base w).alloc hbase _).grown hg (by simp; omega) hr
  · exact ⟨hg.os, hg.tape, hg.output, Nat.le_trans (by simp) hg.size, fun k hk hne => (hg.block k (by simp; omega) hne).trans (Below.heap_alloc w _ k hk)⟩
  · simpa using hblk
end
section
variable {P : Program} {ops : Array Oper} {o : Oper} {a : Act} {w : World} {K : Act → World → Prop} {Q : Exit → Act → World → Prop} {E : Prop}
/-- 'l = append(l, x)' at a step of a region that draws its order. -/
theorem step_pushA {α : Type} (hgd : o.guard = none) (s x : Operand) (t : TypeId) (ho : o.op = .call { callee := .builtin .append, args := #[s, x], argTypes := #[t, t] })
    (base : Nat) (e : TypeId) (z : Value) (size bytes : Nat) (enc : α → List Value)
    (ht : P.underlying t = some (.slice e)) (hinfo : (P.info? e).map (fun i => (i.zero, i.size, i.bytes)) = some (some z, size, bytes)) (hzs : z.cells.size = size) (hsz : 0 < size)
    {news : List Value} {e' : TypeId} {g : Nat} (v : Value) (l ys : List α) (c : Nat) (hs : a.eval s = v) (hx : a.eval x = .slice (some ⟨g, 0, none⟩) ys.length c) (hg0 : g = w.heap.size)
    (hown : Grow w base e size enc v l) (hne : news = flat enc ys) (henc : ∀ x, (enc x).length = size) (h1 : ∀ u ∈ news, u.oneCell' = true) (hys : 0 < ys.length)
    (hn : l.length + ys.length ≤ 1000000000) (hb : bytes ≤ 1000) (hbase : base ≤ w.heap.size)
    (h : ∀ v' w', Grow w' base e size enc v' (l ++ ys) → Below base w w' → w.grownBy w' v.ownBlock → (v'.ownBlock = v.ownBlock ∨ v'.ownBlock = some (w.heap.size + 1)) → K (a.put o.dst v') w') :
    if Region.wanted o (yielded ops a.tmps) = true then Oper.wp P o a (w.alloc (.cells news.toArray e')) K Q else E := by
  obtain ⟨i, hi, hzz⟩ := Option.map_eq_some_iff.1 hinfo
  simp only [Prod.mk.injEq] at hzz
  obtain ⟨hz, hs', hb'⟩ := hzz
  subst hne
  subst hg0
  have hmul : (l.length + ys.length) * bytes ≤ 1000000000 * 1000 := Nat.mul_le_mul hn hb
  refine step_append_lies _ hgd s x t ho base e i z size bytes ht hi hz hs' hb' hzs hsz v l.length (flat enc l) hs (hown.alloc _) ⟨w.heap.size, 0, none⟩ ys.length c (flat enc ys) hx (flat_len henc ys)
    (fun j u hu => by
      have e : (⟨w.heap.size, 0, none⟩ : Addr).add j = ⟨w.heap.size, j, none⟩ := by unfold Addr.add; split <;> simp_all
      rw [e, World.cell?_alloc_new]; simpa using hu) h1 hys (by unfold maxLen; omega) (by omega) (by simp; omega) _ rfl ?_
  intro g cap w' hown' hg hblk _
  have hr : ∀ k, v.ownBlock = some k → base ≤ k := fun k hk => by
    rcases hown.2 with ⟨rfl, _⟩ | ⟨g, cap, cur, rfl, hbg, _⟩
    · simp [Value.ownBlock] at hk
    · simp [Value.ownBlock] at hk; omega
  refine h _ w' ?_ ?_ ?_ ?_
  · unfold Grow
    rw [List.length_append, flat_append]
    exact hown'
  · exact ((Below.refl base w).alloc hbase _).grown hg (by simp; omega) hr
  · exact ⟨hg.os, hg.tape, hg.output, Nat.le_trans (by simp) hg.size, fun k hk hne => (hg.block k (by simp; omega) hne).trans (Below.heap_alloc w _ k hk)⟩
  · rcases hblk with hb2 | hb2
    · left; rw [hb2]; rfl
    · right; rw [hb2]; simp [Value.ownBlock]
end
/-- What an append leaves as it was. -/
theorem OwnS.grown {w w' : World} {b c : Nat} {A : Option Addr} {l : List (List Int)} {o : Option Nat} (h : OwnS w b c A l) (hg : w.grownBy w' o) (ho : ∀ g, o = some g → g < b ∨ c ≤ g) : OwnS w' b c A l := by
  cases o with
  | none => exact h.later ⟨hg.os, hg.tape, hg.output, hg.size, fun k hk => hg.block k hk (by simp)⟩
  | some g =>
    refine h.chg (b' := g) (c' := g + 1) ⟨hg.os, hg.tape, hg.output, hg.size, fun k hk hr => hg.block k hk (fun e => by injection e with e; omega)⟩ ?_
    have := ho g rfl; omega
theorem Grow.block_lt {α : Type} {enc : α → List Value} {w : World} {base : Nat} {e : TypeId} {size : Nat} {v : Value} {l : List α} (h : Grow w base e size enc v l) : ∀ g, v.ownBlock = some g → g < w.heap.size := fun k hk => by
  rcases h.2 with ⟨rfl, _⟩ | ⟨g, cap, cur, rfl, hbg, hg, _⟩
  · simp [Value.ownBlock] at hk
  · simp [Value.ownBlock] at hk
    subst hk
    rcases Nat.lt_or_ge g w.heap.size with x | x
    · exact x
    · rw [Array.getElem?_eq_none x] at hg; cases hg
end Go.Proofs.YtglnehinmdmgmaaGreat

/-
  The reader of choices: values with weights.
-/
namespace Go.Proofs.YtglnehinmdmgmaaGreat
open Go.RowKit
set_option linter.unusedVariables false
set_option linter.unusedSimpArgs false
set_option maxRecDepth 100000

theorem Grow.turn {α : Type} {enc : α → List Value} {w w' : World} {base : Nat} {e : TypeId} {size : Nat} {v : Value} {l : List α} {g0 : Nat} (h : Grow w base e size enc v l) (hg : Turn g0 w w') (hb : g0 < base) : Grow w' base e size enc v l := by
  have hlt := h.block_lt
  refine ⟨h.1, ?_⟩
  rcases h.2 with ⟨h1, h2⟩ | ⟨g, cap, cur, h1, h2, h3, h4⟩
  · exact .inl ⟨h1, h2⟩
  · have e1 : v.ownBlock = some g := by rw [h1]; rfl
    exact .inr ⟨g, cap, cur, h1, h2, (hg.block g (hlt g e1) (by omega)).trans h3, h4⟩
theorem Turn.thenB {g : Nat} {a b c : World} (h : Turn g a b) (k : Below a.heap.size b c) : Turn g a c :=
  ⟨k.os.trans h.os, k.tape.trans h.tape, k.output.trans h.output, Nat.le_trans h.size k.size, fun i hi hr => (k.block i hi).trans (h.block i hi hr)⟩
/-- Two slices of the call's own lie apart. -/
def Apart (a b : Value) : Prop := ∀ g, a.ownBlock = some g → some g ≠ b.ownBlock
theorem Apart.swap {a b : Value} (h : Apart a b) : Apart b a := fun g hg e => h g (e.symm.trans rfl) hg.symm
theorem Apart.grow {a b a' : Value} {m : Nat} (h : Apart a b) (hb : ∀ g, b.ownBlock = some g → g < m) (ha : a'.ownBlock = a.ownBlock ∨ a'.ownBlock = some (m + 1)) : Apart a' b := by
  intro g hg e
  rcases ha with ha | ha
  · exact h g (ha ▸ hg) e
  · rw [ha] at hg
    have := hb g e.symm
    injection hg with hg
    omega
theorem RdL.turn {w w' : World} {b g : Nat} {A : Option Addr} {l : List Int} (h : RdL w b A 1 encInt l) (ht : Turn g w w') (hb : b ≤ w.heap.size) (hne : ∀ q off, A = some ⟨q, off, none⟩ → q ≠ g) : RdL w' b A 1 encInt l := by
  rcases h with h | ⟨q, off, rfl, hg, hc⟩
  · exact .inl h
  · exact .inr ⟨q, off, rfl, hg, fun i hi j v hv => (ht.cell (p := ⟨q, _, none⟩) (Nat.lt_of_lt_of_le hg hb) (hne q off rfl)).trans (hc i hi j v hv)⟩
theorem Grow.lo {α : Type} {enc : α → List Value} {w : World} {base base' : Nat} {e : TypeId} {size : Nat} {v : Value} {l : List α} (h : Grow w base e size enc v l) (hb : base' ≤ base) : Grow w base' e size enc v l := by
  refine ⟨h.1, ?_⟩
  rcases h.2 with h1 | ⟨g, cap, cur, h1, h2, h3⟩
  · exact .inl h1
  · exact .inr ⟨g, cap, cur, h1, Nat.le_trans hb h2, h3⟩
theorem frozen_of_turn {g b : Nat} {w w' : World} (h : Turn g w w') (hb : b < w.heap.size) (hne : b ≠ g) (i : Nat) : w'.frozen? ⟨b, i, none⟩ = w.frozen? ⟨b, i, none⟩ := by
  have := h.block b hb (by omega)
  simp only [World.frozen?, this]
end Go.Proofs.YtglnehinmdmgmaaGreat

/-
  Contracts: words, notes, calls and touches as texts (both sides).
-/
namespace Go.Proofs.YtglnehinmdmgmaaGreat
open Go.RowKit
set_option linter.unusedVariables false
set_option linter.unusedSimpArgs false
set_option maxRecDepth 100000

theorem within_any (n lo hi : Int) (w : World) :
    Calls Tryz.prog 20 #[.int .i64 n, .int .i64 lo, .int .i64 hi] w fun e w' => e = .returned (.bool (B (inB n lo hi))) ∧ w = w' := by
  by_cases h1 : lo ≤ n <;> by_cases h2 : n ≤ hi
  all_goals
    go_enter Tryz.func20, Tryz.ntmps20
    go_wp2
    go_ret
    first | exact ⟨ret_t ⟨h1, h2⟩, rfl⟩ | exact ⟨ret_f (fun x => by have := x.1; have := x.2; omega), rfl⟩
theorem isBell_any (n b : Int) (w : World) :
    Calls Tryz.prog 58 #[.int .i64 n, .int .i64 b] w fun e w' => e = .returned (.bool (B (inB b 1 n))) ∧ w = w' := by
  by_cases h1 : 1 ≤ b <;> by_cases h2 : b ≤ n
  all_goals
    go_enter Tryz.func58, Tryz.ntmps58
    go_wp2
    go_ret
    first | exact ⟨ret_t ⟨h1, h2⟩, rfl⟩ | exact ⟨ret_f (fun x => by have := x.1; have := x.2; omega), rfl⟩

/-! ### A text whose bytes are all of a kind -/
def allB (p : Int → Prop) (s : ByteArray) : Prop := ∀ i : Nat, i < s.size → p (bat s i)
def wordByte (b : Int) : Prop := 97 ≤ b ∧ b ≤ 122
def isWordP (s : ByteArray) : Prop := allB wordByte s ∧ 1 ≤ s.size ∧ s.size ≤ 10
def noteByte (b : Int) : Prop := (97 ≤ b ∧ b ≤ 122) ∨ (48 ≤ b ∧ b ≤ 57) ∨ b = 46 ∨ b = 45
def isNoteP (s : ByteArray) : Prop := allB noteByte s ∧ s.size ≤ 20
def callByte (b : Int) : Prop := b = 112 ∨ b = 98 ∨ b = 115









/-! ### calls and touches -/
/-- A text of one letter that is a call. -/
def isCallP (s : ByteArray) : Prop := s.toList = [112] ∨ s.toList = [98] ∨ s.toList = [115]
def areCallsP (s : ByteArray) : Prop := allB callByte s
def touchP (s : ByteArray) : Prop := areCallsP s ∧ 1 ≤ s.size ∧ s.size ≤ 60
end Go.Proofs.YtglnehinmdmgmaaGreat

/-
  Contracts: all numbers of a list within bounds; a number among the first of a list (both sides).
-/
namespace Go.Proofs.YtglnehinmdmgmaaGreat
open Go.RowKit
set_option linter.unusedVariables false
set_option linter.unusedSimpArgs false
set_option maxRecDepth 100000

def allIn (l : List Int) (lo hi : Int) : Prop := ∀ s ∈ l, inB s lo hi
def hasUpTo (l : List Int) (m : Nat) (n : Int) : Prop := ∃ (j : Nat) (h : j < l.length), j < m ∧ l[j] = n

theorem l1All_any (l : List Int) (A : Option Addr) (c : Nat) (lo hi : Int) (w : World) (h : RdL w w.heap.size A 1 encInt l) (hl : l.length ≤ 4611686018427387904) :
    Calls Tryz.prog 51 #[.slice A l.length c, .int .i64 lo, .int .i64 hi] w fun e w' => e = .returned (.bool (B (allIn l lo hi))) ∧ w = w' := by
  go_enter Tryz.func51, Tryz.ntmps51
  go_wp2
  go_loop [11] (fun i => ∃ k : Nat, k ≤ l.length ∧ i = .int .i64 k ∧ ∀ (j : Nat) (hj : j < l.length), j < k → inB l[j] lo hi) (fun i => l.length - (intOf i).toNat)
  case atStart => exact ⟨0, by omega, by rfl, fun j _ h => by omega⟩
  case round =>
    obtain ⟨k, hk, rfl, hp⟩ := hrel
    have Hp := Lib.hid hp
    clear hp
    by_cases hlt : k < l.length
    · obtain ⟨g, off, hA, hg, hcell⟩ := h.at (k := k) (by omega)
      subst hA
      have r0 : w.cell? ⟨g, off + k, none⟩ = some (.int .i64 (l[k]'(by omega))) := by have := hcell 0 _ rfl; rw [Nat.mul_one] at this; exact this
      obtain ⟨x, hx⟩ : ∃ x, Hid (l[k]'(by omega) = x) := ⟨_, Lib.hid rfl⟩
      rw [hx.out] at r0
      clear hcell
      by_cases hin : inB x lo hi
      · have e2 := B_t hin
        have Hin := Lib.hid hin
        clear hin
        go_wp2_with (go_at_call 53; refine (l1In_any _ _ _ _).mono ?_; rintro e w' ⟨rfl, rfl⟩)
        go_round
        case rel =>
          refine ⟨k + 1, by omega, by go_num, fun j hj h1 => ?_⟩
          rcases Nat.lt_or_eq_of_le (Nat.le_of_lt_succ h1) with h' | rfl
          · exact Hp.out j hj h'
          · rw [hx.out]; exact Hin.out
        case measure => simp [intOf]; omega
      · have e2 := B_f hin
        have Hin := Lib.hid hin
        clear hin
        go_wp2_with (go_at_call 53; refine (l1In_any _ _ _ _).mono ?_; rintro e w' ⟨rfl, rfl⟩)
        go_ret
        exact ⟨ret_f (fun ha => Hin.out (by rw [← hx.out]; exact ha _ (List.getElem_mem _))), rfl⟩
    · obtain rfl : k = l.length := by omega
      go_wp2
      go_ret
      refine ⟨ret_t (fun s hs => ?_), rfl⟩
      obtain ⟨j, hj, rfl⟩ := List.getElem_of_mem hs
      exact Hp.out j hj hj

end Go.Proofs.YtglnehinmdmgmaaGreat

/-
  Contracts of chapter 1: products and inverses of rows.
-/
namespace Go.Proofs.YtglnehinmdmgmaaGreat
open Go.RowKit
set_option linter.unusedVariables false
set_option linter.unusedSimpArgs false
set_option maxRecDepth 100000

/-- The product of two rows. -/
def timesL (a b : ByteArray) : List Int := (List.range b.size).map fun i : Nat => bat a (bat b i - 49)
def timesS (a b : ByteArray) : ByteArray := mkS (timesL a b)
theorem size_times (a b : ByteArray) : (timesS a b).size = b.size := by unfold timesS timesL; rw [size_mkS]; simp
theorem bat_times (a b : ByteArray) (i : Nat) (h : i < b.size) : bat (timesS a b) i = bat a (bat b i - 49) := by
  unfold timesS
  have hl : i < (timesL a b).length := by simpa [timesL] using h
  have e : (timesL a b)[i] = bat a (bat b i - 49) := by simp [timesL]
  rw [bat_mkS _ i hl (by rw [e]; exact bat_lo _ _) (by rw [e]; exact bat_hi _ _), e]

/-- The inverse of a row: at each place the place of the bell there. -/
def placeAt (a : ByteArray) (v : Int) : Nat → Int
  | 0 => 0
  | n + 1 => if bat a n = v then n + 1 else placeAt a v n
/-- The place of a bell (0: none). -/
def placeS (a : ByteArray) (bell : Int) : Int := placeAt a (48 + bell) a.size
theorem placeAt_le (a : ByteArray) (v : Int) (n : Nat) : 0 ≤ placeAt a v n ∧ placeAt a v n ≤ n := by
  induction n with
  | zero => simp [placeAt]
  | succ n ih => unfold placeAt; split <;> omega
theorem placeAt_hit (a : ByteArray) (v : Int) (n i : Nat) (hi : i < n) (h : bat a i = v) (hd : ∀ j : Nat, j < n → bat a j = v → j = i) : placeAt a v n = i + 1 := by
  induction n with
  | zero => omega
  | succ n ih =>
    unfold placeAt
    by_cases e : bat a n = v
    · rw [if_pos e]; have := hd n (by omega) e; omega
    · rw [if_neg e]
      exact ih (by rcases Nat.lt_or_eq_of_le (Nat.le_of_lt_succ hi) with h' | rfl; exact h'; exact absurd h e) (fun j hj hv => hd j (by omega) hv)
theorem placeAt_none (a : ByteArray) (v : Int) (n : Nat) (h : ∀ j : Nat, j < n → bat a j ≠ v) : placeAt a v n = 0 := by
  induction n with
  | zero => rfl
  | succ n ih => unfold placeAt; rw [if_neg (h n (by omega))]; exact ih (fun j hj => h j (by omega))
theorem isRow.inj {a : ByteArray} (h : isRow a) {i j : Nat} (hi : i < a.size) (hj : j < a.size) (e : bat a i = bat a j) : i = j := by
  rcases Nat.lt_trichotomy i j with h' | h' | h'
  · exact absurd e (h.2.2.2 i j h' hj)
  · exact h'
  · exact absurd e.symm (h.2.2.2 j i h' hi)
theorem isRow.place {a : ByteArray} (h : isRow a) {i : Nat} (hi : i < a.size) : placeS a (bat a i - 48) = i + 1 := by
  unfold placeS
  exact placeAt_hit a _ a.size i hi (by omega) (fun j hj e => h.inj hj hi (by omega))
def turnL (a : ByteArray) : List Int := (List.range a.size).map fun p : Nat => 48 + placeS a ((p : Int) + 1)
def turnS (a : ByteArray) : ByteArray := mkS (turnL a)
/-- What stands in the cells behind k stores of the inverse. -/
def turnAt (a : ByteArray) (z : Nat → Int) (k : Nat) (p : Nat) : Int :=
  if placeAt a (49 + p) k = 0 then z p else 48 + placeAt a (49 + p) k
end Go.Proofs.YtglnehinmdmgmaaGreat
