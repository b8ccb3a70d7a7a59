import Derived.Test.YtbfhfnejppfehaaGreatMRowsSaidL02
import Derived.Maps.AppendAt
import Derived.Test.YtbfhfnejppfehaaGreatMRowsSaidL03
import Derived.Deep.AppendLies
import Derived.Deep.RegionLaw
/-
  Words of our own that know no program: a slice of elements that each hold a slice of integers: read, owned, made by append.
-/
namespace Go.Proofs.YtbfhfnejppfehaaGreat
open Go.RowKit
set_option linter.unusedVariables false
set_option linter.unusedSimpArgs false

section
variable {δ β : Type} {enc : δ → List Value} {size : Nat} {iA : δ → Option Addr} {ix : δ → List β} {eb : β → List Value} {ib : Nat}
/-- An outer slice that reads as a list of elements, each with an inner slice that reads as a list. -/
def RdN (w : World) (b : Nat) (A : Option Addr) (size : Nat) (enc : δ → List Value) (iA : δ → Option Addr) (ix : δ → List β) (ib : Nat) (eb : β → List Value) (D : List δ) : Prop :=
  RdL w b A size enc D ∧ ∀ d ∈ D, RdL w b (iA d) ib eb (ix d)
/-- All inner blocks lie apart, none is the outer one; all lie from b on, ahead of c. -/
def OwnN (w : World) (b c : Nat) (A : Option Addr) (size : Nat) (enc : δ → List Value) (iA : δ → Option Addr) (ix : δ → List β) (ib : Nat) (eb : β → List Value) (D : List δ) : Prop :=
  D = [] ∨ ∃ (g : Nat) (h : Nat → Nat), b ≤ g ∧ g < c ∧ OwnL w g (g + 1) A size enc D ∧
    ∀ (i : Nat) (hi : i < D.length), b ≤ h i ∧ h i < c ∧ h i ≠ g ∧ OwnL w (h i) (h i + 1) (iA D[i]) ib eb (ix D[i]) ∧ ∀ j, j < i → h j ≠ h i
variable {w w' : World} {b b' c c' : Nat} {A : Option Addr} {D : List δ}
theorem RdN.below {k : Nat} (h : RdN w b A size enc iA ix ib eb D) (hb : Below k w w') (hc : b ≤ k) : RdN w' b A size enc iA ix ib eb D :=
  ⟨h.1.below hb hc, fun d hd => (h.2 d hd).below hb hc⟩
theorem RdN.more (h : RdN w b A size enc iA ix ib eb D) (hb : b ≤ b') : RdN w b' A size enc iA ix ib eb D :=
  ⟨h.1.more hb, fun d hd => (h.2 d hd).more hb⟩
theorem OwnN.nil : OwnN w b c A size enc iA ix ib eb ([] : List δ) := .inl rfl
theorem OwnN.rd (h : OwnN w b c A size enc iA ix ib eb D) (henc : ∀ x, (enc x).length = size) (heb : ∀ x, (eb x).length = ib) : RdN w w.heap.size A size enc iA ix ib eb D := by
  rcases h with h | ⟨g, h, _, _, ho, hi⟩
  · subst h; exact ⟨.inl rfl, by simp⟩
  · refine ⟨ho.rd henc, fun d hd => ?_⟩
    obtain ⟨i, hlt, rfl⟩ := List.getElem_of_mem hd
    exact (hi i hlt).2.2.2.1.rd heb
theorem OwnN.later (h : OwnN w b c A size enc iA ix ib eb D) (hb : Below w.heap.size w w') : OwnN w' b c A size enc iA ix ib eb D := by
  rcases h with h | ⟨g, h, h1, h2, ho, hi⟩
  · exact .inl h
  · exact .inr ⟨g, h, h1, h2, ho.later hb, fun i hlt => ⟨(hi i hlt).1, (hi i hlt).2.1, (hi i hlt).2.2.1, (hi i hlt).2.2.2.1.later hb, (hi i hlt).2.2.2.2⟩⟩
theorem OwnN.chg (h : OwnN w b c A size enc iA ix ib eb D) (k : Chg b' c' w w') (hr : c ≤ b' ∨ c' ≤ b) : OwnN w' b c A size enc iA ix ib eb D := by
  rcases h with h | ⟨g, h, h1, h2, ho, hi⟩
  · exact .inl h
  · exact .inr ⟨g, h, h1, h2, ho.chg k (by omega), fun i hlt => ⟨(hi i hlt).1, (hi i hlt).2.1, (hi i hlt).2.2.1, (hi i hlt).2.2.2.1.chg k (by have := hi i hlt; omega), (hi i hlt).2.2.2.2⟩⟩
theorem OwnN.mono (h : OwnN w b c A size enc iA ix ib eb D) (hb : b' ≤ b) (hc : c ≤ c') : OwnN w b' c' A size enc iA ix ib eb D := by
  rcases h with h | ⟨g, h, h1, h2, ho, hi⟩
  · exact .inl h
  · exact .inr ⟨g, h, by omega, by omega, ho, fun i hlt => ⟨by have := hi i hlt; omega, by have := hi i hlt; omega, (hi i hlt).2.2⟩⟩
theorem OwnL.congr {α : Type} {enc : α → List Value} {l l' : List α} (h : OwnL w b c A size enc l) (hl : l.length = l'.length) (he : ∀ (i : Nat) (h1 : i < l.length) (h2 : i < l'.length), enc l'[i] = enc l[i]) : OwnL w b c A size enc l' := by
  rcases h with h | ⟨g, f, rfl, hg, hg2, hc, hf⟩
  · subst h; exact .inl (List.eq_nil_of_length_eq_zero (by simpa using hl.symm))
  · exact .inr ⟨g, f, rfl, hg, hg2, by rw [← hl]; exact hc, fun i hi j u hu => hf i (by omega) j u (by rw [← he i (by omega) hi]; exact hu)⟩

/-- The value v is a slice of the call's own, made by append, whose elements' inner slices lie in blocks of their own. -/
def GrowN (w : World) (base : Nat) (e : TypeId) (size : Nat) (enc : δ → List Value) (iA : δ → Option Addr) (ix : δ → List β) (ib : Nat) (eb : β → List Value) (v : Value) (D : List δ) : Prop :=
  Grow w base e size enc v D ∧ ∃ h : Nat → Nat, ∀ (i : Nat) (hi : i < D.length), base ≤ h i ∧ h i < w.heap.size ∧ v.ownBlock ≠ some (h i) ∧ OwnL w (h i) (h i + 1) (iA D[i]) ib eb (ix D[i]) ∧ ∀ j, j < i → h j ≠ h i
variable {base : Nat} {e : TypeId} {v : Value}
theorem GrowN.nil : GrowN w base e size enc iA ix ib eb (.slice none 0 0) ([] : List δ) := ⟨Grow.nil, fun i => i, fun i hi => by simp at hi⟩
theorem GrowN.empty (hb : b ≤ w.heap.size) : GrowN (w.alloc (.cells #[] e)) b e size enc iA ix ib eb (.slice (some ⟨w.heap.size, 0, none⟩) 0 0) ([] : List δ) := ⟨Grow.empty hb, fun i => i, fun i hi => by simp at hi⟩
theorem GrowN.later (h : GrowN w base e size enc iA ix ib eb v D) (hb : Below w.heap.size w w') : GrowN w' base e size enc iA ix ib eb v D := by
  obtain ⟨h1, h, hi⟩ := h
  exact ⟨h1.later hb, h, fun i hlt => ⟨(hi i hlt).1, Nat.lt_of_lt_of_le (hi i hlt).2.1 hb.size, (hi i hlt).2.2.1, (hi i hlt).2.2.2.1.later hb, (hi i hlt).2.2.2.2⟩⟩
theorem GrowN.drewN (h : GrowN w base e size enc iA ix ib eb v D) (k : Nat) : GrowN (w.drewN k) base e size enc iA ix ib eb v D := h
theorem Grow.ownB {α : Type} {enc : α → List Value} {l : List α} (h : Grow w base e size enc v l) (henc : ∀ x, (enc x).length = size) (hl : 0 < l.length) : ∃ g A c, v.ownBlock = some g ∧ base ≤ g ∧ g < w.heap.size ∧ v = .slice A l.length c ∧ OwnL w g (g + 1) A size enc l := by
  obtain ⟨A, c, hv, ho⟩ := h.own henc
  rcases ho with h0 | ⟨g, f, rfl, h1, h2, h3⟩
  · subst h0; simp at hl
  · exact ⟨g, some ⟨g, 0, none⟩, c, by rw [hv]; rfl, h1, h2, hv, .inr ⟨g, f, rfl, Nat.le_refl _, by omega, h3⟩⟩
theorem GrowN.own (h : GrowN w base e size enc iA ix ib eb v D) (henc : ∀ x, (enc x).length = size) : ∃ A c, v = .slice A D.length c ∧ OwnN w base w.heap.size A size enc iA ix ib eb D := by
  obtain ⟨h1, h, hi⟩ := h
  rcases Nat.eq_zero_or_pos D.length with h0 | hpos
  · obtain ⟨A, c, hv, _⟩ := h1.own henc
    exact ⟨A, c, hv, .inl (List.eq_nil_of_length_eq_zero h0)⟩
  · obtain ⟨g, A, c, hb, hg1, hg2, hv, ho⟩ := h1.ownB henc hpos
    exact ⟨A, c, hv, .inr ⟨g, h, hg1, hg2, ho, fun i hlt => ⟨(hi i hlt).1, (hi i hlt).2.1, fun he => (hi i hlt).2.2.1 (by rw [hb, he]), (hi i hlt).2.2.2.1, (hi i hlt).2.2.2.2⟩⟩⟩
end

section
variable {P : Program} {ops : Array Oper} {rest : List Oper} {o : Oper} {a : Act} {Q : Exit → Act → World → Prop} {w : World}
/-- 'l = append(l, x)', x's inner slice just built (block w.heap.size), x itself just built behind it. -/
theorem wpList_pushN {δ β : Type} (hgd : o.guard = none) (s x : Operand) (t : TypeId) (ho : o.op = .call { callee := .builtin .append, args := #[s, x], argTypes := #[t, t] })
    (base : Nat) (e : TypeId) (z : Value) (size bytes : Nat) (enc : δ → List Value) (iA : δ → Option Addr) (ix : δ → List β) (ib : Nat) (eb : β → List Value)
    (ht : P.underlying t = some (.slice e)) (hinfo : (P.info? e).map (fun i => (i.zero, i.size, i.bytes)) = some (some z, size, bytes)) (hzs : z.cells.size = size) (hsz : 0 < size)
    {news inner : List Value} {e' e2 : TypeId} {g : Nat} (v : Value) (D : List δ) (d : δ) (c : Nat) (hs : a.eval s = v) (hx : a.eval x = .slice (some ⟨g, 0, none⟩) 1 c) (hg0 : g = w.heap.size + 1)
    (hown : GrowN w base e size enc iA ix ib eb v D) (hne : news = enc d) (henc : ∀ x, (enc x).length = size) (h1 : ∀ u ∈ news, u.oneCell' = true)
    (hiA : iA d = some ⟨w.heap.size, 0, none⟩) (hin : inner = flat eb (ix d)) (heb : ∀ x, (eb x).length = ib)
    (hn : D.length + 1 ≤ 1000000000) (hb : bytes ≤ 1000) (hbase : base ≤ w.heap.size)
    (h : ∀ v' w', GrowN w' base e size enc iA ix ib eb v' (D ++ [d]) → Below base w w' → wpList P ops Q rest (a.put o.dst v') w') :
    wpList P ops Q (o :: rest) a ((w.alloc (.cells inner.toArray e2)).alloc (.cells news.toArray e')) := by
  obtain ⟨i, hi, hzz⟩ := Option.map_eq_some_iff.1 hinfo
  simp only [Prod.mk.injEq] at hzz
  obtain ⟨hz, hs', hb'⟩ := hzz
  subst hne
  subst hg0
  subst hin
  have hmul : (D.length + 1) * bytes ≤ 1000000000 * 1000 := Nat.mul_le_mul hn hb
  have hw1 : Below w.heap.size w (w.alloc (.cells (flat eb (ix d)).toArray e2)) := (Below.refl _ _).alloc (Nat.le_refl _) _
  have hs1 : (w.alloc (.cells (flat eb (ix d)).toArray e2)).heap.size = w.heap.size + 1 := by simp
  obtain ⟨hgrow0, hh, hinn⟩ := hown
  have hgrow := hgrow0.later hw1
  have hr : ∀ k, v.ownBlock = some k → base ≤ k ∧ k < w.heap.size := fun k hk => by
    rcases hgrow0.2 with ⟨rfl, _⟩ | ⟨g, cap, cur, rfl, hbg, hg, _⟩
    · simp [Value.ownBlock] at hk
    · simp [Value.ownBlock] at hk
      subst hk
      refine ⟨hbg, ?_⟩
      rcases Nat.lt_or_ge g w.heap.size with x | x
      · exact x
      · rw [Array.getElem?_eq_none x] at hg; cases hg
  refine wpList_append_own_at (P := P) _ hgd s x t ho base e i z size bytes ht hi hz hs' hb' hzs hsz v D.length (flat enc D) hs (hgrow.alloc _) ⟨w.heap.size + 1, 0, none⟩ 1 c (enc d) hx (by rw [henc]; omega)
    (fun j u hu => by
      have e : (⟨w.heap.size + 1, 0, none⟩ : Addr).add j = ⟨w.heap.size + 1, j, none⟩ := by unfold Addr.add; split <;> simp_all
      rw [e, ← hs1, World.cell?_alloc_new]; simpa using hu) h1 (by unfold maxLen; omega) (by omega) (by simp; omega) ?_
  intro v' w' hown' hg _ hblk
  have hg2 : (((w.alloc (.cells (flat eb (ix d)).toArray e2)).alloc (.cells (enc d).toArray e'))).heap.size = w.heap.size + 2 := by simp
  have keep : ∀ k, k < w.heap.size + 1 → v.ownBlock ≠ some k → w'.heap[k]? = (w.alloc (.cells (flat eb (ix d)).toArray e2)).heap[k]? := fun k hk hne =>
    (hg.block k (by rw [hg2]; omega) (fun e => hne e.symm)).trans (Below.heap_alloc _ _ k (by rw [hs1]; exact hk))
  have kept : ∀ {k : Nat} {A : Option Addr} {l : List β}, k < w.heap.size + 1 → v.ownBlock ≠ some k → OwnL (w.alloc (.cells (flat eb (ix d)).toArray e2)) k (k + 1) A ib eb l → OwnL w' k (k + 1) A ib eb l := by
    intro k A l hk hne ho
    rcases ho with h0 | ⟨g, f, rfl, h1, h2, h3, h4⟩
    · exact .inl h0
    · obtain rfl : g = k := by omega
      refine .inr ⟨g, f, rfl, h1, h2, ⟨Nat.lt_of_lt_of_le hk (by have := hg.size; omega), fun i hi => ⟨?_, ?_⟩⟩, h4⟩
      · rw [World.cell?_of_block (a := ⟨g, i, none⟩) (keep g hk hne)]; exact h3.cell hi
      · rw [World.frozen?_of_block (a := ⟨g, i, none⟩) (keep g hk hne)]; exact h3.free hi
  refine h v' w' ⟨?_, fun i => if i < D.length then hh i else w.heap.size, fun i hi => ?_⟩ ?_
  · unfold Grow
    rw [List.length_append, flat_append, flat_one]
    exact hown'
  · by_cases hlt : i < D.length
    · have hk := hinn i hlt
      have hlt2 : hh i < w.heap.size := hk.2.1
      dsimp only
      rw [if_pos hlt, List.getElem_append_left hlt]
      refine ⟨hk.1, by have := hg.size; omega, ?_, kept (by omega) hk.2.2.1 (hk.2.2.2.1.later hw1), fun j hj => by rw [if_pos (by omega)]; exact hk.2.2.2.2 j hj⟩
      rcases hblk with hb2 | hb2
      · rw [hb2]; exact hk.2.2.1
      · rw [hb2, hg2]; intro he; injection he with he; omega
    · obtain rfl : i = D.length := by simp at hi; omega
      dsimp only
      rw [if_neg hlt, List.getElem_append_right (by omega)]
      simp only [Nat.sub_self, List.getElem_cons_zero]
      refine ⟨hbase, by have := hg.size; omega, ?_, ?_, fun j hj => ?_⟩
      · rcases hblk with hb2 | hb2
        · rw [hb2]; intro he; have := (hr _ he).2; omega
        · rw [hb2, hg2]; intro he; injection he with he; omega
      · refine kept (by omega) (fun he => by have := (hr _ he).2; omega) ?_
        rw [hiA]
        refine .inr ⟨w.heap.size, fun i => (flat eb (ix d)).getD i undef, rfl, Nat.le_refl _, by omega, Cells.new w _ e2 _ _ fun i hi => ?_, fun i hi j u hu => ?_⟩
        · have hl := flat_len heb (ix d)
          rw [List.getD_eq_getElem?_getD, List.getElem?_eq_getElem (by omega)]
          simp [List.getElem?_eq_getElem, hl, hi]
        · show (flat eb (ix d)).getD (i * ib + j) undef = u
          rw [List.getD_eq_getElem?_getD, flat_at heb (ix d) i hi j u hu]
          rfl
      · rw [if_pos hj]
        have := (hinn j hj).2.1
        omega
  · exact (((Below.refl base w).alloc hbase _).alloc (by rw [hs1]; omega) _).grown hg (by rw [hg2]; omega) (fun k hk => (hr k hk).1)
end
end Go.Proofs.YtbfhfnejppfehaaGreat

/-
  Contracts of the helper functions that the laws use for lists of lists of integers.
-/
namespace Go.Proofs.YtbfhfnejppfehaaGreat
open Go.RowKit Go.ChangeShapes Go.WideShapes
set_option linter.unusedVariables false
set_option linter.unusedSimpArgs false
set_option maxRecDepth 100000

/-- A list of integers in memory: what it holds, its address, its room. -/
structure Sl where
  x : List Int
  A : Option Addr
  c : Nat
def Sl.enc (s : Sl) : List Value := [.slice s.A s.x.length s.c]
theorem Sl_enc_len (s : Sl) : (Sl.enc s).length = 1 := rfl
theorem IntS_info : (Tryz.prog.info? 24).map (fun i => (i.zero, i.size, i.bytes)) = some (some (.slice none 0 0), 1, 24) := by kernel_rfl
/-- How many numbers there are. -/
def tot (l : List (List Int)) : Nat := (l.map List.length).sum
theorem tot_cons (x : List Int) (l : List (List Int)) : tot (x :: l) = x.length + tot l := by simp [tot]
theorem tot_append (l m : List (List Int)) : tot (l ++ m) = tot l + tot m := by simp [tot]
theorem tot_le {l : List (List Int)} {x : List Int} (h : x ∈ l) : x.length ≤ tot l := by
  induction l with
  | nil => simp at h
  | cons y l ih =>
    rw [tot_cons]
    rcases List.mem_cons.1 h with rfl | h
    · omega
    · have := ih h; omega
theorem tot_take_succ (l : List (List Int)) (k : Nat) (hk : k < l.length) : tot (l.take (k + 1)) = tot (l.take k) + l[k].length := by
  rw [List.take_succ_eq_append_getElem hk, tot_append]; simp [tot]
theorem tot_take_le (l : List (List Int)) (k : Nat) : tot (l.take k) ≤ tot l := by
  have := tot_append (l.take k) (l.drop k)
  rw [List.take_append_drop] at this; omega

abbrev RdNS (w : World) (b : Nat) (A : Option Addr) (D : List Sl) : Prop := RdN w b A 1 Sl.enc Sl.A Sl.x 1 encInt D
abbrev OwnNS (w : World) (b c : Nat) (A : Option Addr) (D : List Sl) : Prop := OwnN w b c A 1 Sl.enc Sl.A Sl.x 1 encInt D
def RdS (w : World) (b : Nat) (A : Option Addr) (l : List (List Int)) : Prop := ∃ D : List Sl, D.map Sl.x = l ∧ RdNS w b A D
def OwnS (w : World) (b c : Nat) (A : Option Addr) (l : List (List Int)) : Prop := ∃ D : List Sl, D.map Sl.x = l ∧ OwnNS w b c A D
section
variable {w w' : World} {b b' c c' : Nat} {A : Option Addr} {l : List (List Int)}
theorem OwnS.nil : OwnS w b c A [] := ⟨[], rfl, OwnN.nil⟩
theorem OwnS.rd (h : OwnS w b c A l) (_ : True) : RdS w w.heap.size A l := by obtain ⟨D, hD, h⟩ := h; exact ⟨D, hD, h.rd Sl_enc_len encInt_len⟩
theorem OwnS.later (h : OwnS w b c A l) (hb : Below w.heap.size w w') : OwnS w' b c A l := by obtain ⟨D, hD, h⟩ := h; exact ⟨D, hD, h.later hb⟩
theorem OwnS.chg (h : OwnS w b c A l) (k : Chg b' c' w w') (hr : c ≤ b' ∨ c' ≤ b) : OwnS w' b c A l := by obtain ⟨D, hD, h⟩ := h; exact ⟨D, hD, h.chg k hr⟩
theorem OwnS.mono (h : OwnS w b c A l) (hb : b' ≤ b) (hc : c ≤ c') : OwnS w b' c' A l := by obtain ⟨D, hD, h⟩ := h; exact ⟨D, hD, h.mono hb hc⟩
end

/-- What the marks make of lists of such lengths. -/
def markIntSL : List Nat → Nat → List (List Int)
  | [], _ => []
  | n :: ns, q => markIntL n q :: markIntSL ns (q + n)
theorem markIntSL_len : ∀ (ns : List Nat) (q : Nat), (markIntSL ns q).length = ns.length
  | [], _ => rfl
  | n :: ns, q => by simp [markIntSL, markIntSL_len ns]
theorem markIntSL_at : ∀ (ns : List Nat) (q k : Nat) (hk : k < (markIntSL ns q).length) (hk' : k < ns.length), (markIntSL ns q)[k] = markIntL ns[k] (q + (ns.take k).sum)
  | n :: ns, q, 0, _, _ => by simp [markIntSL]
  | n :: ns, q, k + 1, hk, hk' => by
    simp only [markIntSL, List.getElem_cons_succ, List.take_succ_cons, List.sum_cons]
    rw [markIntSL_at ns (q + n) k _ (by simpa using hk')]
    congr 1; omega
end Go.Proofs.YtbfhfnejppfehaaGreat

/-
  Words of our own that know no program: an append that tells which block it may have turned.
-/
namespace Go.Proofs.YtbfhfnejppfehaaGreat
open Go.RowKit
set_option linter.unusedVariables false
set_option linter.unusedSimpArgs false

section
variable {P : Program} {ops : Array Oper} {rest : List Oper} {o : Oper} {a : Act} {Q : Exit → Act → World → Prop} {w : World}
/-- 'l = append(l, x)', as wpList_push; the new slice's block is the old one's, or new. -/
theorem wpList_pushA {α : Type} (hgd : o.guard = none) (s x : Operand) (t : TypeId) (ho : o.op = .call { callee := .builtin .append, args := #[s, x], argTypes := #[t, t] })
    (base : Nat) (e : TypeId) (z : Value) (size bytes : Nat) (enc : α → List Value)
    (ht : P.underlying t = some (.slice e)) (hinfo : (P.info? e).map (fun i => (i.zero, i.size, i.bytes)) = some (some z, size, bytes)) (hzs : z.cells.size = size) (hsz : 0 < size)
    {news : List Value} {e' : TypeId} {g : Nat} (v : Value) (l ys : List α) (c : Nat) (hs : a.eval s = v) (hx : a.eval x = .slice (some ⟨g, 0, none⟩) ys.length c) (hg0 : g = w.heap.size)
    (hown : Grow w base e size enc v l) (hne : news = flat enc ys) (henc : ∀ x, (enc x).length = size) (h1 : ∀ u ∈ news, u.oneCell' = true)
    (hn : l.length + ys.length ≤ 1000000000) (hb : bytes ≤ 1000) (hbase : base ≤ w.heap.size)
    (h : ∀ v' w', Grow w' base e size enc v' (l ++ ys) → Below base w w' → w.grownBy w' v.ownBlock → (v'.ownBlock = v.ownBlock ∨ v'.ownBlock = some (w.heap.size + 1)) → wpList P ops Q rest (a.put o.dst v') w') :
    wpList P ops Q (o :: rest) a (w.alloc (.cells news.toArray e')) := by
  obtain ⟨i, hi, hzz⟩ := Option.map_eq_some_iff.1 hinfo
  simp only [Prod.mk.injEq] at hzz
  obtain ⟨hz, hs', hb'⟩ := hzz
  subst hne
  subst hg0
  have hmul : (l.length + ys.length) * bytes ≤ 1000000000 * 1000 := Nat.mul_le_mul hn hb
  refine wpList_append_own_at (P := P) _ hgd s x t ho base e i z size bytes ht hi hz hs' hb' hzs hsz v l.length (flat enc l) hs (hown.alloc _) ⟨w.heap.size, 0, none⟩ ys.length c (flat enc ys) hx (flat_len henc ys)
    (fun j u hu => by
      have e : (⟨w.heap.size, 0, none⟩ : Addr).add j = ⟨w.heap.size, j, none⟩ := by unfold Addr.add; split <;> simp_all
      rw [e, World.cell?_alloc_new]; simpa using hu) h1 (by unfold maxLen; omega) (by omega) (by simp; omega) ?_
  intro v' w' hown' hg _ hblk
  have hr : ∀ k, v.ownBlock = some k → base ≤ k := fun k hk => by
    rcases hown.2 with ⟨rfl, _⟩ | ⟨g, cap, cur, rfl, hbg, _⟩
    · simp [Value.ownBlock] at hk
    · simp [Value.ownBlock] at hk; omega
  refine h v' w' ?_ ?_ ?_ ?_
  · unfold Grow
    rw [List.length_append, flat_append]
    exact hown'
  · exact ((Below.refl base w).alloc hbase _).grown hg (by simp; omega) hr
  · exact ⟨hg.os, hg.tape, hg.output, Nat.le_trans (by simp) hg.size, fun k hk hne => (hg.block k (by simp; omega) hne).trans (Below.heap_alloc w _ k hk)⟩
  · simpa using hblk
end
section
variable {P : Program} {ops : Array Oper} {o : Oper} {a : Act} {w : World} {K : Act → World → Prop} {Q : Exit → Act → World → Prop} {E : Prop}
/-- 'l = append(l, x)' at a step of a region that draws its order. -/
theorem step_pushA {α : Type} (hgd : o.guard = none) (s x : Operand) (t : TypeId) (ho : o.op = .call { callee := .builtin .append, args := #[s, x], argTypes := #[t, t] })
    (base : Nat) (e : TypeId) (z : Value) (size bytes : Nat) (enc : α → List Value)
    (ht : P.underlying t = some (.slice e)) (hinfo : (P.info? e).map (fun i => (i.zero, i.size, i.bytes)) = some (some z, size, bytes)) (hzs : z.cells.size = size) (hsz : 0 < size)
    {news : List Value} {e' : TypeId} {g : Nat} (v : Value) (l ys : List α) (c : Nat) (hs : a.eval s = v) (hx : a.eval x = .slice (some ⟨g, 0, none⟩) ys.length c) (hg0 : g = w.heap.size)
    (hown : Grow w base e size enc v l) (hne : news = flat enc ys) (henc : ∀ x, (enc x).length = size) (h1 : ∀ u ∈ news, u.oneCell' = true) (hys : 0 < ys.length)
    (hn : l.length + ys.length ≤ 1000000000) (hb : bytes ≤ 1000) (hbase : base ≤ w.heap.size)
    (h : ∀ v' w', Grow w' base e size enc v' (l ++ ys) → Below base w w' → w.grownBy w' v.ownBlock → (v'.ownBlock = v.ownBlock ∨ v'.ownBlock = some (w.heap.size + 1)) → K (a.put o.dst v') w') :
    if Region.wanted o (yielded ops a.tmps) = true then Oper.wp P o a (w.alloc (.cells news.toArray e')) K Q else E := by
  obtain ⟨i, hi, hzz⟩ := Option.map_eq_some_iff.1 hinfo
  simp only [Prod.mk.injEq] at hzz
  obtain ⟨hz, hs', hb'⟩ := hzz
  subst hne
  subst hg0
  have hmul : (l.length + ys.length) * bytes ≤ 1000000000 * 1000 := Nat.mul_le_mul hn hb
  refine step_append_lies _ hgd s x t ho base e i z size bytes ht hi hz hs' hb' hzs hsz v l.length (flat enc l) hs (hown.alloc _) ⟨w.heap.size, 0, none⟩ ys.length c (flat enc ys) hx (flat_len henc ys)
    (fun j u hu => by
      have e : (⟨w.heap.size, 0, none⟩ : Addr).add j = ⟨w.heap.size, j, none⟩ := by unfold Addr.add; split <;> simp_all
      rw [e, World.cell?_alloc_new]; simpa using hu) h1 hys (by unfold maxLen; omega) (by omega) (by simp; omega) _ rfl ?_
  intro g cap w' hown' hg hblk _
  have hr : ∀ k, v.ownBlock = some k → base ≤ k := fun k hk => by
    rcases hown.2 with ⟨rfl, _⟩ | ⟨g, cap, cur, rfl, hbg, _⟩
    · simp [Value.ownBlock] at hk
    · simp [Value.ownBlock] at hk; omega
  refine h _ w' ?_ ?_ ?_ ?_
  · unfold Grow
    rw [List.length_append, flat_append]
    exact hown'
  · exact ((Below.refl base w).alloc hbase _).grown hg (by simp; omega) hr
  · exact ⟨hg.os, hg.tape, hg.output, Nat.le_trans (by simp) hg.size, fun k hk hne => (hg.block k (by simp; omega) hne).trans (Below.heap_alloc w _ k hk)⟩
  · rcases hblk with hb2 | hb2
    · left; rw [hb2]; rfl
    · right; rw [hb2]; simp [Value.ownBlock]
end
/-- What an append leaves as it was. -/
theorem OwnS.grown {w w' : World} {b c : Nat} {A : Option Addr} {l : List (List Int)} {o : Option Nat} (h : OwnS w b c A l) (hg : w.grownBy w' o) (ho : ∀ g, o = some g → g < b ∨ c ≤ g) : OwnS w' b c A l := by
  cases o with
  | none => exact h.later ⟨hg.os, hg.tape, hg.output, hg.size, fun k hk => hg.block k hk (by simp)⟩
  | some g =>
    refine h.chg (b' := g) (c' := g + 1) ⟨hg.os, hg.tape, hg.output, hg.size, fun k hk hr => hg.block k hk (fun e => by injection e with e; omega)⟩ ?_
    have := ho g rfl; omega
theorem Grow.block_lt {α : Type} {enc : α → List Value} {w : World} {base : Nat} {e : TypeId} {size : Nat} {v : Value} {l : List α} (h : Grow w base e size enc v l) : ∀ g, v.ownBlock = some g → g < w.heap.size := fun k hk => by
  rcases h.2 with ⟨rfl, _⟩ | ⟨g, cap, cur, rfl, hbg, hg, _⟩
  · simp [Value.ownBlock] at hk
  · simp [Value.ownBlock] at hk
    subst hk
    rcases Nat.lt_or_ge g w.heap.size with x | x
    · exact x
    · rw [Array.getElem?_eq_none x] at hg; cases hg
end Go.Proofs.YtbfhfnejppfehaaGreat
