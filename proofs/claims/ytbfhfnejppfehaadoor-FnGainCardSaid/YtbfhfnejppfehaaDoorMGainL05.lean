import Derived.Test.YtbfhfnejppfehaaDoorMGainL02
import Derived.Test.YtbfhfnejppfehaaDoorMGainL04
import Derived.Deep.CutRange
import Derived.Test.YtbfhfnejppfehaaDoorMGainL00
import Derived.Deep.RegionLaw
import Derived.Deep.Slices
/-
  The reader of choices: values with weights.
-/
namespace Go.Proofs.YtbfhfnejppfehaaDoor
open Go.RowKit
set_option linter.unusedVariables false
set_option linter.unusedSimpArgs false
set_option maxRecDepth 100000

theorem Grow.keptBy {α : Type} {enc : α → List Value} {w w' : World} {base : Nat} {e : TypeId} {size : Nat} {v : Value} {l : List α} {o : Option Nat} (h : Grow w base e size enc v l) (hg : w.grownBy w' o) (hne : ∀ g, v.ownBlock = some g → some g ≠ o) : Grow w' base e size enc v l := by
  have hlt := h.block_lt
  refine ⟨h.1, ?_⟩
  rcases h.2 with ⟨h1, h2⟩ | ⟨g, cap, cur, h1, h2, h3, h4⟩
  · exact .inl ⟨h1, h2⟩
  · have e1 : v.ownBlock = some g := by rw [h1]; rfl
    exact .inr ⟨g, cap, cur, h1, h2, (hg.block g (hlt g e1) (hne g e1)).trans h3, h4⟩
theorem Grow.turn {α : Type} {enc : α → List Value} {w w' : World} {base : Nat} {e : TypeId} {size : Nat} {v : Value} {l : List α} {g0 : Nat} (h : Grow w base e size enc v l) (hg : Turn g0 w w') (hb : g0 < base) : Grow w' base e size enc v l := by
  have hlt := h.block_lt
  refine ⟨h.1, ?_⟩
  rcases h.2 with ⟨h1, h2⟩ | ⟨g, cap, cur, h1, h2, h3, h4⟩
  · exact .inl ⟨h1, h2⟩
  · have e1 : v.ownBlock = some g := by rw [h1]; rfl
    exact .inr ⟨g, cap, cur, h1, h2, (hg.block g (hlt g e1) (by omega)).trans h3, h4⟩
theorem Turn.thenB {g : Nat} {a b c : World} (h : Turn g a b) (k : Below a.heap.size b c) : Turn g a c :=
  ⟨k.os.trans h.os, k.tape.trans h.tape, k.output.trans h.output, Nat.le_trans h.size k.size, fun i hi hr => (k.block i hi).trans (h.block i hi hr)⟩
/-- Two slices of the call's own lie apart. -/
def Apart (a b : Value) : Prop := ∀ g, a.ownBlock = some g → some g ≠ b.ownBlock
theorem Apart.swap {a b : Value} (h : Apart a b) : Apart b a := fun g hg e => h g (e.symm.trans rfl) hg.symm
theorem Apart.grow {a b a' : Value} {m : Nat} (h : Apart a b) (hb : ∀ g, b.ownBlock = some g → g < m) (ha : a'.ownBlock = a.ownBlock ∨ a'.ownBlock = some (m + 1)) : Apart a' b := by
  intro g hg e
  rcases ha with ha | ha
  · exact h g (ha ▸ hg) e
  · rw [ha] at hg
    have := hb g e.symm
    injection hg with hg
    omega
theorem RdL.tail1 {w : World} {b g o : Nat} {y : Int} {l : List Int} (h : RdL w b (some ⟨g, o, none⟩) 1 encInt (y :: l)) : RdL w b (some ⟨g, o + 1, none⟩) 1 encInt l := by
  rcases h with h | ⟨g', off, hA, hg, hc⟩
  · cases h
  · injection hA with hA; injection hA with h1 h2
    subst h1 h2
    refine .inr ⟨g, o + 1, rfl, hg, fun i hi j u hu => ?_⟩
    have := hc (i + 1) (by simpa using hi) j u (by simpa using hu)
    rw [show o + 1 + (i * 1 + j) = o + ((i + 1) * 1 + j) by omega]
    exact this
theorem RdL.set0 {w : World} {b g : Nat} {x y : Int} {l : List Int} (h : RdL w b (some ⟨g, 0, none⟩) 1 encInt (y :: l)) : RdL (w.setCell ⟨g, 0, none⟩ (.int .i64 x)) b (some ⟨g, 0, none⟩) 1 encInt (x :: l) := by
  rcases h with h | ⟨g', off, hA, hg, hc⟩
  · cases h
  · injection hA with hA; injection hA with h1 h2
    subst h1 h2
    refine .inr ⟨g, 0, rfl, hg, fun i hi j u hu => ?_⟩
    have hj : j = 0 := by
      have := (List.getElem?_eq_some_iff.1 hu).1
      simp [encInt] at this; omega
    subst hj
    cases i with
    | zero =>
      have h0 := hc 0 (by simp) 0 _ rfl
      simp [encInt] at hu h0
      subst hu
      exact World.cell?_setCell_same _ _ _ (by simpa using h0)
    | succ i =>
      have h0 := hc (i + 1) (by simpa using hi) 0 u (by simpa using hu)
      rw [World.cell?_setCell_other _ _ _ _ (fun e => by injection e with _ e; omega)]
      exact h0
theorem RdL.setOther {w : World} {b : Nat} {A : Option Addr} {l : List Int} {p : Addr} {u : Value} (h : RdL w b A 1 encInt l) (hne : ∀ g off, A = some ⟨g, off, none⟩ → g ≠ p.block) : RdL (w.setCell p u) b A 1 encInt l := by
  rcases h with h | ⟨g, off, rfl, hg, hc⟩
  · exact .inl h
  · exact .inr ⟨g, off, rfl, hg, fun i hi j v hv => (World.cell?_setCell_other _ _ _ _ (fun e => hne g off rfl (congrArg Addr.block e).symm)).trans (hc i hi j v hv)⟩
theorem RdL.turn {w w' : World} {b g : Nat} {A : Option Addr} {l : List Int} (h : RdL w b A 1 encInt l) (ht : Turn g w w') (hb : b ≤ w.heap.size) (hne : ∀ q off, A = some ⟨q, off, none⟩ → q ≠ g) : RdL w' b A 1 encInt l := by
  rcases h with h | ⟨q, off, rfl, hg, hc⟩
  · exact .inl h
  · exact .inr ⟨q, off, rfl, hg, fun i hi j v hv => (ht.cell (p := ⟨q, _, none⟩) (Nat.lt_of_lt_of_le hg hb) (hne q off rfl)).trans (hc i hi j v hv)⟩
end Go.Proofs.YtbfhfnejppfehaaDoor

/-
  Words of our own that know no program: a call inside a region that draws.
-/
namespace Go.Proofs.YtbfhfnejppfehaaDoor
open Go.RowKit
set_option linter.unusedVariables false
set_option linter.unusedSimpArgs false

section
variable {P : Program} {ops : Array Oper} {o : Oper} {a : Act} {K : Act → World → Prop} {Q : Exit → Act → World → Prop} {w : World} {E : Prop}
/-- A call inside a region that draws, by a contract that names its result only so far. -/
theorem step_callsX (hg : o.guard = none) (f : FuncId) {xs : Array Operand} {ts : Array TypeId} (ho : o.op = .call { callee := .value (.func f), args := xs, argTypes := ts }) (vals : Array Value) {R : Value → World → Prop} (henter : (execOp a.eval o).run P w = .ok (.enter f vals) w)
    (h : Calls P f vals w fun e w' => ∃ v, e = .returned v ∧ R v w') (hK : ∀ v w', R v w' → K (a.put o.dst v) w') : if Region.wanted o (yielded ops a.tmps) = true then Oper.wp P o a w K Q else E := by
  rw [if_pos (by simp [Region.wanted, hg])]
  unfold Oper.wp
  rw [henter, Oper.upon_enter]
  exact h.mono fun e w' ⟨v, he, hr⟩ => by subst he; exact hK v w' hr
end
end Go.Proofs.YtbfhfnejppfehaaDoor

/-
  A slice inside a value, opened: it reads as a list.
-/
namespace Go.Proofs.YtbfhfnejppfehaaDoor
open Go.RowKit Go.ChangeShapes Go.WideShapes Go.Deep
set_option linter.unusedVariables false
set_option linter.unusedSimpArgs false

section
variable {H : Type} {enc : TypeId × Value → H} {P : Program} {w : World} {base : Nat} {spare : Nat → Bool} {held : Bool}
/-- A slice inside a value, opened: it reads as a list. -/
theorem open_list_cs {α : Type} {t e : TypeId} {n : Nat} {cs0 : List Value} {y : DataW H × List MemPlace} (ht : P.underlying t = some (.slice e)) (C : Nat) (hC : P.cellsOf e = C) (hC0 : 0 < C)
    (en : α → List Value) (ok : α → Prop) (hel : ∀ (n : Nat) (cs : List Value) (y : DataW H × List MemPlace), DataW.trod enc P w base spare held n e cs = some y → ∃ x : α, cs = en x ∧ ok x)
    (h : DataW.trod enc P w base spare held n t cs0 = some y) :
    ∃ (A : Option Addr) (l : List α) (c : Nat), cs0 = [.slice A l.length c] ∧ l.length ≤ maxLen ∧ RdL w w.heap.size A C en l ∧ ∀ x ∈ l, ok x := by
  rcases open_slice ht h with ⟨h0, _⟩ | ⟨a, len', cap', m, n, D, Pl, hcs, _, hl, hm, hmm, _, hi⟩
  · exact ⟨none, [], 0, h0, by simp, .inl rfl, by simp⟩
  · have hle : len' ≤ m := by rw [hmm]; split <;> omega
    obtain ⟨l, hlen, hq⟩ := choose_list (fun i x => (∀ (j : Nat) (u : Value), (en x)[j]? = some u → w.cell? (a.add (i * C + j)) = some u) ∧ ok x) len' (fun i hi' => by
      obtain ⟨cs', hc, ht'⟩ := hi i (by omega)
      obtain ⟨x, rfl, hok⟩ := hel _ _ _ ht'
      rw [hC] at hc
      obtain ⟨_, hcl, hat⟩ := World.cells?_some hc
      refine ⟨x, fun j u hu => ?_, hok⟩
      have hj : j < C := by rw [← hcl]; exact (List.getElem?_eq_some_iff.1 hu).1
      rw [← Go.Deep.add_add, hat j hj, hu])
    subst hlen
    refine ⟨some a, l, cap', hcs, by omega, ?_, fun x hx => ?_⟩
    · rcases Nat.eq_zero_or_pos l.length with h0 | hpos
      · exact .inl (List.eq_nil_of_length_eq_zero h0)
      · obtain ⟨cs', hc, ht'⟩ := hi 0 (by omega)
        obtain ⟨x, rfl, _⟩ := hel _ _ _ ht'
        rw [hC] at hc
        obtain ⟨_, hcl, hat⟩ := World.cells?_some hc
        have h00 := hat 0 hC0
        have hadd : (a.add (0 * C)).add 0 = a := by rw [Nat.zero_mul]; unfold Addr.add; simp
        rw [hadd, List.getElem?_eq_getElem (by omega)] at h00
        have hlt := World.block_lt_of_cell? _ _ h00
        obtain ⟨g, off, sp⟩ := a
        have hsp : sp = none := by
          unfold World.cell? at h00
          split at h00
          · cases sp with
            | none => rfl
            | some _ => simp at h00
          · cases h00
        subst hsp
        refine .inr ⟨g, off, rfl, hlt, fun i hi' j u hu => ?_⟩
        have := (hq i hi').1 j u hu
        have e : (⟨g, off, none⟩ : Addr).add (i * C + j) = ⟨g, off + (i * C + j), none⟩ := by unfold Addr.add; split <;> simp_all
        rw [e] at this
        exact this
    · obtain ⟨i, hi', rfl⟩ := List.getElem_of_mem hx
      exact (hq i hi').2
end

end Go.Proofs.YtbfhfnejppfehaaDoor

/-
  Contracts of the helper functions that the laws use for lists of people (a name and a list of skills).
-/
namespace Go.Proofs.YtbfhfnejppfehaaDoor
open Go.RowKit Go.ChangeShapes Go.WideShapes Go.Deep
set_option linter.unusedVariables false
set_option linter.unusedSimpArgs false
set_option maxRecDepth 100000

/-- A person in memory: the name; the skills, their address, their room. -/
structure Psn where
  name : ByteArray
  x : List Int
  A : Option Addr
  c : Nat
def Psn.enc (p : Psn) : List Value := [.string p.name, .slice p.A p.x.length p.c]
theorem Psn_enc_len (p : Psn) : (Psn.enc p).length = 2 := rfl
/-- A person: a name and the skills. -/
abbrev Pk := ByteArray × List Int
def Psn.key (p : Psn) : Pk := (p.name, p.x)
def Person_small (lim : Int) (x : Pk) : Prop := (x.1.size : Int) ≤ lim ∧ (x.2.length : Int) ≤ lim
theorem Person_info : (Tryd.prog.info? 84).map (fun i => (i.zero, i.size, i.bytes)) = some (some (.agg #[.string ⟨#[]⟩, .slice none 0 0]), 2, 40) := by kernel_rfl
abbrev RdNP (w : World) (b : Nat) (A : Option Addr) (D : List Psn) : Prop := RdN w b A 2 Psn.enc Psn.A Psn.x 1 encInt D
abbrev OwnNP (w : World) (b c : Nat) (A : Option Addr) (D : List Psn) : Prop := OwnN w b c A 2 Psn.enc Psn.A Psn.x 1 encInt D
def RdP (w : World) (b : Nat) (A : Option Addr) (l : List Pk) : Prop := ∃ D : List Psn, D.map Psn.key = l ∧ RdNP w b A D
def OwnP (w : World) (b c : Nat) (A : Option Addr) (l : List Pk) : Prop := ∃ D : List Psn, D.map Psn.key = l ∧ OwnNP w b c A D
section
variable {w w' : World} {b b' c c' k : Nat} {A : Option Addr} {l : List Pk}
theorem RdP.below (h : RdP w b A l) (hb : Below k w w') (hc : b ≤ k) : RdP w' b A l := by obtain ⟨D, hD, h⟩ := h; exact ⟨D, hD, h.below hb hc⟩
theorem RdP.more (h : RdP w b A l) (hb : b ≤ b') : RdP w b' A l := by obtain ⟨D, hD, h⟩ := h; exact ⟨D, hD, h.more hb⟩
theorem OwnP.nil : OwnP w b c A [] := ⟨[], rfl, OwnN.nil⟩
theorem OwnP.rd (h : OwnP w b c A l) (_ : True) : RdP w w.heap.size A l := by obtain ⟨D, hD, h⟩ := h; exact ⟨D, hD, h.rd Psn_enc_len encInt_len⟩
theorem OwnP.later (h : OwnP w b c A l) (hb : Below w.heap.size w w') : OwnP w' b c A l := by obtain ⟨D, hD, h⟩ := h; exact ⟨D, hD, h.later hb⟩
theorem OwnP.chg (h : OwnP w b c A l) (k : Chg b' c' w w') (hr : c ≤ b' ∨ c' ≤ b) : OwnP w' b c A l := by obtain ⟨D, hD, h⟩ := h; exact ⟨D, hD, h.chg k hr⟩
theorem OwnP.mono (h : OwnP w b c A l) (hb : b' ≤ b) (hc : c ≤ c') : OwnP w b' c' A l := by obtain ⟨D, hD, h⟩ := h; exact ⟨D, hD, h.mono hb hc⟩
end
theorem OwnL.one {α : Type} {w : World} {b c : Nat} {A : Option Addr} {size : Nat} {enc : α → List Value} {l : List α} (h : OwnL w b c A size enc l) (hbc : b < c) : ∃ g, b ≤ g ∧ g < c ∧ OwnL w g (g + 1) A size enc l := by
  rcases h with h | ⟨g, f, rfl, h1, h2, h3⟩
  · exact ⟨b, Nat.le_refl _, hbc, .inl h⟩
  · exact ⟨g, h1, h2, .inr ⟨g, f, rfl, Nat.le_refl _, by omega, h3⟩⟩
theorem fill_congr {α : Type} {enc : α → List Value} {size : Nat} {l l' : List α} {z : Nat → Value} {k : Nat} (h : k ≤ l.length) (h' : k ≤ l'.length) (he : ∀ (i : Nat) (h1 : i < l.length) (h2 : i < l'.length), i < k → l[i] = l'[i]) : fill enc size l z k = fill enc size l' z k := by
  funext p
  unfold fill
  by_cases hp : p / size < k
  · rw [dif_pos ⟨hp, by omega⟩, dif_pos ⟨hp, by omega⟩, he _ _ _ hp]
  · rw [dif_neg (fun h => hp h.1), dif_neg (fun h => hp h.1)]

section
variable {δ β : Type} {w w' : World} {b : Nat} {iA : δ → Option Addr} {ix : δ → List β} {ib : Nat} {eb : β → List Value} {D : List δ} {k : Nat}
/-- The inner slices of the first k elements lie each in a block of its own, from b on. -/
def Inn (w : World) (b : Nat) (iA : δ → Option Addr) (ix : δ → List β) (ib : Nat) (eb : β → List Value) (D : List δ) (k : Nat) : Prop :=
  ∃ h : Nat → Nat, ∀ (i : Nat) (hi : i < D.length), i < k → b ≤ h i ∧ h i < w.heap.size ∧ OwnL w (h i) (h i + 1) (iA D[i]) ib eb (ix D[i]) ∧ ∀ j, j < i → h j ≠ h i
theorem Inn.zero : Inn w b iA ix ib eb D 0 := ⟨fun i => i, fun i _ h => by omega⟩
theorem Inn.later (h : Inn w b iA ix ib eb D k) (hb : Below w.heap.size w w') : Inn w' b iA ix ib eb D k := by
  obtain ⟨hh, hi⟩ := h
  exact ⟨hh, fun i hlt hk => ⟨(hi i hlt hk).1, Nat.lt_of_lt_of_le (hi i hlt hk).2.1 hb.size, (hi i hlt hk).2.2.1.later hb, (hi i hlt hk).2.2.2⟩⟩
theorem Inn.chg {b' c' : Nat} (h : Inn w b iA ix ib eb D k) (hc : Chg b' c' w w') (hr : c' ≤ b) : Inn w' b iA ix ib eb D k := by
  obtain ⟨hh, hi⟩ := h
  exact ⟨hh, fun i hlt hk => ⟨(hi i hlt hk).1, Nat.lt_of_lt_of_le (hi i hlt hk).2.1 hc.size, (hi i hlt hk).2.2.1.chg hc (by have := (hi i hlt hk).1; omega), (hi i hlt hk).2.2.2⟩⟩
theorem Inn.step {g : Nat} (h : Inn w b iA ix ib eb D k) (hbw : b ≤ w.heap.size) (hb : Below w.heap.size w w') (hg : w.heap.size ≤ g) (hg2 : g < w'.heap.size) (d : δ) (ho : OwnL w' g (g + 1) (iA d) ib eb (ix d)) (hk : k < D.length) : Inn w' b iA ix ib eb (D.set k d) (k + 1) := by
  obtain ⟨hh, hi⟩ := h.later hb
  obtain ⟨hh0, hi0⟩ := h
  clear hi hh
  refine ⟨fun i => if i < k then hh0 i else g, fun i hlt hk1 => ?_⟩
  by_cases e : i < k
  · have hlt2 : i < D.length := by omega
    have h4 := hi0 i hlt2 e
    simp only [if_pos e]
    rw [List.getElem_set_ne (by omega)]
    exact ⟨h4.1, by have := hb.size; omega, h4.2.2.1.later hb, fun j hj => by rw [if_pos (by omega)]; exact h4.2.2.2 j hj⟩
  · obtain rfl : i = k := by omega
    simp only [if_neg e]
    rw [List.getElem_set_self]
    exact ⟨by omega, hg2, ho, fun j hj => by rw [if_pos hj]; have := (hi0 j (by omega) hj).2.1; omega⟩
theorem Inn.own {g : Nat} {A : Option Addr} {size : Nat} {enc : δ → List Value} {b0 : Nat} (h : Inn w b iA ix ib eb D D.length) (hb : g < b) (hb0 : b0 ≤ g) (hg : g < w.heap.size) (ho : OwnL w g (g + 1) A size enc D) : OwnN w b0 w.heap.size A size enc iA ix ib eb D := by
  obtain ⟨hh, hi⟩ := h
  exact .inr ⟨g, hh, hb0, hg, ho, fun i hlt => ⟨by have := (hi i hlt hlt).1; omega, (hi i hlt hlt).2.1, by have := (hi i hlt hlt).1; omega, (hi i hlt hlt).2.2⟩⟩
end
theorem Chg.setN {b c g : Nat} {a : World} (hg : b ≤ g) (hc : g < c) : ∀ (vs : List Value) {w : World} {p : Nat}, Chg b c a w → Chg b c a (setN w g p vs)
  | [], _, _, h => h
  | v :: vs, _, _, h => Chg.setN hg hc vs (h.setCell hg hc v)
/-- How many skills there are. -/
def totP (l : List Pk) : Nat := tot (l.map Prod.snd)
def cntP (l : List Pk) : Nat := l.length + totP l
theorem totP_take_succ (D : List Psn) (k : Nat) (hk : k < D.length) : totP ((D.map Psn.key).take (k + 1)) = totP ((D.map Psn.key).take k) + D[k].x.length := by
  unfold totP
  rw [List.map_take, List.map_take, tot_take_succ _ k (by simpa using hk)]
  simp [Psn.key]

theorem OwnL.setName {w : World} {b c g : Nat} {E : List Psn} (h : OwnL w b c (some ⟨g, 0, none⟩) 2 Psn.enc E) (k : Nat) (hk : k < E.length) (s : ByteArray) :
    OwnL (w.setCell ⟨g, k * 2, none⟩ (.string s)) b c (some ⟨g, 0, none⟩) 2 Psn.enc (E.set k ⟨s, E[k].x, E[k].A, E[k].c⟩) := by
  rcases h with h | ⟨g', f, hA, h1, h2, h3, h4⟩
  · subst h; simp at hk
  · simp only [Option.some.injEq, Addr.mk.injEq, and_true] at hA
    subst hA
    refine .inr ⟨g, _, rfl, h1, h2, by rw [List.length_set]; exact h3.set (i := k * 2) (by omega) _, fun i hi j u hu => ?_⟩
    have hj : j < 2 := by have := (List.getElem?_eq_some_iff.1 hu).1; simpa [Psn.enc] using this
    by_cases e : i = k
    · subst e
      rw [List.getElem_set_self] at hu
      rcases (show j = 0 ∨ j = 1 by omega) with rfl | rfl
      · rw [Nat.add_zero, upd_same]; simpa [Psn.enc] using hu
      · rw [upd_other _ _ _ _ (by omega)]; exact h4 i hk 1 u (by simpa [Psn.enc] using hu)
    · rw [List.getElem_set_ne (by omega)] at hu
      rw [upd_other _ _ _ _ (by omega)]
      exact h4 i (by simpa using hi) j u hu
theorem OwnL.psn {w : World} {b c g : Nat} {E : List Psn} (h : OwnL w b c (some ⟨g, 0, none⟩) 2 Psn.enc E) (k : Nat) (hk : k < E.length) :
    w.cell? ⟨g, k * 2, none⟩ = some (.string E[k].name) ∧ w.cell? ⟨g, k * 2 + 1, none⟩ = some (.slice E[k].A E[k].x.length E[k].c) ∧ w.frozen? ⟨g, k * 2, none⟩ = false := by
  rcases h with h | ⟨g', f, hA, h1, h2, h3, h4⟩
  · subst h; simp at hk
  · simp only [Option.some.injEq, Addr.mk.injEq, and_true] at hA
    subst hA
    have c0 := h3.cell (i := k * 2) (by omega)
    have c1 := h3.cell (i := k * 2 + 1) (by omega)
    have e0 := h4 k hk 0 _ rfl
    have e1 := h4 k hk 1 _ rfl
    rw [Nat.add_zero] at e0
    rw [e0] at c0
    rw [e1] at c1
    exact ⟨c0, c1, h3.free (i := k * 2) (by omega)⟩
theorem people_open {w : World} {A : Option Addr} {D : List Psn} (x : RdL w w.heap.size A 2 Psn.enc D) (z : ∀ d ∈ D, Person_small 9223372036854775807 d.key ∧ RdL w w.heap.size d.A 1 encInt d.x) :
    RdP w w.heap.size A (D.map Psn.key) ∧ ∀ k ∈ D.map Psn.key, Person_small 9223372036854775807 k :=
  ⟨⟨D, rfl, x, fun d hd => (z d hd).2⟩, fun k hk => by obtain ⟨d, hd, rfl⟩ := List.mem_map.1 hk; exact (z d hd).1⟩
end Go.Proofs.YtbfhfnejppfehaaDoor
