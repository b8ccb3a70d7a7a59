/-
  Contracts of the helper functions that the laws use for lists of people (a name and a list of skills).
-/
import Derived.Test.YtpedfjcidbopiaaTyIntS
import Derived.Test.YtpedfjcidbopiaaOpenCs
namespace Go.Proofs.Ytpedfjcidbopiaa
open Go.RowKit Go.ChangeShapes Go.WideShapes Go.Deep
set_option linter.unusedVariables false
set_option linter.unusedSimpArgs false
set_option maxRecDepth 100000

/-- A person in memory: the name; the skills, their address, their room. -/
structure Psn where
  name : ByteArray
  x : List Int
  A : Option Addr
  c : Nat
def Psn.enc (p : Psn) : List Value := [.string p.name, .slice p.A p.x.length p.c]
theorem Psn_enc_len (p : Psn) : (Psn.enc p).length = 2 := rfl
/-- A person: a name and the skills. -/
abbrev Pk := ByteArray × List Int
def Psn.key (p : Psn) : Pk := (p.name, p.x)
def Person_small (lim : Int) (x : Pk) : Prop := (x.1.size : Int) ≤ lim ∧ (x.2.length : Int) ≤ lim
theorem Person_info : (Try.prog.info? 82).map (fun i => (i.zero, i.size, i.bytes)) = some (some (.agg #[.string ⟨#[]⟩, .slice none 0 0]), 2, 40) := by kernel_rfl
abbrev RdNP (w : World) (b : Nat) (A : Option Addr) (D : List Psn) : Prop := RdN w b A 2 Psn.enc Psn.A Psn.x 1 encInt D
abbrev OwnNP (w : World) (b c : Nat) (A : Option Addr) (D : List Psn) : Prop := OwnN w b c A 2 Psn.enc Psn.A Psn.x 1 encInt D
def RdP (w : World) (b : Nat) (A : Option Addr) (l : List Pk) : Prop := ∃ D : List Psn, D.map Psn.key = l ∧ RdNP w b A D
def OwnP (w : World) (b c : Nat) (A : Option Addr) (l : List Pk) : Prop := ∃ D : List Psn, D.map Psn.key = l ∧ OwnNP w b c A D
section
variable {w w' : World} {b b' c c' k : Nat} {A : Option Addr} {l : List Pk}
theorem RdP.below (h : RdP w b A l) (hb : Below k w w') (hc : b ≤ k) : RdP w' b A l := by obtain ⟨D, hD, h⟩ := h; exact ⟨D, hD, h.below hb hc⟩
theorem RdP.more (h : RdP w b A l) (hb : b ≤ b') : RdP w b' A l := by obtain ⟨D, hD, h⟩ := h; exact ⟨D, hD, h.more hb⟩
theorem OwnP.nil : OwnP w b c A [] := ⟨[], rfl, OwnN.nil⟩
theorem OwnP.rd (h : OwnP w b c A l) (_ : True) : RdP w w.heap.size A l := by obtain ⟨D, hD, h⟩ := h; exact ⟨D, hD, h.rd Psn_enc_len encInt_len⟩
theorem OwnP.later (h : OwnP w b c A l) (hb : Below w.heap.size w w') : OwnP w' b c A l := by obtain ⟨D, hD, h⟩ := h; exact ⟨D, hD, h.later hb⟩
theorem OwnP.chg (h : OwnP w b c A l) (k : Chg b' c' w w') (hr : c ≤ b' ∨ c' ≤ b) : OwnP w' b c A l := by obtain ⟨D, hD, h⟩ := h; exact ⟨D, hD, h.chg k hr⟩
theorem OwnP.mono (h : OwnP w b c A l) (hb : b' ≤ b) (hc : c ≤ c') : OwnP w b' c' A l := by obtain ⟨D, hD, h⟩ := h; exact ⟨D, hD, h.mono hb hc⟩
end
theorem OwnL.one {α : Type} {w : World} {b c : Nat} {A : Option Addr} {size : Nat} {enc : α → List Value} {l : List α} (h : OwnL w b c A size enc l) (hbc : b < c) : ∃ g, b ≤ g ∧ g < c ∧ OwnL w g (g + 1) A size enc l := by
  rcases h with h | ⟨g, f, rfl, h1, h2, h3⟩
  · exact ⟨b, Nat.le_refl _, hbc, .inl h⟩
  · exact ⟨g, h1, h2, .inr ⟨g, f, rfl, Nat.le_refl _, by omega, h3⟩⟩
theorem fill_congr {α : Type} {enc : α → List Value} {size : Nat} {l l' : List α} {z : Nat → Value} {k : Nat} (h : k ≤ l.length) (h' : k ≤ l'.length) (he : ∀ (i : Nat) (h1 : i < l.length) (h2 : i < l'.length), i < k → l[i] = l'[i]) : fill enc size l z k = fill enc size l' z k := by
  funext p
  unfold fill
  by_cases hp : p / size < k
  · rw [dif_pos ⟨hp, by omega⟩, dif_pos ⟨hp, by omega⟩, he _ _ _ hp]
  · rw [dif_neg (fun h => hp h.1), dif_neg (fun h => hp h.1)]

section
variable {δ β : Type} {w w' : World} {b : Nat} {iA : δ → Option Addr} {ix : δ → List β} {ib : Nat} {eb : β → List Value} {D : List δ} {k : Nat}
/-- The inner slices of the first k elements lie each in a block of its own, from b on. -/
def Inn (w : World) (b : Nat) (iA : δ → Option Addr) (ix : δ → List β) (ib : Nat) (eb : β → List Value) (D : List δ) (k : Nat) : Prop :=
  ∃ h : Nat → Nat, ∀ (i : Nat) (hi : i < D.length), i < k → b ≤ h i ∧ h i < w.heap.size ∧ OwnL w (h i) (h i + 1) (iA D[i]) ib eb (ix D[i]) ∧ ∀ j, j < i → h j ≠ h i
theorem Inn.zero : Inn w b iA ix ib eb D 0 := ⟨fun i => i, fun i _ h => by omega⟩
theorem Inn.later (h : Inn w b iA ix ib eb D k) (hb : Below w.heap.size w w') : Inn w' b iA ix ib eb D k := by
  obtain ⟨hh, hi⟩ := h
  exact ⟨hh, fun i hlt hk => ⟨(hi i hlt hk).1, Nat.lt_of_lt_of_le (hi i hlt hk).2.1 hb.size, (hi i hlt hk).2.2.1.later hb, (hi i hlt hk).2.2.2⟩⟩
theorem Inn.chg {b' c' : Nat} (h : Inn w b iA ix ib eb D k) (hc : Chg b' c' w w') (hr : c' ≤ b) : Inn w' b iA ix ib eb D k := by
  obtain ⟨hh, hi⟩ := h
  exact ⟨hh, fun i hlt hk => ⟨(hi i hlt hk).1, Nat.lt_of_lt_of_le (hi i hlt hk).2.1 hc.size, (hi i hlt hk).2.2.1.chg hc (by have := (hi i hlt hk).1; omega), (hi i hlt hk).2.2.2⟩⟩
theorem Inn.step {g : Nat} (h : Inn w b iA ix ib eb D k) (hbw : b ≤ w.heap.size) (hb : Below w.heap.size w w') (hg : w.heap.size ≤ g) (hg2 : g < w'.heap.size) (d : δ) (ho : OwnL w' g (g + 1) (iA d) ib eb (ix d)) (hk : k < D.length) : Inn w' b iA ix ib eb (D.set k d) (k + 1) := by
  obtain ⟨hh, hi⟩ := h.later hb
  obtain ⟨hh0, hi0⟩ := h
  clear hi hh
  refine ⟨fun i => if i < k then hh0 i else g, fun i hlt hk1 => ?_⟩
  by_cases e : i < k
  · have hlt2 : i < D.length := by omega
    have h4 := hi0 i hlt2 e
    simp only [if_pos e]
    rw [List.getElem_set_ne (by omega)]
    exact ⟨h4.1, by have := hb.size; omega, h4.2.2.1.later hb, fun j hj => by rw [if_pos (by omega)]; exact h4.2.2.2 j hj⟩
  · obtain rfl : i = k := by omega
    simp only [if_neg e]
    rw [List.getElem_set_self]
    exact ⟨by omega, hg2, ho, fun j hj => by rw [if_pos hj]; have := (hi0 j (by omega) hj).2.1; omega⟩
theorem Inn.own {g : Nat} {A : Option Addr} {size : Nat} {enc : δ → List Value} {b0 : Nat} (h : Inn w b iA ix ib eb D D.length) (hb : g < b) (hb0 : b0 ≤ g) (hg : g < w.heap.size) (ho : OwnL w g (g + 1) A size enc D) : OwnN w b0 w.heap.size A size enc iA ix ib eb D := by
  obtain ⟨hh, hi⟩ := h
  exact .inr ⟨g, hh, hb0, hg, ho, fun i hlt => ⟨by have := (hi i hlt hlt).1; omega, (hi i hlt hlt).2.1, by have := (hi i hlt hlt).1; omega, (hi i hlt hlt).2.2⟩⟩
end
theorem Chg.setN {b c g : Nat} {a : World} (hg : b ≤ g) (hc : g < c) : ∀ (vs : List Value) {w : World} {p : Nat}, Chg b c a w → Chg b c a (setN w g p vs)
  | [], _, _, h => h
  | v :: vs, _, _, h => Chg.setN hg hc vs (h.setCell hg hc v)
/-- How many skills there are. -/
def totP (l : List Pk) : Nat := tot (l.map Prod.snd)
def cntP (l : List Pk) : Nat := l.length + totP l
theorem totP_take_succ (D : List Psn) (k : Nat) (hk : k < D.length) : totP ((D.map Psn.key).take (k + 1)) = totP ((D.map Psn.key).take k) + D[k].x.length := by
  unfold totP
  rw [List.map_take, List.map_take, tot_take_succ _ k (by simpa using hk)]
  simp [Psn.key]

theorem OwnL.setName {w : World} {b c g : Nat} {E : List Psn} (h : OwnL w b c (some ⟨g, 0, none⟩) 2 Psn.enc E) (k : Nat) (hk : k < E.length) (s : ByteArray) :
    OwnL (w.setCell ⟨g, k * 2, none⟩ (.string s)) b c (some ⟨g, 0, none⟩) 2 Psn.enc (E.set k ⟨s, E[k].x, E[k].A, E[k].c⟩) := by
  rcases h with h | ⟨g', f, hA, h1, h2, h3, h4⟩
  · subst h; simp at hk
  · simp only [Option.some.injEq, Addr.mk.injEq, and_true] at hA
    subst hA
    refine .inr ⟨g, _, rfl, h1, h2, by rw [List.length_set]; exact h3.set (i := k * 2) (by omega) _, fun i hi j u hu => ?_⟩
    have hj : j < 2 := by have := (List.getElem?_eq_some_iff.1 hu).1; simpa [Psn.enc] using this
    by_cases e : i = k
    · subst e
      rw [List.getElem_set_self] at hu
      rcases (show j = 0 ∨ j = 1 by omega) with rfl | rfl
      · rw [Nat.add_zero, upd_same]; simpa [Psn.enc] using hu
      · rw [upd_other _ _ _ _ (by omega)]; exact h4 i hk 1 u (by simpa [Psn.enc] using hu)
    · rw [List.getElem_set_ne (by omega)] at hu
      rw [upd_other _ _ _ _ (by omega)]
      exact h4 i (by simpa using hi) j u hu
theorem OwnL.psn {w : World} {b c g : Nat} {E : List Psn} (h : OwnL w b c (some ⟨g, 0, none⟩) 2 Psn.enc E) (k : Nat) (hk : k < E.length) :
    w.cell? ⟨g, k * 2, none⟩ = some (.string E[k].name) ∧ w.cell? ⟨g, k * 2 + 1, none⟩ = some (.slice E[k].A E[k].x.length E[k].c) ∧ w.frozen? ⟨g, k * 2, none⟩ = false := by
  rcases h with h | ⟨g', f, hA, h1, h2, h3, h4⟩
  · subst h; simp at hk
  · simp only [Option.some.injEq, Addr.mk.injEq, and_true] at hA
    subst hA
    have c0 := h3.cell (i := k * 2) (by omega)
    have c1 := h3.cell (i := k * 2 + 1) (by omega)
    have e0 := h4 k hk 0 _ rfl
    have e1 := h4 k hk 1 _ rfl
    rw [Nat.add_zero] at e0
    rw [e0] at c0
    rw [e1] at c1
    exact ⟨c0, c1, h3.free (i := k * 2) (by omega)⟩
theorem people_open {w : World} {A : Option Addr} {D : List Psn} (x : RdL w w.heap.size A 2 Psn.enc D) (z : ∀ d ∈ D, Person_small 9223372036854775807 d.key ∧ RdL w w.heap.size d.A 1 encInt d.x) :
    RdP w w.heap.size A (D.map Psn.key) ∧ ∀ k ∈ D.map Psn.key, Person_small 9223372036854775807 k :=
  ⟨⟨D, rfl, x, fun d hd => (z d hd).2⟩, fun k hk => by obtain ⟨d, hd, rfl⟩ := List.mem_map.1 hk; exact (z d hd).1⟩
end Go.Proofs.Ytpedfjcidbopiaa
