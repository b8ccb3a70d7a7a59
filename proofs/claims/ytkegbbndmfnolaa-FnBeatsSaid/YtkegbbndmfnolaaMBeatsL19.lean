import Derived.Test.YtkegbbndmfnolaaMBeatsL00
import Derived.Test.YtkegbbndmfnolaaMBeatsL17
import Derived.Test.YtkegbbndmfnolaaMBeatsL07
import Derived.Deep.CutRange
import Derived.Test.YtkegbbndmfnolaaMBeatsL02
import Derived.Test.YtkegbbndmfnolaaMBeatsL05
import Derived.Test.YtkegbbndmfnolaaMBeatsL06
import Derived.Test.YtkegbbndmfnolaaMBeatsL09
/-
  The cycles of a finite bijection, and its points set aside one by one: as many are moved as the cycles' lengths less one: plain.
-/
set_option linter.unusedVariables false
set_option linter.unusedSimpArgs false
namespace Go.Proofs.Ytkegbbndmfnolaa.CycT
/-- From x through l to y: each is sent to the next. -/
def path (f : Nat → Nat) : Nat → List Nat → Nat → Prop
  | x, [], y => f x = y
  | x, z :: l, y => f x = z ∧ path f z l y
theorem path_app {f : Nat → Nat} {k : Nat} {v : List Nat} {y : Nat} : ∀ {u : List Nat} {x : Nat}, path f x (u ++ k :: v) y ↔ path f x u k ∧ path f k v y
  | [], x => by simp [path]
  | z :: u, x => by simp only [List.cons_append, path, path_app (u := u), and_assoc]
theorem path_congr {f g : Nat → Nat} : ∀ {l : List Nat} {x y : Nat}, (∀ z, z = x ∨ z ∈ l → f z = g z) → path f x l y → path g x l y
  | [], x, y, h, hp => by simp only [path] at *; rw [← h x (.inl rfl)]; exact hp
  | z :: l, x, y, h, hp => by
    simp only [path] at *
    refine ⟨by rw [← h x (.inl rfl)]; exact hp.1, path_congr (fun t ht => h t (.inr (by rcases ht with rfl | ht <;> simp [*]))) hp.2⟩
/-- The last of a path is sent to its end. -/
theorem path_last {f g : Nat → Nat} {k y : Nat} : ∀ {l : List Nat} {x : Nat}, (x :: l).Nodup → (∀ z, z ∈ x :: l → f z ≠ k → g z = f z) → (∀ z, z ∈ x :: l → f z = k → g z = y) → k ∉ l → path f x l k → path g x l y
  | [], x, _, h1, h2, _, hp => by simp only [path] at *; exact h2 x (by simp) hp
  | z :: l, x, hn, h1, h2, hk, hp => by
    simp only [path] at *
    have hz : z ≠ k := fun e => hk (by simp [e])
    have hx : f x ≠ k := by rw [hp.1]; exact hz
    refine ⟨by rw [h1 x (by simp) hx]; exact hp.1, path_last (List.nodup_cons.1 hn).2 (fun t ht => h1 t (List.mem_cons_of_mem _ ht)) (fun t ht => h2 t (List.mem_cons_of_mem _ ht)) (fun e => hk (List.mem_cons_of_mem _ e)) hp.2⟩
/-- A cycle: a point and what follows. -/
abbrev Cy := Nat × List Nat
def Cy.all (c : Cy) : List Nat := c.1 :: c.2
def Cy.ok (f : Nat → Nat) (c : Cy) : Prop := path f c.1 c.2 c.1
def flat (C : List Cy) : List Nat := C.flatMap Cy.all
def excess : List Cy → Nat
  | [] => 0
  | c :: C => c.2.length + excess C
structure Dec (n : Nat) (f : Nat → Nat) (C : List Cy) : Prop where
  ok : ∀ c ∈ C, c.ok f
  nd : (flat C).Nodup
  cov : ∀ i, i < n → f i ≠ i → i ∈ flat C
/-- One point set aside: what is sent to it is sent on. -/
def aside (f : Nat → Nat) (k : Nat) : Nat → Nat := fun i => if i = k then k else if f i = k then f k else f i
theorem excess_app (A B : List Cy) : excess (A ++ B) = excess A + excess B := by
  induction A with
  | nil => simp [excess]
  | cons c A ih => simp [excess, ih, Nat.add_assoc]
theorem flat_app (A B : List Cy) : flat (A ++ B) = flat A ++ flat B := by simp [flat]
theorem flat_cons (c : Cy) (B : List Cy) : flat (c :: B) = c.all ++ flat B := by simp [flat]
theorem Dec.aside {n : Nat} {f : Nat → Nat} {C : List Cy} (h : Dec n f C) (hf : ∀ i, i < n → f i < n) (hi : ∀ i j, i < n → j < n → f i = f j → i = j) (hb : ∀ x ∈ flat C, x < n) {k : Nat} (hk : k < n) (hne : f k ≠ k) :
    ∃ C', Dec n (aside f k) C' ∧ excess C = excess C' + 1 ∧ ∀ x ∈ flat C', x < n := by
  have hm := h.cov k hk hne
  obtain ⟨c, hc, hkc⟩ : ∃ c ∈ C, k ∈ c.all := by simpa [flat] using hm
  obtain ⟨A, B, rfl⟩ := List.append_of_mem hc
  -- rotated so that k stands first
  obtain ⟨l, hl, hlen, hperm⟩ : ∃ l, path f k l k ∧ l.length = c.2.length ∧ (k :: l).Perm c.all := by
    obtain ⟨x, m⟩ := c
    have ho := h.ok _ hc
    rcases List.mem_cons.1 hkc with e | e
    · simp only at e; subst e; exact ⟨m, ho, rfl, List.Perm.refl _⟩
    · simp only at e
      obtain ⟨u, v, rfl⟩ := List.append_of_mem e
      have hp := path_app.1 ho
      refine ⟨v ++ x :: u, path_app.2 ⟨hp.2, hp.1⟩, by simp; omega, ?_⟩
      show (k :: (v ++ x :: u)).Perm (x :: (u ++ k :: v))
      have e1 : (k :: v ++ x :: u).Perm (x :: u ++ k :: v) := List.perm_append_comm
      simpa using e1
  have hnd := h.nd
  rw [flat_app, flat_cons] at hnd
  have hnd2 : (flat A ++ ((k :: l) ++ flat B)).Nodup := (((hperm.append_right (flat B)).append_left (flat A)).nodup_iff).2 hnd
  cases l with
  | nil => exact absurd hl hne
  | cons x l =>
    have hpx : path f x l k := hl.2
    have hkx : f k = x := hl.1
    have hmid := (List.nodup_append.1 hnd2)
    have hmid2 := List.nodup_append.1 hmid.2.1
    have hkn : k ∉ x :: l := (List.nodup_cons.1 hmid2.1).1
    have hxl : (x :: l).Nodup := (List.nodup_cons.1 hmid2.1).2
    have hbx : ∀ z ∈ k :: x :: l, z < n := fun z hz => hb z (by rw [flat_app, flat_cons]; simp only [List.mem_append]; exact .inr (.inl (hperm.subset hz)))
    have hsub : ∀ z, z ∈ flat (A ++ (x, l) :: B) → z ∈ flat (A ++ c :: B) := by
      intro z hz
      rw [flat_app, flat_cons, List.mem_append, List.mem_append] at hz ⊢
      rcases hz with hz | hz | hz
      · exact .inl hz
      · exact .inr (.inl (hperm.subset (List.mem_cons_of_mem _ hz)))
      · exact .inr (.inr hz)
    -- the point that is sent to k lies in the cycle
    have hpre : ∀ z, z < n → f z = k → z ∈ x :: l := by
      intro z hz e
      -- the last of the path
      have : ∀ {l : List Nat} {x : Nat}, path f x l k → ∃ t ∈ x :: l, f t = k := by
        intro l
        induction l with
        | nil => intro x hp; exact ⟨x, by simp, hp⟩
        | cons y l ih =>
          intro x hp
          obtain ⟨t, ht, he⟩ := ih hp.2
          exact ⟨t, List.mem_cons_of_mem _ ht, he⟩
      obtain ⟨t, ht, he⟩ := this hpx
      have := hi t z (hbx t (List.mem_cons_of_mem _ ht)) hz (by rw [he, e])
      rw [← this]; exact ht
    refine ⟨A ++ (x, l) :: B, ⟨?_, ?_, ?_⟩, ?_, ?_⟩
    · intro c' hc'
      have other : ∀ c' ∈ A ++ B, c'.ok (CycT.aside f k) := by
        intro c' hc'
        have hok : c'.ok f := h.ok c' (by rcases List.mem_append.1 hc' with h1 | h1 <;> simp [h1])
        refine path_congr (fun z hz => ?_) hok
        have hz' : z ∈ c'.all := by rcases hz with rfl | hz; exact List.mem_cons_self; exact List.mem_cons_of_mem _ hz
        have hzf : z ∈ flat A ∨ z ∈ flat B := by
          rcases List.mem_append.1 hc' with h1 | h1
          · exact .inl (List.mem_flatMap.2 ⟨c', h1, hz'⟩)
          · exact .inr (List.mem_flatMap.2 ⟨c', h1, hz'⟩)
        have hnin : z ∉ k :: x :: l := by
          intro e
          rcases hzf with h1 | h1
          · exact hmid.2.2 z h1 z (List.mem_append.2 (.inl e)) rfl
          · exact hmid2.2.2 z e z h1 rfl
        have hzn : z < n := hb z (by rw [flat_app, flat_cons]; rcases hzf with h1 | h1 <;> simp [h1])
        unfold CycT.aside
        rw [if_neg (fun e => hnin (by simp [e])), if_neg (fun e => hnin (List.mem_cons_of_mem _ (hpre z hzn e)))]
      rcases List.mem_append.1 hc' with h1 | h1
      · exact other c' (List.mem_append.2 (.inl h1))
      · rcases List.mem_cons.1 h1 with rfl | h1
        · refine path_last hxl (fun z hz hzk => ?_) (fun z hz hzk => ?_) (fun e => hkn (List.mem_cons_of_mem _ e)) hpx
          · unfold CycT.aside; rw [if_neg (fun e => hkn (by rw [← e]; exact hz)), if_neg hzk]
          · unfold CycT.aside; rw [if_neg (fun e => hkn (by rw [← e]; exact hz)), if_pos hzk]; exact hkx
        · exact other c' (List.mem_append.2 (.inr h1))
    · rw [flat_app, flat_cons]
      refine hnd2.sublist ?_
      exact List.Sublist.append (List.Sublist.refl _) (List.Sublist.append (List.sublist_cons_self _ _) (List.Sublist.refl _))
    · intro i hin hne'
      unfold CycT.aside at hne'
      have hik : i ≠ k := fun e => by rw [if_pos e] at hne'; exact hne' e.symm
      rw [if_neg hik] at hne'
      have hfi : f i ≠ i := by
        intro e
        rw [if_neg (by rw [e]; exact hik)] at hne'
        exact hne' e
      have hmi := h.cov i hin hfi
      rw [flat_app, flat_cons, List.mem_append, List.mem_append] at hmi ⊢
      rcases hmi with h1 | h1 | h1
      · exact .inl h1
      · have := hperm.symm.subset h1
        rcases List.mem_cons.1 this with e | e
        · exact absurd e hik
        · exact .inr (.inl e)
      · exact .inr (.inr h1)
    · rw [excess_app, excess_app]
      simp only [excess]
      have : c.2.length = l.length + 1 := by rw [← hlen]; rfl
      omega
    · intro z hz; exact hb z (hsub z hz)
/-- How many points are not at home when their turn comes, from k on. -/
def moved (n : Nat) : Nat → Nat → (Nat → Nat) → Nat
  | 0, _, _ => 0
  | m + 1, k, f => if f k = k then moved n m (k + 1) f else moved n m (k + 1) (aside f k) + 1
theorem aside_lt {n k : Nat} {f : Nat → Nat} (hf : ∀ i, i < n → f i < n) (hk : k < n) : ∀ i, i < n → aside f k i < n := by
  intro i hi; unfold aside; split
  · exact hk
  · split
    · exact hf k hk
    · exact hf i hi
theorem aside_inj {n k : Nat} {f : Nat → Nat} (hf : ∀ i, i < n → f i < n) (hi : ∀ i j, i < n → j < n → f i = f j → i = j) (hk : k < n) (hne : f k ≠ k) : ∀ i j, i < n → j < n → aside f k i = aside f k j → i = j := by
  intro i j h1 h2 e
  unfold aside at e
  by_cases a : i = k <;> by_cases b : j = k
  · rw [a, b]
  · rw [if_pos a, if_neg b] at e
    split at e
    · exact absurd e.symm hne
    · rename_i h; exact absurd e.symm h
  · rw [if_neg a, if_pos b] at e
    split at e
    · exact absurd e hne
    · rename_i h; exact absurd e h
  · rw [if_neg a, if_neg b] at e
    by_cases c : f i = k <;> by_cases d : f j = k
    · exact hi i j h1 h2 (by rw [c, d])
    · rw [if_pos c, if_neg d] at e; exact absurd (hi k j hk h2 e) (fun x => b x.symm)
    · rw [if_neg c, if_pos d] at e; exact absurd (hi i k h1 hk e) a
    · rw [if_neg c, if_neg d] at e; exact hi i j h1 h2 e
theorem Dec.moved {n : Nat} : ∀ (m k : Nat) (f : Nat → Nat) (C : List Cy), k + m = n → Dec n f C → (∀ i, i < n → f i < n) → (∀ i j, i < n → j < n → f i = f j → i = j) → (∀ x ∈ flat C, x < n) → (∀ i, i < k → f i = i) → moved n m k f = excess C
  | 0, k, f, C, hkm, h, hf, hi, hb, h0 => by
    have hk : k = n := by omega
    subst hk
    have : ∀ D : List Cy, (∀ c ∈ D, c.ok f) → (flat D).Nodup → (∀ x ∈ flat D, x < k) → excess D = 0 := by
      intro D
      induction D with
      | nil => intros; rfl
      | cons c D ih =>
        intro ok nd bd
        rw [flat_cons] at nd bd
        have := ih (fun c' hc' => ok c' (List.mem_cons_of_mem _ hc')) (List.nodup_append.1 nd).2.1 (fun x hx => bd x (by simp [hx]))
        simp only [excess]
        obtain ⟨x, l⟩ := c
        cases l with
        | nil => simpa using this
        | cons y l =>
          have hp := ok _ List.mem_cons_self
          have hxy : f x = y := hp.1
          rw [h0 x (bd x (by simp [Cy.all]))] at hxy
          have hn := (List.nodup_append.1 nd).1
          have := (List.nodup_cons.1 hn).1
          exact absurd (by rw [hxy]; simp) this
    rw [this C h.ok h.nd hb]; rfl
  | m + 1, k, f, C, hkm, h, hf, hi, hb, h0 => by
    simp only [CycT.moved]
    split
    · rename_i e
      exact Dec.moved m (k + 1) f C (by omega) h hf hi hb (fun i hi => by rcases Nat.lt_or_eq_of_le (Nat.le_of_lt_succ hi) with x | rfl; exact h0 i x; exact e)
    · rename_i e
      obtain ⟨C', hd, hex, hb'⟩ := h.aside hf hi hb (show k < n by omega) e
      rw [hex, Dec.moved m (k + 1) (CycT.aside f k) C' (by omega) hd (aside_lt hf (by omega)) (aside_inj hf hi (by omega) e) hb' (fun i hik => ?_)]
      unfold CycT.aside
      split
      · rename_i x; exact x.symm
      · rename_i x
        have hfi := h0 i (by omega)
        rw [if_neg (by rw [hfi]; exact x)]
        exact hfi
end Go.Proofs.Ytkegbbndmfnolaa.CycT

/-
  A cycle that is run through from a point that is not yet in the list of cycles: plain.
-/
set_option linter.unusedVariables false
set_option linter.unusedSimpArgs false
namespace Go.Proofs.Ytkegbbndmfnolaa.CycT
theorem nodupN_le : ∀ (l : List Nat) (n : Nat), l.Nodup → (∀ x ∈ l, x < n) → l.length ≤ n
  | l, 0, _, h => by
    cases l with
    | nil => simp
    | cons x l => have := h x (by simp); omega
  | l, n + 1, hn, h => by
    have h1 := nodupN_le (l.erase n) n (hn.erase n) (fun x hx => by
      have := (hn.mem_erase_iff).1 hx
      have := h x this.2; omega)
    have := List.length_erase (a := n) (l := l)
    split at this <;> omega
/-- Cycles that cover the points ahead of i. -/
structure Part (n : Nat) (f : Nat → Nat) (C : List Cy) (i : Nat) : Prop where
  ok : ∀ c ∈ C, c.ok f
  nd : (flat C).Nodup
  lt : ∀ z ∈ flat C, z < n
  nf : ∀ z ∈ flat C, f z ≠ z
  cov : ∀ j, j < i → f j ≠ j → j ∈ flat C
theorem Part.start (n : Nat) (f : Nat → Nat) : Part n f [] 0 := ⟨by simp, by simp [flat], by simp [flat], by simp [flat], fun j hj => absurd hj (by omega)⟩
theorem Part.skip {n : Nat} {f : Nat → Nat} {C : List Cy} {i : Nat} (h : Part n f C i) (hs : i ∈ flat C ∨ f i = i) : Part n f C (i + 1) :=
  ⟨h.ok, h.nd, h.lt, h.nf, fun j hj hne => by
    by_cases e : j = i
    · subst e; exact hs.resolve_right hne
    · exact h.cov j (by omega) hne⟩
structure Run (n : Nat) (f : Nat → Nat) (C : List Cy) (x : Nat) (cyc : List Nat) (cur : Nat) : Prop where
  sh : (cyc = [] ∧ cur = x) ∨ ∃ l, cyc = x :: l ∧ path f x l cur
  nd : cyc.Nodup
  lt : ∀ z ∈ cyc, z < n
  cl : cur < n
  out : ∀ z ∈ cyc, z ∉ flat C
  co : cur ∉ flat C
  nf : ∀ z ∈ cyc, f z ≠ z
theorem Run.start {n : Nat} {f : Nat → Nat} {C : List Cy} {x : Nat} (hx : x < n) (ho : x ∉ flat C) : Run n f C x [] x := ⟨.inl ⟨rfl, rfl⟩, by simp, by simp, hx, by simp, ho, by simp⟩
theorem Run.len {n : Nat} {f : Nat → Nat} {C : List Cy} {x cur : Nat} {cyc : List Nat} (h : Run n f C x cyc cur) (hc : cur ∉ cyc) : cyc.length < n := by
  have h1 : (cyc ++ [cur]).Nodup := List.nodup_append.2 ⟨h.nd, by simp, fun a ha b hb e => by simp only [List.mem_singleton] at hb; subst hb; subst e; exact hc ha⟩
  have h2 := nodupN_le (cyc ++ [cur]) n h1 (fun z hz => by
    rcases List.mem_append.1 hz with hz | hz
    · exact h.lt z hz
    · simp only [List.mem_singleton] at hz; subst hz; exact h.cl)
  simp at h2; omega
end Go.Proofs.Ytkegbbndmfnolaa.CycT

/-
  The reader of choices: values with weights.
-/
namespace Go.Proofs.Ytkegbbndmfnolaa
open Go.RowKit
set_option linter.unusedVariables false
set_option linter.unusedSimpArgs false
set_option maxRecDepth 100000

theorem Grow.turn {α : Type} {enc : α → List Value} {w w' : World} {base : Nat} {e : TypeId} {size : Nat} {v : Value} {l : List α} {g0 : Nat} (h : Grow w base e size enc v l) (hg : Turn g0 w w') (hb : g0 < base) : Grow w' base e size enc v l := by
  have hlt := h.block_lt
  refine ⟨h.1, ?_⟩
  rcases h.2 with ⟨h1, h2⟩ | ⟨g, cap, cur, h1, h2, h3, h4⟩
  · exact .inl ⟨h1, h2⟩
  · have e1 : v.ownBlock = some g := by rw [h1]; rfl
    exact .inr ⟨g, cap, cur, h1, h2, (hg.block g (hlt g e1) (by omega)).trans h3, h4⟩
theorem Turn.thenB {g : Nat} {a b c : World} (h : Turn g a b) (k : Below a.heap.size b c) : Turn g a c :=
  ⟨k.os.trans h.os, k.tape.trans h.tape, k.output.trans h.output, Nat.le_trans h.size k.size, fun i hi hr => (k.block i hi).trans (h.block i hi hr)⟩
/-- Two slices of the call's own lie apart. -/
def Apart (a b : Value) : Prop := ∀ g, a.ownBlock = some g → some g ≠ b.ownBlock
theorem Apart.swap {a b : Value} (h : Apart a b) : Apart b a := fun g hg e => h g (e.symm.trans rfl) hg.symm
theorem Apart.grow {a b a' : Value} {m : Nat} (h : Apart a b) (hb : ∀ g, b.ownBlock = some g → g < m) (ha : a'.ownBlock = a.ownBlock ∨ a'.ownBlock = some (m + 1)) : Apart a' b := by
  intro g hg e
  rcases ha with ha | ha
  · exact h g (ha ▸ hg) e
  · rw [ha] at hg
    have := hb g e.symm
    injection hg with hg
    omega
theorem RdL.turn {w w' : World} {b g : Nat} {A : Option Addr} {l : List Int} (h : RdL w b A 1 encInt l) (ht : Turn g w w') (hb : b ≤ w.heap.size) (hne : ∀ q off, A = some ⟨q, off, none⟩ → q ≠ g) : RdL w' b A 1 encInt l := by
  rcases h with h | ⟨q, off, rfl, hg, hc⟩
  · exact .inl h
  · exact .inr ⟨q, off, rfl, hg, fun i hi j v hv => (ht.cell (p := ⟨q, _, none⟩) (Nat.lt_of_lt_of_le hg hb) (hne q off rfl)).trans (hc i hi j v hv)⟩
theorem Grow.lo {α : Type} {enc : α → List Value} {w : World} {base base' : Nat} {e : TypeId} {size : Nat} {v : Value} {l : List α} (h : Grow w base e size enc v l) (hb : base' ≤ base) : Grow w base' e size enc v l := by
  refine ⟨h.1, ?_⟩
  rcases h.2 with h1 | ⟨g, cap, cur, h1, h2, h3⟩
  · exact .inl h1
  · exact .inr ⟨g, cap, cur, h1, Nat.le_trans hb h2, h3⟩
theorem frozen_of_turn {g b : Nat} {w w' : World} (h : Turn g w w') (hb : b < w.heap.size) (hne : b ≠ g) (i : Nat) : w'.frozen? ⟨b, i, none⟩ = w.frozen? ⟨b, i, none⟩ := by
  have := h.block b hb (by omega)
  simp only [World.frozen?, this]
end Go.Proofs.Ytkegbbndmfnolaa

/-
  The cycles of a row, as the reference makes them.
-/
namespace Go.Proofs.Ytkegbbndmfnolaa
open Go.RowKit
open CycT (Cy Part Run)
set_option linter.unusedVariables false
set_option linter.unusedSimpArgs false
set_option maxRecDepth 100000

section
variable {P : Program} {ops : Array Oper} {rest : List Oper} {o : Oper} {a : Act} {Q : Exit → Act → World → Prop} {w : World}
/-- wpList_pushAll; the new slice's block is the old one's, or new. -/
theorem wpList_pushAllA {α : Type} (hgd : o.guard = none) (s x : Operand) (t : TypeId) (ho : o.op = .call { callee := .builtin .append, args := #[s, x], argTypes := #[t, t] })
    (base : Nat) (e : TypeId) (z : Value) (size bytes : Nat) (enc : α → List Value)
    (ht : P.underlying t = some (.slice e)) (hinfo : (P.info? e).map (fun i => (i.zero, i.size, i.bytes)) = some (some z, size, bytes)) (hzs : z.cells.size = size) (hsz : 0 < size)
    (v : Value) (l ys : List α) (A : Option Addr) (c b : Nat) (hs : a.eval s = v) (hx : a.eval x = .slice A ys.length c) (hr : RdL w b A size enc ys) (hne : 0 < ys.length)
    (hown : Grow w base e size enc v l) (henc : ∀ x, (enc x).length = size) (h1 : ∀ x, ∀ u ∈ enc x, u.oneCell' = true)
    (hn : l.length + ys.length ≤ 1000000000) (hb : bytes ≤ 1000) (hbase : base ≤ w.heap.size)
    (h : ∀ v' w', Grow w' base e size enc v' (l ++ ys) → Below base w w' → w.grownBy w' v.ownBlock → (v'.ownBlock = v.ownBlock ∨ v'.ownBlock = some w.heap.size) → wpList P ops Q rest (a.put o.dst v') w') :
    wpList P ops Q (o :: rest) a w := by
  obtain ⟨i, hi, hzz⟩ := Option.map_eq_some_iff.1 hinfo
  simp only [Prod.mk.injEq] at hzz
  obtain ⟨hz, hs', hb'⟩ := hzz
  have hmul : (l.length + ys.length) * bytes ≤ 1000000000 * 1000 := Nat.mul_le_mul hn hb
  obtain ⟨g, off, hA, _, _⟩ := hr.at (k := 0) hne
  subst hA
  refine wpList_append_own_at (P := P) _ hgd s x t ho base e i z size bytes ht hi hz hs' hb' hzs hsz v l.length (flat enc l) hs hown ⟨g, off, none⟩ ys.length c (flat enc ys) hx (flat_len henc ys)
    (fun j u hu => by
      obtain ⟨i, hi, k, rfl, hk⟩ := flat_inv henc ys j u hu
      obtain ⟨g', off', hA', _, hcell⟩ := hr.at hi
      simp only [Option.some.injEq, Addr.mk.injEq, and_true] at hA'
      obtain ⟨rfl, rfl⟩ := hA'
      have e : (⟨g, off, none⟩ : Addr).add (i * size + k) = ⟨g, off + (i * size + k), none⟩ := by unfold Addr.add; split <;> simp_all
      rw [e]; exact hcell k u hk) (fun u hu => by
      obtain ⟨j, hj⟩ := List.getElem?_of_mem hu
      obtain ⟨i, hi, k, _, hk⟩ := flat_inv henc ys j u hj
      exact h1 _ u (List.mem_of_getElem? hk)) (by unfold maxLen; omega) (by omega) hbase ?_
  intro v' w' hown' hg _ hblk
  have hr : ∀ k, v.ownBlock = some k → base ≤ k := fun k hk => by
    rcases hown.2 with ⟨rfl, _⟩ | ⟨g, cap, cur, rfl, hbg, _⟩
    · simp [Value.ownBlock] at hk
    · simp [Value.ownBlock] at hk; omega
  refine h v' w' ?_ ?_ hg hblk
  · unfold Grow
    rw [List.length_append, flat_append]
    exact hown'
  · exact (Below.refl base w).grown hg hbase hr
end
/-- The head of a slice. -/
structure Hd where
  A : Option Addr
  n : Nat
  c : Nat
def Hd.enc (h : Hd) : List Value := [.slice h.A h.n h.c]
/-- Where a row sends a place. -/
def rowF (a : ByteArray) (i : Nat) : Nat := (bat a i - 49).toNat
def up (l : List Nat) : List Int := l.map fun x : Nat => (x : Int) + 1
theorem rowF_lt {a : ByteArray} (h : isRow a) : ∀ i, i < a.size → rowF a i < a.size := fun i hi => by have := h.2.2.1 i hi; unfold rowF; omega
theorem rowF_inj {a : ByteArray} (h : isRow a) : ∀ i j, i < a.size → j < a.size → rowF a i = rowF a j → i = j := fun i j hi hj e => h.inj hi hj (by have := h.2.2.1 i hi; have := h.2.2.1 j hj; unfold rowF at e; omega)
theorem rowF_bat {a : ByteArray} (h : isRow a) {i : Nat} (hi : i < a.size) : bat a i - 48 = ((rowF a i : Nat) : Int) + 1 := by have := h.2.2.1 i hi; unfold rowF; omega
/-- The heads of the cycles' slices. -/
def HdsOf (hs : List Hd) (C : List Cy) : Prop := hs.map Hd.n = C.map fun c => c.2.length + 1
theorem HdsOf.len {hs : List Hd} {C : List Cy} (h : HdsOf hs C) : hs.length = C.length := by have := congrArg List.length h; simpa using this
def lenV : Value → Nat
  | .slice _ n _ => n
  | _ => 0
end Go.Proofs.Ytkegbbndmfnolaa

/-
  Contracts: valid changes, methods and calls (both sides).
-/
namespace Go.Proofs.Ytkegbbndmfnolaa
open Go.RowKit
set_option linter.unusedVariables false
set_option linter.unusedSimpArgs false
set_option maxRecDepth 100000

end Go.Proofs.Ytkegbbndmfnolaa
