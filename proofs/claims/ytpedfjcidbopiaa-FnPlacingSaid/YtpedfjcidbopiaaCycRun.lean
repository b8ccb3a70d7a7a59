/-
  A cycle that is run through from a point that is not yet in the list of cycles: plain.
-/
import Derived.Test.YtpedfjcidbopiaaCyc
set_option linter.unusedVariables false
set_option linter.unusedSimpArgs false
namespace Go.Proofs.Ytpedfjcidbopiaa.CycT
theorem path_pre {f : Nat → Nat} {y z : Nat} : ∀ {l : List Nat} {x : Nat}, path f x l y → (z ∈ l ∨ z = y) → ∃ u, u ∈ x :: l ∧ f u = z
  | [], x, hp, h => by
    rcases h with h | rfl
    · cases h
    · exact ⟨x, List.mem_cons_self, hp⟩
  | t :: l, x, hp, h => by
    by_cases e : z = t
    · exact ⟨x, List.mem_cons_self, by rw [hp.1, e]⟩
    · obtain ⟨u, hu, he⟩ := path_pre hp.2 (by rcases h with h | h; exact .inl ((List.mem_cons.1 h).resolve_left e); exact .inr h)
      exact ⟨u, List.mem_cons_of_mem _ hu, he⟩
/-- A path that comes back comes back to its head. -/
theorem path_back {f : Nat → Nat} {n y : Nat} (hi : ∀ i j, i < n → j < n → f i = f j → i = j) : ∀ {l : List Nat} {x : Nat}, path f x l y → (x :: l).Nodup → (∀ z ∈ x :: l, z < n) → y ∉ l
  | [], x, _, _, _ => by simp
  | t :: l, x, hp, hn, hb => by
    obtain ⟨h1, h2⟩ := List.nodup_cons.1 hn
    intro hy
    by_cases e : y = t
    · obtain ⟨u, hu, he⟩ := path_pre hp.2 (z := y) (.inr rfl)
      have := hi u x (hb u (List.mem_cons_of_mem _ hu)) (hb x List.mem_cons_self) (by rw [he, hp.1, e])
      subst this
      exact h1 hu
    · exact path_back hi hp.2 h2 (fun z hz => hb z (List.mem_cons_of_mem _ hz)) ((List.mem_cons.1 hy).resolve_left e)
theorem nodupN_le : ∀ (l : List Nat) (n : Nat), l.Nodup → (∀ x ∈ l, x < n) → l.length ≤ n
  | l, 0, _, h => by
    cases l with
    | nil => simp
    | cons x l => have := h x (by simp); omega
  | l, n + 1, hn, h => by
    have h1 := nodupN_le (l.erase n) n (hn.erase n) (fun x hx => by
      have := (hn.mem_erase_iff).1 hx
      have := h x this.2; omega)
    have := List.length_erase (a := n) (l := l)
    split at this <;> omega
/-- Cycles that cover the points ahead of i. -/
structure Part (n : Nat) (f : Nat → Nat) (C : List Cy) (i : Nat) : Prop where
  ok : ∀ c ∈ C, c.ok f
  nd : (flat C).Nodup
  lt : ∀ z ∈ flat C, z < n
  nf : ∀ z ∈ flat C, f z ≠ z
  cov : ∀ j, j < i → f j ≠ j → j ∈ flat C
theorem Part.start (n : Nat) (f : Nat → Nat) : Part n f [] 0 := ⟨by simp, by simp [flat], by simp [flat], by simp [flat], fun j hj => absurd hj (by omega)⟩
theorem Part.dec {n : Nat} {f : Nat → Nat} {C : List Cy} (h : Part n f C n) : Dec n f C := ⟨h.ok, h.nd, h.cov⟩
theorem Part.skip {n : Nat} {f : Nat → Nat} {C : List Cy} {i : Nat} (h : Part n f C i) (hs : i ∈ flat C ∨ f i = i) : Part n f C (i + 1) :=
  ⟨h.ok, h.nd, h.lt, h.nf, fun j hj hne => by
    by_cases e : j = i
    · subst e; exact hs.resolve_right hne
    · exact h.cov j (by omega) hne⟩
theorem mem_flat {C : List Cy} {z : Nat} : z ∈ flat C ↔ ∃ c ∈ C, z ∈ c.all := by unfold flat; exact List.mem_flatMap
theorem Part.pre {n : Nat} {f : Nat → Nat} {C : List Cy} {i w : Nat} (h : Part n f C i) (hi : ∀ i j, i < n → j < n → f i = f j → i = j) (hw : w < n) (hm : f w ∈ flat C) : w ∈ flat C := by
  obtain ⟨c, hc, hz⟩ := mem_flat.1 hm
  have hok := h.ok c hc
  obtain ⟨u, hu, he⟩ := path_pre hok (z := f w) (by rcases List.mem_cons.1 hz with e | e; exact .inr e; exact .inl e)
  have hu2 : u ∈ flat C := mem_flat.2 ⟨c, hc, hu⟩
  rw [← hi u w (h.lt u hu2) hw he]; exact hu2
structure Run (n : Nat) (f : Nat → Nat) (C : List Cy) (x : Nat) (cyc : List Nat) (cur : Nat) : Prop where
  sh : (cyc = [] ∧ cur = x) ∨ ∃ l, cyc = x :: l ∧ path f x l cur
  nd : cyc.Nodup
  lt : ∀ z ∈ cyc, z < n
  cl : cur < n
  out : ∀ z ∈ cyc, z ∉ flat C
  co : cur ∉ flat C
  nf : ∀ z ∈ cyc, f z ≠ z
theorem Run.start {n : Nat} {f : Nat → Nat} {C : List Cy} {x : Nat} (hx : x < n) (ho : x ∉ flat C) : Run n f C x [] x := ⟨.inl ⟨rfl, rfl⟩, by simp, by simp, hx, by simp, ho, by simp⟩
theorem Run.push {n : Nat} {f : Nat → Nat} {C : List Cy} {i x cur : Nat} {cyc : List Nat} (hP : Part n f C i) (hf : ∀ i, i < n → f i < n) (hi : ∀ i j, i < n → j < n → f i = f j → i = j) (hx : f x ≠ x) (h : Run n f C x cyc cur) (hc : cur ∉ cyc) : Run n f C x (cyc ++ [cur]) (f cur) := by
  have hnf : f cur ≠ cur := by
    rcases h.sh with ⟨rfl, rfl⟩ | ⟨l, rfl, hp⟩
    · exact hx
    · intro e
      obtain ⟨u, hu, he⟩ := path_pre hp (z := cur) (.inr rfl)
      have := hi u cur (h.lt u hu) h.cl (by rw [he, e])
      subst this; exact hc hu
  refine ⟨?_, ?_, ?_, hf _ h.cl, ?_, fun hm => h.co (hP.pre hi h.cl hm), ?_⟩
  · rcases h.sh with ⟨rfl, rfl⟩ | ⟨l, rfl, hp⟩
    · exact .inr ⟨[], rfl, rfl⟩
    · exact .inr ⟨l ++ [cur], by simp, path_app.2 ⟨hp, rfl⟩⟩
  · exact List.nodup_append.2 ⟨h.nd, by simp, fun a ha b hb e => by simp only [List.mem_singleton] at hb; subst hb; subst e; exact hc ha⟩
  all_goals
    intro z hz
    rcases List.mem_append.1 hz with hz | hz
    · first | exact h.lt z hz | exact h.out z hz | exact h.nf z hz
    · simp only [List.mem_singleton] at hz; subst hz; first | exact h.cl | exact h.co | exact hnf
theorem Run.len {n : Nat} {f : Nat → Nat} {C : List Cy} {x cur : Nat} {cyc : List Nat} (h : Run n f C x cyc cur) (hc : cur ∉ cyc) : cyc.length < n := by
  have h1 : (cyc ++ [cur]).Nodup := List.nodup_append.2 ⟨h.nd, by simp, fun a ha b hb e => by simp only [List.mem_singleton] at hb; subst hb; subst e; exact hc ha⟩
  have h2 := nodupN_le (cyc ++ [cur]) n h1 (fun z hz => by
    rcases List.mem_append.1 hz with hz | hz
    · exact h.lt z hz
    · simp only [List.mem_singleton] at hz; subst hz; exact h.cl)
  simp at h2; omega
/-- The run is at its end. -/
theorem Run.close {n : Nat} {f : Nat → Nat} {C : List Cy} {x cur : Nat} {cyc : List Nat} (hP : Part n f C x) (hi : ∀ i j, i < n → j < n → f i = f j → i = j) (h : Run n f C x cyc cur) (hc : cur ∈ cyc) :
    ∃ l, cyc = x :: l ∧ Part n f (C ++ [(x, l)]) (x + 1) := by
  rcases h.sh with ⟨rfl, rfl⟩ | ⟨l, rfl, hp⟩
  · cases hc
  · have hb := path_back hi hp h.nd h.lt
    have e : cur = x := (List.mem_cons.1 hc).resolve_right hb
    subst e
    refine ⟨l, rfl, ?_, ?_, ?_, ?_, ?_⟩
    · intro c hc
      rcases List.mem_append.1 hc with hc | hc
      · exact hP.ok c hc
      · simp only [List.mem_singleton] at hc; subst hc; exact hp
    · rw [flat_app]
      have : flat [(cur, l)] = cur :: l := by simp [flat, Cy.all]
      rw [this]
      exact List.nodup_append.2 ⟨hP.nd, h.nd, fun a ha b hb e => by subst e; exact h.out a hb ha⟩
    · intro z hz
      rw [flat_app] at hz
      rcases List.mem_append.1 hz with hz | hz
      · exact hP.lt z hz
      · exact h.lt z (by simpa [flat, Cy.all] using hz)
    · intro z hz
      rw [flat_app] at hz
      rcases List.mem_append.1 hz with hz | hz
      · exact hP.nf z hz
      · exact h.nf z (by simpa [flat, Cy.all] using hz)
    · intro j hj hne
      rw [flat_app]
      by_cases e : j = cur
      · subst e; exact List.mem_append.2 (.inr (by simp [flat, Cy.all]))
      · exact List.mem_append.2 (.inl (hP.cov j (by omega) hne))
end Go.Proofs.Ytpedfjcidbopiaa.CycT
