import Derived.Test.YtkegbbndmfnolaaGreatDoorMBandSlipsL01
import Derived.Test.YtkegbbndmfnolaaGreatDoorMBandSlipsL00
import Derived.Deep.QuietTactic
import Derived.BigQuiet
import Derived.Deep.Cut
import Derived.Deep.CutRange
/-
  All lists of places of a change, in plain words (no program).
-/
namespace Go.Proofs.YtkegbbndmfnolaaGreatDoor
open Go.RowKit
set_option linter.unusedVariables false
set_option linter.unusedSimpArgs false

/-- All ways to go on where k places are left. -/
def fromR (n : Nat) : Nat → List (List Int)
  | 0 => [[]]
  | 1 => [[(n : Int)]]
  | k + 2 => (fromR n (k + 1)).map (fun r => ((n : Int) - (k + 1)) :: r) ++ fromR n k
theorem fromR_succ (n k : Nat) : fromR n (k + 1) = (fromR n k).map (fun r => ((n : Int) - k) :: r) ++ (if k = 0 then [] else fromR n (k - 1)) := by
  cases k with
  | zero => simp [fromR]
  | succ k => simp [fromR]
theorem fromR_pos (n : Nat) : ∀ k, 0 < (fromR n k).length
  | 0 => by simp [fromR]
  | 1 => by simp [fromR]
  | k + 2 => by have := fromR_pos n k; simp [fromR]; omega
theorem fromR_len (n : Nat) : ∀ k, (fromR n k).length ≤ 2 ^ k
  | 0 => by simp [fromR]
  | 1 => by simp [fromR]
  | k + 2 => by
    have h1 := fromR_len n (k + 1)
    have h2 := fromR_len n k
    simp only [fromR, List.length_append, List.length_map]
    rw [show (2 : Nat) ^ (k + 2) = 2 ^ (k + 1) + 2 ^ (k + 1) by rw [Nat.pow_succ]; omega]
    have : (2 : Nat) ^ k ≤ 2 ^ (k + 1) := Nat.pow_le_pow_right (by omega) (by omega)
    omega
theorem fromR_in (n : Nat) : ∀ k, k ≤ n → ∀ r ∈ fromR n k, r.length ≤ k ∧ ∀ p ∈ r, 1 ≤ p ∧ p ≤ n
  | 0, _ => by simp [fromR]
  | 1, h => by simp [fromR]; omega
  | k + 2, h => by
    intro r hr
    simp only [fromR, List.mem_append, List.mem_map] at hr
    rcases hr with ⟨q, hq, rfl⟩ | hr
    · have := fromR_in n (k + 1) (by omega) q hq
      refine ⟨by simp; omega, fun p hp => ?_⟩
      rcases List.mem_cons.1 hp with rfl | hp
      · omega
      · exact this.2 p hp
    · have := fromR_in n k (by omega) r hr
      exact ⟨by omega, this.2⟩
/-- The last list of places: none, or the last place alone. -/
def lastR (n k : Nat) : List Int := if k % 2 = 0 then [] else [(n : Int)]
theorem fromR_last (n : Nat) : ∀ k, lastR n k ∈ fromR n k
  | 0 => by simp [fromR, lastR]
  | 1 => by simp [fromR, lastR]
  | k + 2 => by
    have := fromR_last n k
    have e : lastR n (k + 2) = lastR n k := by unfold lastR; rw [show (k + 2) % 2 = k % 2 by omega]
    rw [e]; simp only [fromR, List.mem_append]; exact .inr this
/-- The text of some places, each below ten. -/
def plcT (l : List Int) : ByteArray := mkS (l.map fun p => 48 + p)
def ofR (l : List Int) : ByteArray := if l = [] then dash else plcT l
theorem plcT_size (l : List Int) : (plcT l).size = l.length := by unfold plcT; rw [size_mkS]; simp
theorem ofR_nil : ofR [] = dash := if_pos rfl
theorem ofR_some {l : List Int} (h : l ≠ []) : ofR l = plcT l := if_neg h
/-- The last list of places makes a valid change. -/
theorem last_change {n : Nat} (h3 : 3 ≤ n) (h8 : n ≤ 8) : changeP (n : Int) (ofR (lastR n n)) := by
  by_cases e : n % 2 = 0
  · have : lastR n n = [] := by unfold lastR; rw [if_pos e]
    rw [this, ofR_nil]
    exact ⟨⟨by omega, by omega⟩, .inl ⟨rfl, by omega⟩⟩
  · have : lastR n n = [(n : Int)] := by unfold lastR; rw [if_neg e]
    rw [this, ofR_some (by simp)]
    have hs : (plcT [(n : Int)]).size = 1 := plcT_size _
    have hb : bat (plcT [(n : Int)]) ((0 : Nat) : Int) = 48 + (n : Int) := by
      unfold plcT
      rw [bat_mkS _ 0 (by simp) (by simp; omega) (by simp; omega)]; simp
    have hd : dg (plcT [(n : Int)]) 0 = (n : Int) := by unfold dg; rw [hb]; omega
    refine ⟨⟨by omega, by omega⟩, .inr ⟨fun h => ?_, by omega, by omega, fun i hi => ?_, ?_⟩⟩
    · rw [h] at hb
      have : bat dash ((0 : Nat) : Int) = 45 := rfl
      omega
    · obtain rfl : i = 0 := by omega
      unfold stepP
      rw [hd]
      show (0 : Int) < n ∧ (n : Int) ≤ n ∧ ((n : Int) - 0) % 2 ≠ 0
      omega
    · rw [hs]
      show ((n : Int) - dg (plcT [(n : Int)]) 0) % 2 = 0
      rw [hd]; omega
end Go.Proofs.YtkegbbndmfnolaaGreatDoor

/-
  The cycles of a finite bijection, and its points set aside one by one: as many are moved as the cycles' lengths less one: plain.
-/
set_option linter.unusedVariables false
set_option linter.unusedSimpArgs false
namespace Go.Proofs.YtkegbbndmfnolaaGreatDoor.CycT
/-- From x through l to y: each is sent to the next. -/
def path (f : Nat → Nat) : Nat → List Nat → Nat → Prop
  | x, [], y => f x = y
  | x, z :: l, y => f x = z ∧ path f z l y
theorem path_app {f : Nat → Nat} {k : Nat} {v : List Nat} {y : Nat} : ∀ {u : List Nat} {x : Nat}, path f x (u ++ k :: v) y ↔ path f x u k ∧ path f k v y
  | [], x => by simp [path]
  | z :: u, x => by simp only [List.cons_append, path, path_app (u := u), and_assoc]
theorem path_congr {f g : Nat → Nat} : ∀ {l : List Nat} {x y : Nat}, (∀ z, z = x ∨ z ∈ l → f z = g z) → path f x l y → path g x l y
  | [], x, y, h, hp => by simp only [path] at *; rw [← h x (.inl rfl)]; exact hp
  | z :: l, x, y, h, hp => by
    simp only [path] at *
    refine ⟨by rw [← h x (.inl rfl)]; exact hp.1, path_congr (fun t ht => h t (.inr (by rcases ht with rfl | ht <;> simp [*]))) hp.2⟩
/-- The last of a path is sent to its end. -/
theorem path_last {f g : Nat → Nat} {k y : Nat} : ∀ {l : List Nat} {x : Nat}, (x :: l).Nodup → (∀ z, z ∈ x :: l → f z ≠ k → g z = f z) → (∀ z, z ∈ x :: l → f z = k → g z = y) → k ∉ l → path f x l k → path g x l y
  | [], x, _, h1, h2, _, hp => by simp only [path] at *; exact h2 x (by simp) hp
  | z :: l, x, hn, h1, h2, hk, hp => by
    simp only [path] at *
    have hz : z ≠ k := fun e => hk (by simp [e])
    have hx : f x ≠ k := by rw [hp.1]; exact hz
    refine ⟨by rw [h1 x (by simp) hx]; exact hp.1, path_last (List.nodup_cons.1 hn).2 (fun t ht => h1 t (List.mem_cons_of_mem _ ht)) (fun t ht => h2 t (List.mem_cons_of_mem _ ht)) (fun e => hk (List.mem_cons_of_mem _ e)) hp.2⟩
/-- A cycle: a point and what follows. -/
abbrev Cy := Nat × List Nat
def Cy.all (c : Cy) : List Nat := c.1 :: c.2
def Cy.ok (f : Nat → Nat) (c : Cy) : Prop := path f c.1 c.2 c.1
def flat (C : List Cy) : List Nat := C.flatMap Cy.all
def excess : List Cy → Nat
  | [] => 0
  | c :: C => c.2.length + excess C
structure Dec (n : Nat) (f : Nat → Nat) (C : List Cy) : Prop where
  ok : ∀ c ∈ C, c.ok f
  nd : (flat C).Nodup
  cov : ∀ i, i < n → f i ≠ i → i ∈ flat C
/-- One point set aside: what is sent to it is sent on. -/
def aside (f : Nat → Nat) (k : Nat) : Nat → Nat := fun i => if i = k then k else if f i = k then f k else f i
theorem excess_app (A B : List Cy) : excess (A ++ B) = excess A + excess B := by
  induction A with
  | nil => simp [excess]
  | cons c A ih => simp [excess, ih, Nat.add_assoc]
theorem flat_app (A B : List Cy) : flat (A ++ B) = flat A ++ flat B := by simp [flat]
theorem flat_cons (c : Cy) (B : List Cy) : flat (c :: B) = c.all ++ flat B := by simp [flat]
theorem Dec.aside {n : Nat} {f : Nat → Nat} {C : List Cy} (h : Dec n f C) (hf : ∀ i, i < n → f i < n) (hi : ∀ i j, i < n → j < n → f i = f j → i = j) (hb : ∀ x ∈ flat C, x < n) {k : Nat} (hk : k < n) (hne : f k ≠ k) :
    ∃ C', Dec n (aside f k) C' ∧ excess C = excess C' + 1 ∧ ∀ x ∈ flat C', x < n := by
  have hm := h.cov k hk hne
  obtain ⟨c, hc, hkc⟩ : ∃ c ∈ C, k ∈ c.all := by simpa [flat] using hm
  obtain ⟨A, B, rfl⟩ := List.append_of_mem hc
  -- rotated so that k stands first
  obtain ⟨l, hl, hlen, hperm⟩ : ∃ l, path f k l k ∧ l.length = c.2.length ∧ (k :: l).Perm c.all := by
    obtain ⟨x, m⟩ := c
    have ho := h.ok _ hc
    rcases List.mem_cons.1 hkc with e | e
    · simp only at e; subst e; exact ⟨m, ho, rfl, List.Perm.refl _⟩
    · simp only at e
      obtain ⟨u, v, rfl⟩ := List.append_of_mem e
      have hp := path_app.1 ho
      refine ⟨v ++ x :: u, path_app.2 ⟨hp.2, hp.1⟩, by simp; omega, ?_⟩
      show (k :: (v ++ x :: u)).Perm (x :: (u ++ k :: v))
      have e1 : (k :: v ++ x :: u).Perm (x :: u ++ k :: v) := List.perm_append_comm
      simpa using e1
  have hnd := h.nd
  rw [flat_app, flat_cons] at hnd
  have hnd2 : (flat A ++ ((k :: l) ++ flat B)).Nodup := (((hperm.append_right (flat B)).append_left (flat A)).nodup_iff).2 hnd
  cases l with
  | nil => exact absurd hl hne
  | cons x l =>
    have hpx : path f x l k := hl.2
    have hkx : f k = x := hl.1
    have hmid := (List.nodup_append.1 hnd2)
    have hmid2 := List.nodup_append.1 hmid.2.1
    have hkn : k ∉ x :: l := (List.nodup_cons.1 hmid2.1).1
    have hxl : (x :: l).Nodup := (List.nodup_cons.1 hmid2.1).2
    have hbx : ∀ z ∈ k :: x :: l, z < n := fun z hz => hb z (by rw [flat_app, flat_cons]; simp only [List.mem_append]; exact .inr (.inl (hperm.subset hz)))
    have hsub : ∀ z, z ∈ flat (A ++ (x, l) :: B) → z ∈ flat (A ++ c :: B) := by
      intro z hz
      rw [flat_app, flat_cons, List.mem_append, List.mem_append] at hz ⊢
      rcases hz with hz | hz | hz
      · exact .inl hz
      · exact .inr (.inl (hperm.subset (List.mem_cons_of_mem _ hz)))
      · exact .inr (.inr hz)
    -- the point that is sent to k lies in the cycle
    have hpre : ∀ z, z < n → f z = k → z ∈ x :: l := by
      intro z hz e
      -- the last of the path
      have : ∀ {l : List Nat} {x : Nat}, path f x l k → ∃ t ∈ x :: l, f t = k := by
        intro l
        induction l with
        | nil => intro x hp; exact ⟨x, by simp, hp⟩
        | cons y l ih =>
          intro x hp
          obtain ⟨t, ht, he⟩ := ih hp.2
          exact ⟨t, List.mem_cons_of_mem _ ht, he⟩
      obtain ⟨t, ht, he⟩ := this hpx
      have := hi t z (hbx t (List.mem_cons_of_mem _ ht)) hz (by rw [he, e])
      rw [← this]; exact ht
    refine ⟨A ++ (x, l) :: B, ⟨?_, ?_, ?_⟩, ?_, ?_⟩
    · intro c' hc'
      have other : ∀ c' ∈ A ++ B, c'.ok (CycT.aside f k) := by
        intro c' hc'
        have hok : c'.ok f := h.ok c' (by rcases List.mem_append.1 hc' with h1 | h1 <;> simp [h1])
        refine path_congr (fun z hz => ?_) hok
        have hz' : z ∈ c'.all := by rcases hz with rfl | hz; exact List.mem_cons_self; exact List.mem_cons_of_mem _ hz
        have hzf : z ∈ flat A ∨ z ∈ flat B := by
          rcases List.mem_append.1 hc' with h1 | h1
          · exact .inl (List.mem_flatMap.2 ⟨c', h1, hz'⟩)
          · exact .inr (List.mem_flatMap.2 ⟨c', h1, hz'⟩)
        have hnin : z ∉ k :: x :: l := by
          intro e
          rcases hzf with h1 | h1
          · exact hmid.2.2 z h1 z (List.mem_append.2 (.inl e)) rfl
          · exact hmid2.2.2 z e z h1 rfl
        have hzn : z < n := hb z (by rw [flat_app, flat_cons]; rcases hzf with h1 | h1 <;> simp [h1])
        unfold CycT.aside
        rw [if_neg (fun e => hnin (by simp [e])), if_neg (fun e => hnin (List.mem_cons_of_mem _ (hpre z hzn e)))]
      rcases List.mem_append.1 hc' with h1 | h1
      · exact other c' (List.mem_append.2 (.inl h1))
      · rcases List.mem_cons.1 h1 with rfl | h1
        · refine path_last hxl (fun z hz hzk => ?_) (fun z hz hzk => ?_) (fun e => hkn (List.mem_cons_of_mem _ e)) hpx
          · unfold CycT.aside; rw [if_neg (fun e => hkn (by rw [← e]; exact hz)), if_neg hzk]
          · unfold CycT.aside; rw [if_neg (fun e => hkn (by rw [← e]; exact hz)), if_pos hzk]; exact hkx
        · exact other c' (List.mem_append.2 (.inr h1))
    · rw [flat_app, flat_cons]
      refine hnd2.sublist ?_
      exact List.Sublist.append (List.Sublist.refl _) (List.Sublist.append (List.sublist_cons_self _ _) (List.Sublist.refl _))
    · intro i hin hne'
      unfold CycT.aside at hne'
      have hik : i ≠ k := fun e => by rw [if_pos e] at hne'; exact hne' e.symm
      rw [if_neg hik] at hne'
      have hfi : f i ≠ i := by
        intro e
        rw [if_neg (by rw [e]; exact hik)] at hne'
        exact hne' e
      have hmi := h.cov i hin hfi
      rw [flat_app, flat_cons, List.mem_append, List.mem_append] at hmi ⊢
      rcases hmi with h1 | h1 | h1
      · exact .inl h1
      · have := hperm.symm.subset h1
        rcases List.mem_cons.1 this with e | e
        · exact absurd e hik
        · exact .inr (.inl e)
      · exact .inr (.inr h1)
    · rw [excess_app, excess_app]
      simp only [excess]
      have : c.2.length = l.length + 1 := by rw [← hlen]; rfl
      omega
    · intro z hz; exact hb z (hsub z hz)
/-- How many points are not at home when their turn comes, from k on. -/
def moved (n : Nat) : Nat → Nat → (Nat → Nat) → Nat
  | 0, _, _ => 0
  | m + 1, k, f => if f k = k then moved n m (k + 1) f else moved n m (k + 1) (aside f k) + 1
theorem aside_lt {n k : Nat} {f : Nat → Nat} (hf : ∀ i, i < n → f i < n) (hk : k < n) : ∀ i, i < n → aside f k i < n := by
  intro i hi; unfold aside; split
  · exact hk
  · split
    · exact hf k hk
    · exact hf i hi
theorem aside_inj {n k : Nat} {f : Nat → Nat} (hf : ∀ i, i < n → f i < n) (hi : ∀ i j, i < n → j < n → f i = f j → i = j) (hk : k < n) (hne : f k ≠ k) : ∀ i j, i < n → j < n → aside f k i = aside f k j → i = j := by
  intro i j h1 h2 e
  unfold aside at e
  by_cases a : i = k <;> by_cases b : j = k
  · rw [a, b]
  · rw [if_pos a, if_neg b] at e
    split at e
    · exact absurd e.symm hne
    · rename_i h; exact absurd e.symm h
  · rw [if_neg a, if_pos b] at e
    split at e
    · exact absurd e hne
    · rename_i h; exact absurd e h
  · rw [if_neg a, if_neg b] at e
    by_cases c : f i = k <;> by_cases d : f j = k
    · exact hi i j h1 h2 (by rw [c, d])
    · rw [if_pos c, if_neg d] at e; exact absurd (hi k j hk h2 e) (fun x => b x.symm)
    · rw [if_neg c, if_pos d] at e; exact absurd (hi i k h1 hk e) a
    · rw [if_neg c, if_neg d] at e; exact hi i j h1 h2 e
theorem Dec.moved {n : Nat} : ∀ (m k : Nat) (f : Nat → Nat) (C : List Cy), k + m = n → Dec n f C → (∀ i, i < n → f i < n) → (∀ i j, i < n → j < n → f i = f j → i = j) → (∀ x ∈ flat C, x < n) → (∀ i, i < k → f i = i) → moved n m k f = excess C
  | 0, k, f, C, hkm, h, hf, hi, hb, h0 => by
    have hk : k = n := by omega
    subst hk
    have : ∀ D : List Cy, (∀ c ∈ D, c.ok f) → (flat D).Nodup → (∀ x ∈ flat D, x < k) → excess D = 0 := by
      intro D
      induction D with
      | nil => intros; rfl
      | cons c D ih =>
        intro ok nd bd
        rw [flat_cons] at nd bd
        have := ih (fun c' hc' => ok c' (List.mem_cons_of_mem _ hc')) (List.nodup_append.1 nd).2.1 (fun x hx => bd x (by simp [hx]))
        simp only [excess]
        obtain ⟨x, l⟩ := c
        cases l with
        | nil => simpa using this
        | cons y l =>
          have hp := ok _ List.mem_cons_self
          have hxy : f x = y := hp.1
          rw [h0 x (bd x (by simp [Cy.all]))] at hxy
          have hn := (List.nodup_append.1 nd).1
          have := (List.nodup_cons.1 hn).1
          exact absurd (by rw [hxy]; simp) this
    rw [this C h.ok h.nd hb]; rfl
  | m + 1, k, f, C, hkm, h, hf, hi, hb, h0 => by
    simp only [CycT.moved]
    split
    · rename_i e
      exact Dec.moved m (k + 1) f C (by omega) h hf hi hb (fun i hi => by rcases Nat.lt_or_eq_of_le (Nat.le_of_lt_succ hi) with x | rfl; exact h0 i x; exact e)
    · rename_i e
      obtain ⟨C', hd, hex, hb'⟩ := h.aside hf hi hb (show k < n by omega) e
      rw [hex, Dec.moved m (k + 1) (CycT.aside f k) C' (by omega) hd (aside_lt hf (by omega)) (aside_inj hf hi (by omega) e) hb' (fun i hik => ?_)]
      unfold CycT.aside
      split
      · rename_i x; exact x.symm
      · rename_i x
        have hfi := h0 i (by omega)
        rw [if_neg (by rw [hfi]; exact x)]
        exact hfi
end Go.Proofs.YtkegbbndmfnolaaGreatDoor.CycT

/-
  A cycle that is run through from a point that is not yet in the list of cycles: plain.
-/
set_option linter.unusedVariables false
set_option linter.unusedSimpArgs false
namespace Go.Proofs.YtkegbbndmfnolaaGreatDoor.CycT
theorem path_pre {f : Nat → Nat} {y z : Nat} : ∀ {l : List Nat} {x : Nat}, path f x l y → (z ∈ l ∨ z = y) → ∃ u, u ∈ x :: l ∧ f u = z
  | [], x, hp, h => by
    rcases h with h | rfl
    · cases h
    · exact ⟨x, List.mem_cons_self, hp⟩
  | t :: l, x, hp, h => by
    by_cases e : z = t
    · exact ⟨x, List.mem_cons_self, by rw [hp.1, e]⟩
    · obtain ⟨u, hu, he⟩ := path_pre hp.2 (by rcases h with h | h; exact .inl ((List.mem_cons.1 h).resolve_left e); exact .inr h)
      exact ⟨u, List.mem_cons_of_mem _ hu, he⟩
theorem nodupN_le : ∀ (l : List Nat) (n : Nat), l.Nodup → (∀ x ∈ l, x < n) → l.length ≤ n
  | l, 0, _, h => by
    cases l with
    | nil => simp
    | cons x l => have := h x (by simp); omega
  | l, n + 1, hn, h => by
    have h1 := nodupN_le (l.erase n) n (hn.erase n) (fun x hx => by
      have := (hn.mem_erase_iff).1 hx
      have := h x this.2; omega)
    have := List.length_erase (a := n) (l := l)
    split at this <;> omega
/-- Cycles that cover the points ahead of i. -/
structure Part (n : Nat) (f : Nat → Nat) (C : List Cy) (i : Nat) : Prop where
  ok : ∀ c ∈ C, c.ok f
  nd : (flat C).Nodup
  lt : ∀ z ∈ flat C, z < n
  nf : ∀ z ∈ flat C, f z ≠ z
  cov : ∀ j, j < i → f j ≠ j → j ∈ flat C
theorem Part.start (n : Nat) (f : Nat → Nat) : Part n f [] 0 := ⟨by simp, by simp [flat], by simp [flat], by simp [flat], fun j hj => absurd hj (by omega)⟩
theorem Part.skip {n : Nat} {f : Nat → Nat} {C : List Cy} {i : Nat} (h : Part n f C i) (hs : i ∈ flat C ∨ f i = i) : Part n f C (i + 1) :=
  ⟨h.ok, h.nd, h.lt, h.nf, fun j hj hne => by
    by_cases e : j = i
    · subst e; exact hs.resolve_right hne
    · exact h.cov j (by omega) hne⟩
theorem mem_flat {C : List Cy} {z : Nat} : z ∈ flat C ↔ ∃ c ∈ C, z ∈ c.all := by unfold flat; exact List.mem_flatMap
theorem Part.pre {n : Nat} {f : Nat → Nat} {C : List Cy} {i w : Nat} (h : Part n f C i) (hi : ∀ i j, i < n → j < n → f i = f j → i = j) (hw : w < n) (hm : f w ∈ flat C) : w ∈ flat C := by
  obtain ⟨c, hc, hz⟩ := mem_flat.1 hm
  have hok := h.ok c hc
  obtain ⟨u, hu, he⟩ := path_pre hok (z := f w) (by rcases List.mem_cons.1 hz with e | e; exact .inr e; exact .inl e)
  have hu2 : u ∈ flat C := mem_flat.2 ⟨c, hc, hu⟩
  rw [← hi u w (h.lt u hu2) hw he]; exact hu2
structure Run (n : Nat) (f : Nat → Nat) (C : List Cy) (x : Nat) (cyc : List Nat) (cur : Nat) : Prop where
  sh : (cyc = [] ∧ cur = x) ∨ ∃ l, cyc = x :: l ∧ path f x l cur
  nd : cyc.Nodup
  lt : ∀ z ∈ cyc, z < n
  cl : cur < n
  out : ∀ z ∈ cyc, z ∉ flat C
  co : cur ∉ flat C
  nf : ∀ z ∈ cyc, f z ≠ z
theorem Run.start {n : Nat} {f : Nat → Nat} {C : List Cy} {x : Nat} (hx : x < n) (ho : x ∉ flat C) : Run n f C x [] x := ⟨.inl ⟨rfl, rfl⟩, by simp, by simp, hx, by simp, ho, by simp⟩
theorem Run.len {n : Nat} {f : Nat → Nat} {C : List Cy} {x cur : Nat} {cyc : List Nat} (h : Run n f C x cyc cur) (hc : cur ∉ cyc) : cyc.length < n := by
  have h1 : (cyc ++ [cur]).Nodup := List.nodup_append.2 ⟨h.nd, by simp, fun a ha b hb e => by simp only [List.mem_singleton] at hb; subst hb; subst e; exact hc ha⟩
  have h2 := nodupN_le (cyc ++ [cur]) n h1 (fun z hz => by
    rcases List.mem_append.1 hz with hz | hz
    · exact h.lt z hz
    · simp only [List.mem_singleton] at hz; subst hz; exact h.cl)
  simp at h2; omega
end Go.Proofs.YtkegbbndmfnolaaGreatDoor.CycT

/-
  A region that draws its order, whose operations only read and whose callees only make new memory: one walk in the order of the text.
-/
namespace Go.Proofs.YtkegbbndmfnolaaGreatDoor
open Go.RowKit
set_option linter.unusedVariables false
set_option linter.unusedSimpArgs false

/-- A world in which, below the heap's size of w, all is as in w. -/
structure Later (w : World) where
  W : World
  hb : Below w.heap.size w W
instance (w : World) : Inhabited (Later w) := ⟨⟨w, Below.refl _ _⟩⟩
theorem Later.call {P : Program} {f : FuncId} {args : Array Value} {w : World} {x : Later w} {v : Value} (h : Calls P f args x.W fun e w' => e = .returned v ∧ Below x.W.heap.size x.W w') :
    Calls P f args x.W fun e w'' => e = .returned v ∧ ∃ y : Later w, w'' = y.W :=
  h.mono fun _ w' ⟨he, hb⟩ => ⟨he, ⟨w', x.hb.trans (hb.mono x.hb.size)⟩, rfl⟩
theorem Later.same {P : Program} {f : FuncId} {args : Array Value} {w : World} {x : Later w} {v : Value} (h : Calls P f args x.W fun e w' => e = .returned v ∧ x.W = w') :
    Calls P f args x.W fun e w'' => e = .returned v ∧ ∃ y : Later w, w'' = y.W :=
  h.mono fun _ w' ⟨he, hb⟩ => ⟨he, x, hb.symm⟩
theorem calls_bool {P : Program} {f : FuncId} {args : Array Value} {w : World} {b b' : Bool} {R : World → Prop} (h : Calls P f args w fun e w' => e = .returned (.bool b) ∧ R w') (e : b = b') : Calls P f args w fun e w' => e = .returned (.bool b') ∧ R w' := by
  subst e; exact h
theorem Later.drew {P : Program} {f : FuncId} {args : Array Value} {w : World} {x : Later w} {v : Value} (h : Calls P f args x.W fun e w' => e = .returned v ∧ ∃ n, w' = x.W.drewN n) :
    Calls P f args x.W fun e w'' => e = .returned v ∧ ∃ y : Later w, w'' = y.W :=
  h.mono fun _ w' ⟨he, n, hb⟩ => ⟨he, ⟨w', by rw [hb]; exact below_drewN x.hb n⟩, rfl⟩
end Go.Proofs.YtkegbbndmfnolaaGreatDoor

/-
  The reader of choices: contracts of the functions by which the reference draws its inputs.
-/
namespace Go.Proofs.YtkegbbndmfnolaaGreatDoor
open Go.RowKit
set_option linter.unusedVariables false
set_option linter.unusedSimpArgs false
set_option maxRecDepth 100000

/-- A reader lies in block g: it has gone on at most K times. -/
structure CurAt (w : World) (g : Nat) (A : Option Addr) (n c : Nat) (at_ : Nat) (sd : Int) : Prop where
  lt : g < w.heap.size
  c0 : w.cell? ⟨g, 0, none⟩ = some (.slice A n c)
  c1 : w.cell? ⟨g, 1, none⟩ = some (.int .i64 (at_ : Int))
  c2 : w.cell? ⟨g, 2, none⟩ = some (.int .u64 sd)
  f1 : w.frozen? ⟨g, 1, none⟩ = false
  f2 : w.frozen? ⟨g, 2, none⟩ = false
  lo : 0 ≤ sd
  hi : sd < 18446744073709551616
  by_ : ∀ i : Nat, i < n → ∃ ga off v, A = some ⟨ga, off, none⟩ ∧ ga ≠ g ∧ ga < g ∧ w.cell? ⟨ga, off + i, none⟩ = some (.int .u8 v) ∧ 0 ≤ v ∧ v < 256
  nn : n ≤ 9223372036854775807
def Cur (w : World) (g K : Nat) : Prop := ∃ A n c at_ sd, CurAt w g A n c at_ sd ∧ at_ ≤ K
theorem Cur.lt {w : World} {g K : Nat} (h : Cur w g K) : g < w.heap.size := by obtain ⟨_, _, _, _, _, h, _⟩ := h; exact h.lt
theorem Cur.more {w : World} {g K K' : Nat} (h : Cur w g K) (hk : K ≤ K') : Cur w g K' := by obtain ⟨A, n, c, a, s, h, h2⟩ := h; exact ⟨A, n, c, a, s, h, Nat.le_trans h2 hk⟩
theorem Cur.later {w w' : World} {g K : Nat} (h : Cur w g K) (hb : Below w.heap.size w w') : Cur w' g K := by
  obtain ⟨A, n, c, a, s, h, h2⟩ := h
  exact ⟨A, n, c, a, s, ⟨Nat.lt_of_lt_of_le h.lt hb.size, (hb.cell (p := ⟨g, 0, none⟩) h.lt).trans h.c0, (hb.cell (p := ⟨g, 1, none⟩) h.lt).trans h.c1, (hb.cell (p := ⟨g, 2, none⟩) h.lt).trans h.c2, (hb.frozen (p := ⟨g, 1, none⟩) h.lt).trans h.f1, (hb.frozen (p := ⟨g, 2, none⟩) h.lt).trans h.f2, h.lo, h.hi,
    fun i hi => by obtain ⟨ga, off, v, h1, h3, h4, h5, h6⟩ := h.by_ i hi; exact ⟨ga, off, v, h1, h3, h4, (hb.cell (p := ⟨ga, off + i, none⟩) (Nat.lt_trans h4 h.lt)).trans h5, h6⟩, h.nn⟩, h2⟩
theorem Cur.keep {w w' : World} {g K b : Nat} (h : Cur w g K) (hb : Below b w w') (hg : g < b) : Cur w' g K := by
  obtain ⟨A, n, c, a, s, h, h2⟩ := h
  exact ⟨A, n, c, a, s, ⟨Nat.lt_of_lt_of_le h.lt hb.size, (hb.cell (p := ⟨g, 0, none⟩) hg).trans h.c0, (hb.cell (p := ⟨g, 1, none⟩) hg).trans h.c1, (hb.cell (p := ⟨g, 2, none⟩) hg).trans h.c2, (hb.frozen (p := ⟨g, 1, none⟩) hg).trans h.f1, (hb.frozen (p := ⟨g, 2, none⟩) hg).trans h.f2, h.lo, h.hi,
    fun i hi => by obtain ⟨ga, off, v, h1, h3, h4, h5, h6⟩ := h.by_ i hi; exact ⟨ga, off, v, h1, h3, h4, (hb.cell (p := ⟨ga, off + i, none⟩) (Nat.lt_trans h4 hg)).trans h5, h6⟩, h.nn⟩, h2⟩
/-- Only block g has turned; what is new is new. -/
abbrev Turn (g : Nat) (w w' : World) : Prop := Chg g (g + 1) w w'
theorem Turn.trans {g : Nat} {a b c : World} (h : Turn g a b) (k : Turn g b c) : Turn g a c :=
  ⟨k.os.trans h.os, k.tape.trans h.tape, k.output.trans h.output, Nat.le_trans h.size k.size, fun i hi hr => (k.block i (Nat.lt_of_lt_of_le hi h.size) hr).trans (h.block i hi hr)⟩
theorem Turn.of {g : Nat} {a b : World} (k : Below a.heap.size a b) : Turn g a b := ⟨k.os, k.tape, k.output, k.size, fun i hi _ => k.block i hi⟩
theorem Turn.then {g : Nat} {a b c : World} (h : Turn g a b) (k : Below b.heap.size b c) : Turn g a c := h.trans (Turn.of k)
theorem Turn.cell {g : Nat} {a b : World} {p : Addr} (h : Turn g a b) (hp : p.block < a.heap.size) (hg : p.block ≠ g) : b.cell? p = a.cell? p := World.cell?_of_block (a := p) (h.block p.block hp (by omega))
theorem wrap_u64 (x : Int) : 0 ≤ IntKind.u64.wrap x ∧ IntKind.u64.wrap x < 18446744073709551616 := by
  unfold IntKind.wrap
  simp only [IntKind.signed, IntKind.bits]
  constructor <;> (try simp) <;> omega
theorem and255 (x : Int) : 0 ≤ wrap64 (bits .and .u64 x 255) ∧ wrap64 (bits .and .u64 x 255) < 256 := by
  have h : ∃ m : Nat, m < 256 ∧ bits .and .u64 x 255 = (m : Int) := by
    refine ⟨(BitVec.ofInt 64 x &&& BitVec.ofInt 64 255).toNat, ?_, ?_⟩
    · rw [BitVec.toNat_and]
      have : (BitVec.ofInt 64 255).toNat = 255 := by decide
      rw [this]
      exact Nat.lt_of_le_of_lt Nat.and_le_right (by omega)
    · show IntKind.u64.wrap ((BitVec.ofInt 64 x &&& BitVec.ofInt 64 255).toNat : Int) = _
      have hlt := (BitVec.ofInt 64 x &&& BitVec.ofInt 64 255).isLt
      generalize (BitVec.ofInt 64 x &&& BitVec.ofInt 64 255).toNat = m at hlt ⊢
      unfold IntKind.wrap
      simp only [IntKind.signed, IntKind.bits]
      simp
      omega
  obtain ⟨m, hm, e⟩ := h
  rw [e]
  unfold wrap64
  omega
theorem CurAt.moved {w : World} {g : Nat} {A : Option Addr} {n c at_ K : Nat} {sd : Int} (h : CurAt w g A n c at_ sd) (s' : Int) (hs : 0 ≤ s' ∧ s' < 18446744073709551616) (hK : at_ ≤ K) (i j : Nat) :
    Cur ((((w.drewN i).setCell ⟨g, 1, none⟩ (.int .i64 ((at_ : Int) + 1))).setCell ⟨g, 2, none⟩ (.int .u64 s')).drewN j) g (K + 1) ∧ Turn g w ((((w.drewN i).setCell ⟨g, 1, none⟩ (.int .i64 ((at_ : Int) + 1))).setCell ⟨g, 2, none⟩ (.int .u64 s')).drewN j) := by
  have hT : Turn g w (((w.setCell ⟨g, 1, none⟩ (.int .i64 ((at_ : Int) + 1))).setCell ⟨g, 2, none⟩ (.int .u64 s'))) := ((Chg.refl _ _ w).setCell (p := ⟨g, 1, none⟩) (Nat.le_refl _) (Nat.lt_succ_self _) _).setCell (p := ⟨g, 2, none⟩) (Nat.le_refl _) (Nat.lt_succ_self _) _
  refine ⟨?_, ⟨hT.os, hT.tape, hT.output, hT.size, hT.block⟩⟩
  refine ⟨A, n, c, at_ + 1, s', ⟨?_, ?_, ?_, ?_, ?_, ?_, hs.1, hs.2, fun k hk => ?_, h.nn⟩, by omega⟩
  · exact Nat.lt_of_lt_of_le h.lt hT.size
  · show (((w.setCell ⟨g, 1, none⟩ (.int .i64 ((at_ : Int) + 1))).setCell ⟨g, 2, none⟩ (.int .u64 s'))).cell? ⟨g, 0, none⟩ = _
    rw [World.cell?_setCell_other _ _ _ _ (fun e => by injection e with _ e; omega), World.cell?_setCell_other _ _ _ _ (fun e => by injection e with _ e; omega)]; exact h.c0
  · show (((w.setCell ⟨g, 1, none⟩ (.int .i64 ((at_ : Int) + 1))).setCell ⟨g, 2, none⟩ (.int .u64 s'))).cell? ⟨g, 1, none⟩ = _
    rw [World.cell?_setCell_other _ _ _ _ (fun e => by injection e with _ e; omega), World.cell?_setCell_same _ _ _ h.c1]; rfl
  · show (((w.setCell ⟨g, 1, none⟩ (.int .i64 ((at_ : Int) + 1))).setCell ⟨g, 2, none⟩ (.int .u64 s'))).cell? ⟨g, 2, none⟩ = _
    exact World.cell?_setCell_same _ _ _ ((World.cell?_setCell_other w ⟨g, 1, none⟩ ⟨g, 2, none⟩ _ (fun e => by injection e with _ e; omega)).trans h.c2)
  · show (((w.setCell ⟨g, 1, none⟩ (.int .i64 ((at_ : Int) + 1))).setCell ⟨g, 2, none⟩ (.int .u64 s'))).frozen? ⟨g, 1, none⟩ = _
    rw [World.frozen?_setCell, World.frozen?_setCell]; exact h.f1
  · show (((w.setCell ⟨g, 1, none⟩ (.int .i64 ((at_ : Int) + 1))).setCell ⟨g, 2, none⟩ (.int .u64 s'))).frozen? ⟨g, 2, none⟩ = _
    rw [World.frozen?_setCell, World.frozen?_setCell]; exact h.f2
  · obtain ⟨ga, off, v, h1, h3, h4, h5, h6⟩ := h.by_ k hk
    exact ⟨ga, off, v, h1, h3, h4, (hT.cell (p := ⟨ga, off + k, none⟩) (Nat.lt_trans h4 h.lt) h3).trans h5, h6⟩
set_option maxHeartbeats 1600000 in
theorem next_any (g K : Nat) (w : World) (h : Cur w g K) (hK : K ≤ 1000000000) :
    Calls Tryz.prog 108 #[.pointer (some ⟨g, 0, none⟩)] w fun e w' => ∃ x, e = .returned (.int .i64 x) ∧ 0 ≤ x ∧ x < 256 ∧ Cur w' g (K + 1) ∧ Turn g w w' := by
  obtain ⟨A, n, c, a, sd, h, hak⟩ := h
  have hH := Lib.hid h
  have c0 := h.c0
  have c1 := h.c1
  have c2 := h.c2
  have f1 := h.f1
  have f2 := h.f2
  have hnn := h.nn
  obtain ⟨gl, glo, ghi⟩ := And.intro h.lt (And.intro h.lo h.hi)
  by_cases ha : a < n
  · obtain ⟨ga, off, v, hA, hne, hlt, hv, hv1, hv2⟩ := h.by_ a ha
    subst hA
    clear h
    have d1 : decide ((a : Int) < (n : Int)) = true := by simp; omega
    have d2 : decide ((a : Int) + 1 ≤ (n : Int)) = true := by simp; omega
    go_enter Tryz.func108, Tryz.ntmps108
    go_wp2
    go_quiet (fail)
    go_wp2
    go_quiet (fail)
    go_wp2
    go_quiet (fail)
    go_wp2
    go_ret
    have hm := hH.out.moved (IntKind.u64.wrap (IntKind.u64.wrap (IntKind.u64.wrap (sd * 6364136223846793005) + v) + 1442695040888963407)) (wrap_u64 _) hak
    exact ⟨v, rfl, hv1, hv2, (hm _ _).1, (hm _ _).2⟩
  · clear h
    have d1 : decide ((a : Int) < (n : Int)) = false := by simp; omega
    have d2 : decide ((a : Int) + 1 ≤ (n : Int)) = false := by simp; omega
    go_enter Tryz.func108, Tryz.ntmps108
    go_wp2
    go_quiet (fail)
    go_wp2
    go_quiet (fail)
    go_wp2
    go_ret
    have hm := hH.out.moved (IntKind.u64.wrap (IntKind.u64.wrap (IntKind.u64.wrap (sd * 6364136223846793005)) + 1442695040888963407)) (wrap_u64 _) hak
    have hb := and255 (IntKind.u64.wrap (IntKind.u64.wrap (IntKind.u64.wrap (sd * 6364136223846793005)) + 1442695040888963407) / 1099511627776)
    exact ⟨_, rfl, hb.1, hb.2, (hm _ _).1, (hm _ _).2⟩
theorem tmod_in {x n : Int} (h0 : 0 ≤ x) (hn : 1 < n) : 0 ≤ x % n ∧ x % n < n :=
  ⟨Int.emod_nonneg _ (by omega), Int.emod_lt_of_pos _ (by omega)⟩
set_option maxHeartbeats 1600000 in
theorem pick_any (g K : Nat) (n : Int) (w : World) (h : Cur w g K) (hK : K ≤ 100000000) (hn : n ≤ 1000000) :
    Calls Tryz.prog 53 #[.pointer (some ⟨g, 0, none⟩), .int .i64 n] w fun e w' => ∃ x, e = .returned (.int .i64 x) ∧ 0 ≤ x ∧ (x < n ∨ x = 0) ∧ Cur w' g (K + 2) ∧ Turn g w w' := by
  have H := Lib.hid h
  clear h
  by_cases h1 : n ≤ 1
  · have d1 : decide (n ≤ 1) = true := decide_eq_true h1
    go_enter Tryz.func53, Tryz.ntmps53
    go_wp2
    go_ret
    exact ⟨0, rfl, by omega, .inr rfl, H.out.more (by omega), Chg.refl _ _ _⟩
  · have d1 : decide (n ≤ 1) = false := decide_eq_false h1
    have hn1 : 1 < n := by omega
    have hn0 : n ≠ 0 := by omega
    by_cases h2 : 200 < n
    · have d2 : decide (200 < n) = true := decide_eq_true h2
      go_enter Tryz.func53, Tryz.ntmps53
      go_upto_region 5 with (go_at_call 108; refine (next_any g K _ H.out (by omega)).mono ?_; rintro e w1 ⟨x, rfl, hx0, hx1, hc, ht⟩; have HC := Lib.hid hc; have HT := Lib.hid ht; clear hc ht)
      go_wp2_with (go_at_call 108; refine (next_any g (K + 1) _ HC.out (by omega)).mono ?_; rintro e w2 ⟨y, rfl, hy0, hy1, hc, ht⟩; have HC2 := Lib.hid hc; have HT2 := Lib.hid ht; clear hc ht)
      go_ret
      have := tmod_in (x := x * 256 + y) (by omega) hn1
      exact ⟨_, rfl, this.1, .inl this.2, HC2.out, HT.out.trans HT2.out⟩
    · have d2 : decide (200 < n) = false := decide_eq_false h2
      go_enter Tryz.func53, Tryz.ntmps53
      go_wp2_with (go_at_call 108; refine (next_any g K _ H.out (by omega)).mono ?_; rintro e w1 ⟨x, rfl, hx0, hx1, hc, ht⟩; have HC := Lib.hid hc; have HT := Lib.hid ht; clear hc ht)
      go_ret
      have := tmod_in (x := x) hx0 hn1
      exact ⟨_, rfl, this.1, .inl this.2, HC.out.more (by omega), HT.out⟩
theorem one_any (g K : Nat) (n : Int) (w : World) (h : Cur w g K) (hK : K ≤ 100000000) (hn : n ≤ 1000000) :
    Calls Tryz.prog 55 #[.pointer (some ⟨g, 0, none⟩), .int .i64 n] w fun e w' => ∃ b, e = .returned (.bool b) ∧ Cur w' g (K + 2) ∧ Turn g w w' := by
  have H := Lib.hid h
  clear h
  go_enter Tryz.func55, Tryz.ntmps55
  go_wp2_with (go_at_call 53; refine (pick_any g K n _ H.out (by omega) (by omega)).mono ?_; rintro e w1 ⟨x, rfl, hx0, hx1, hc, ht⟩; have HC := Lib.hid hc; have HT := Lib.hid ht; clear hc ht)
  go_ret
  exact ⟨_, rfl, HC.out, HT.out⟩
set_option maxHeartbeats 1600000 in
theorem among_any (g K ga n c : Nat) (f : Nat → Value) (P : Int → Prop) (w : World) (h : Cur w g K) (hK : K ≤ 100000000) (hn : n ≤ 1000) (h0 : 0 < n) (hc : Cells w ga n f) (hg : ga ≠ g) (hf : ∀ k, k < n → ∃ x, f k = .int .i64 x ∧ P x) :
    Calls Tryz.prog 77 #[.pointer (some ⟨g, 0, none⟩), .slice (some ⟨ga, 0, none⟩) n c] w fun e w' => ∃ x, e = .returned (.int .i64 x) ∧ P x ∧ Cur w' g (K + 2) ∧ Turn g w w' := by
  have H := Lib.hid h
  have Hc := Lib.hid hc
  have Hf := Lib.hid hf
  clear h hc hf
  go_enter Tryz.func77, Tryz.ntmps77
  go_wp2_with (go_at_call 53; refine (pick_any g K (n : Int) _ H.out (by omega) (by omega)).mono ?_; rintro e w1 ⟨x, rfl, hx0, hx1, hc, ht⟩; have HC := Lib.hid hc; have HT := Lib.hid ht; clear hc ht; obtain ⟨k, rfl⟩ : ∃ k : Nat, x = (k : Int) := ⟨x.toNat, by omega⟩; have hk : k < n := (by omega); obtain ⟨y, hy, hP⟩ := Hf.out k hk; have hcell := (HT.out.cell (p := ⟨ga, k, none⟩) Hc.out.lt hg).trans (Hc.out.cell hk); rw [hy] at hcell; have HP := Lib.hid hP; clear hP hy)
  go_ret
  exact ⟨_, rfl, HP.out, HC.out, HT.out⟩
set_option maxHeartbeats 1600000 in
theorem of_any (g K ga n c : Nat) (f : Nat → Value) (P : ByteArray → Prop) (w : World) (h : Cur w g K) (hK : K ≤ 100000000) (hn : n ≤ 1000) (h0 : 0 < n) (hc : Cells w ga n f) (hg : ga ≠ g) (hf : ∀ k, k < n → ∃ x, f k = .string x ∧ P x) :
    Calls Tryz.prog 54 #[.pointer (some ⟨g, 0, none⟩), .slice (some ⟨ga, 0, none⟩) n c] w fun e w' => ∃ x, e = .returned (.string x) ∧ P x ∧ Cur w' g (K + 2) ∧ Turn g w w' := by
  have H := Lib.hid h
  have Hc := Lib.hid hc
  have Hf := Lib.hid hf
  clear h hc hf
  go_enter Tryz.func54, Tryz.ntmps54
  go_wp2_with (go_at_call 53; refine (pick_any g K (n : Int) _ H.out (by omega) (by omega)).mono ?_; rintro e w1 ⟨x, rfl, hx0, hx1, hc, ht⟩; have HC := Lib.hid hc; have HT := Lib.hid ht; clear hc ht; obtain ⟨k, rfl⟩ : ∃ k : Nat, x = (k : Int) := ⟨x.toNat, by omega⟩; have hk : k < n := (by omega); obtain ⟨y, hy, hP⟩ := Hf.out k hk; have hcell := (HT.out.cell (p := ⟨ga, k, none⟩) Hc.out.lt hg).trans (Hc.out.cell hk); rw [hy] at hcell; have HP := Lib.hid hP; clear hP hy)
  go_ret
  exact ⟨_, rfl, HP.out, HC.out, HT.out⟩
/-- A new block of literal values. -/
theorem Cells.lit (w : World) (c : Array Value) (t : TypeId) (n : Nat) (h : c.size = n) : Cells (w.alloc (.cells c t)) w.heap.size n (fun i => c.getD i undef) := by subst h; exact Cells.new w c t _ _ fun i hi => by simp [Array.getD, hi]
set_option maxHeartbeats 1600000 in
theorem stage_any (g K : Nat) (w : World) (h : Cur w g K) (hK : K ≤ 100000000) :
    Calls Tryz.prog 161 #[.pointer (some ⟨g, 0, none⟩)] w fun e w' => ∃ x, e = .returned (.int .i64 x) ∧ (3 ≤ x ∧ x ≤ 8) ∧ Cur w' g (K + 2) ∧ Turn g w w' := by
  have H := Lib.hid h
  have hlt := h.lt
  clear h
  go_enter Tryz.func161, Tryz.ntmps161
  go_wp2_with (go_at_call 77; refine (among_any g K w.heap.size 9 9 _ (fun x => 3 ≤ x ∧ x ≤ 8) _ (H.out.later ((Below.refl _ _).alloc (Nat.le_refl _) _)) (by omega) (by omega) (by omega) (Cells.lit w _ _ 9 rfl) (by omega) (by intro k hk; rcases k with _ | _ | _ | _ | _ | _ | _ | _ | _ | k <;> first | exact ⟨_, rfl, by omega⟩ | omega)).mono ?_; rintro e w1 ⟨x, rfl, hx, hc, ht⟩)
  go_ret
  exact ⟨_, rfl, hx, hc, (Turn.of ((Below.refl _ _).alloc (Nat.le_refl _) _)).trans ht⟩
def encByte (v : Int) : List Value := [.int .u8 v]
/-- A new reader over some bytes. -/
theorem Cur.new {w : World} {A : Option Addr} {c : Nat} {l : List Int} (h : RdL w w.heap.size A 1 encByte l) (hb : ∀ x ∈ l, 0 ≤ x ∧ x < 256) (hl : l.length ≤ 9223372036854775807) (t : TypeId) :
    Cur (w.alloc (.cells #[.slice A l.length c, .int .i64 0, .int .u64 0] t)) w.heap.size 0 := by
  have hc := Cells.lit w #[.slice A l.length c, .int .i64 0, .int .u64 0] t 3 rfl
  have hbl : Below w.heap.size w (w.alloc (.cells #[.slice A l.length c, .int .i64 0, .int .u64 0] t)) := (Below.refl _ _).alloc (Nat.le_refl _) _
  refine ⟨A, l.length, c, 0, 0, ⟨hc.lt, hc.cell (i := 0) (by omega), hc.cell (i := 1) (by omega), hc.cell (i := 2) (by omega), hc.free (i := 1) (by omega), hc.free (i := 2) (by omega), by omega, by omega, fun i hi => ?_, hl⟩, Nat.le_refl _⟩
  obtain ⟨ga, off, hA, hg, hcell⟩ := h.at hi
  have hv := hb _ (List.getElem_mem hi)
  have h0 := hcell 0 _ rfl
  rw [Nat.mul_one, Nat.add_zero] at h0
  exact ⟨ga, off, l[i], hA, Nat.ne_of_lt hg, hg, (hbl.cell (p := ⟨ga, off + i, none⟩) hg).trans h0, hv⟩
end Go.Proofs.YtkegbbndmfnolaaGreatDoor
