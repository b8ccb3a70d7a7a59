import Derived.Test.YtglnehinmdmgmaaGreatMErrorsL14
import Derived.Test.YtglnehinmdmgmaaGreatMErrorsL15
import Derived.Test.YtglnehinmdmgmaaGreatMErrorsL16
import Derived.Test.YtglnehinmdmgmaaGreatMErrorsL07
import Derived.Test.YtglnehinmdmgmaaGreatMErrorsL19
/-
  The blows in which bells are matched, in plain words (no program): what both sides lay together, and how it is sorted.
-/
namespace Go.Proofs.YtglnehinmdmgmaaGreat
set_option linter.unusedVariables false
set_option linter.unusedSimpArgs false

/-- The ideal strikes of the first k bells of a row. -/
def idealR (st gap hand : Int) (i : Nat) (r : ByteArray) (k : Nat) : List Stk := (List.range k).map fun p : Nat => ⟨bat r p - 48, blowV st gap hand r.size i ((p : Int) + 1)⟩
theorem idealR_succ (st gap hand : Int) (i : Nat) (r : ByteArray) (k : Nat) : idealR st gap hand i r (k + 1) = idealR st gap hand i r k ++ [⟨bat r k - 48, blowV st gap hand r.size i ((k : Int) + 1)⟩] := by
  unfold idealR; rw [List.range_succ, List.map_append]; rfl
theorem idealR_len (st gap hand : Int) (i : Nat) (r : ByteArray) (k : Nat) : (idealR st gap hand i r k).length = k := by unfold idealR; simp
def rowAt (rows : List ByteArray) (k : Nat) : ByteArray := rows.getD k ⟨#[]⟩
theorem rowAt_get {rows : List ByteArray} {k : Nat} (h : k < rows.length) : rowAt rows k = rows[k] := by
  unfold rowAt; rw [List.getD_eq_getElem?_getD, List.getElem?_eq_getElem h]; rfl
/-- The ideal strikes of the first k rows. -/
def idealL (st gap hand : Int) (rows : List ByteArray) : Nat → List Stk
  | 0 => []
  | k + 1 => idealL st gap hand rows k ++ idealR st gap hand k (rowAt rows k) (rowAt rows k).size
section
variable {st gap hand : Int} {rows : List ByteArray}
theorem ideal_len (h : ∀ k, k < rows.length → (rowAt rows k).size ≤ 8) : ∀ k, k ≤ rows.length → (idealL st gap hand rows k).length ≤ 8 * k
  | 0, _ => by simp [idealL]
  | k + 1, hk => by
    have h1 := ideal_len h k (by omega)
    have h2 := h k (by omega)
    simp only [idealL, List.length_append, idealR_len]; omega
theorem ofL_app (a b : List Stk) (v : Int) : ofL (a ++ b) v = ofL a v ++ ofL b v := by unfold ofL; rw [List.filter_append, List.map_append]
theorem idealR_one {i : Nat} {r : ByteArray} {v : Int} (hr : isRow r) : ∀ k, k ≤ r.size → (ofL (idealR st gap hand i r k) v).length ≤ 1 ∧ ((ofL (idealR st gap hand i r k) v).length = 1 → ∃ p, p < k ∧ bat r p - 48 = v)
  | 0, _ => by simp [idealR, ofL]
  | k + 1, hk => by
    have h1 := idealR_one (i := i) (v := v) hr k (by omega)
    rw [idealR_succ, ofL_app]
    by_cases e : bat r k - 48 = v
    · have h0 : (ofL (idealR st gap hand i r k) v).length = 0 := by
        by_cases h2 : (ofL (idealR st gap hand i r k) v).length = 1
        · obtain ⟨p, hp, h3⟩ := h1.2 h2
          have := hr.inj (i := p) (j := k) (by omega) (by omega) (by omega)
          omega
        · have := h1.1; omega
      refine ⟨?_, fun _ => ⟨k, by omega, e⟩⟩
      rw [List.length_append, h0]
      unfold ofL; simp [e]
    · have h0 : ofL [(⟨bat r k - 48, blowV st gap hand r.size i ((k : Int) + 1)⟩ : Stk)] v = [] := by unfold ofL; simp [e]
      rw [h0, List.append_nil]
      exact ⟨h1.1, fun h => by obtain ⟨p, hp, h3⟩ := h1.2 h; exact ⟨p, by omega, h3⟩⟩
theorem ideal_of (h : ∀ k, k < rows.length → isRow (rowAt rows k)) (v : Int) : ∀ k, k ≤ rows.length → (ofL (idealL st gap hand rows k) v).length ≤ k
  | 0, _ => by simp [idealL, ofL]
  | k + 1, hk => by
    have h1 := ideal_of h v k (by omega)
    have h2 := (idealR_one (st := st) (gap := gap) (hand := hand) (i := k) (v := v) (h k (by omega)) (rowAt rows k).size (Nat.le_refl _)).1
    simp only [idealL, ofL_app, List.length_append]; omega
end
/-- The blows of one bell's first k matches. -/
def bbTo (rows : List ByteArray) (bell : Int) (ts of : List Int) : Nat → List Blw
  | 0 => []
  | k + 1 => if 0 ≤ of.getD k 0 then bbTo rows bell ts of k ++ [⟨(k : Int), placeS (rowAt rows k) bell, ts.getD (of.getD k 0).toNat 0⟩] else bbTo rows bell ts of k
theorem bbTo_y {rows : List ByteArray} {bell : Int} {ts of : List Int} {k : Nat} (h : 0 ≤ of.getD k 0) : bbTo rows bell ts of (k + 1) = bbTo rows bell ts of k ++ [⟨(k : Int), placeS (rowAt rows k) bell, ts.getD (of.getD k 0).toNat 0⟩] := by simp only [bbTo]; rw [if_pos h]
theorem bbTo_n {rows : List ByteArray} {bell : Int} {ts of : List Int} {k : Nat} (h : ¬ 0 ≤ of.getD k 0) : bbTo rows bell ts of (k + 1) = bbTo rows bell ts of k := by simp only [bbTo]; rw [if_neg h]
theorem bbTo_len (rows : List ByteArray) (bell : Int) (ts of : List Int) : ∀ k, (bbTo rows bell ts of k).length ≤ k
  | 0 => by simp [bbTo]
  | k + 1 => by
    have := bbTo_len rows bell ts of k
    simp only [bbTo]; split
    · rw [List.length_append, List.length_singleton]; omega
    · omega
/-- The matches of a bell. -/
noncomputable def mof (st gap hand : Int) (rows : List ByteArray) (l : List Stk) (s bell : Int) : List Int := (ofM s (ofL (idealL st gap hand rows rows.length) bell) (ofL l bell) (ofL (idealL st gap hand rows rows.length) bell).length).1
/-- The blows of the first k bells. -/
noncomputable def blTo (st gap hand : Int) (rows : List ByteArray) (l : List Stk) (s : Int) : Nat → List Blw
  | 0 => []
  | k + 1 => blTo st gap hand rows l s k ++ bbTo rows ((k : Int) + 1) (ofL l ((k : Int) + 1)) (mof st gap hand rows l s ((k : Int) + 1)) (mof st gap hand rows l s ((k : Int) + 1)).length
/-- A blow of no large numbers. -/
def smallB (x : Blw) : Prop := (0 ≤ x.row ∧ x.row ≤ 800) ∧ (0 ≤ x.place ∧ x.place ≤ 8) ∧ (0 ≤ x.at_ ∧ x.at_ ≤ 1000000)
theorem bbTo_small {rows : List ByteArray} {bell : Int} {ts of : List Int} (hs : ∀ k, k < rows.length → (rowAt rows k).size ≤ 8) (hr : rows.length ≤ 800) (ht : ∀ t ∈ ts, 0 ≤ t ∧ t ≤ 1000000) : ∀ k, k ≤ rows.length → ∀ x ∈ bbTo rows bell ts of k, smallB x
  | 0, _ => by simp [bbTo]
  | k + 1, hk => by
    intro x hx
    have ih := bbTo_small (bell := bell) (of := of) hs hr ht k (by omega)
    simp only [bbTo] at hx
    split at hx
    · rcases List.mem_append.1 hx with hx | hx
      · exact ih x hx
      · rw [List.mem_singleton.1 hx]
        have h1 := placeAt_le (rowAt rows k) (48 + bell) (rowAt rows k).size
        have h2 := hs k (by omega)
        refine ⟨⟨by show (0 : Int) ≤ (k : Int); omega, by show (k : Int) ≤ 800; omega⟩, ⟨h1.1, by show placeAt _ _ _ ≤ (8 : Int); omega⟩, ?_⟩
        show 0 ≤ ts.getD _ 0 ∧ ts.getD _ 0 ≤ 1000000
        rw [List.getD_eq_getElem?_getD]
        by_cases e : (of.getD k 0).toNat < ts.length
        · rw [List.getElem?_eq_getElem e]; exact ht _ (List.getElem_mem e)
        · rw [List.getElem?_eq_none (by omega)]; simp
    · exact ih x hx
theorem ofL_bd {l : List Stk} (h : strikesP l) (v : Int) : ∀ t ∈ ofL l v, 0 ≤ t ∧ t ≤ 1000000 := fun t ht => by
  unfold ofL at ht
  obtain ⟨x, hx, rfl⟩ := List.mem_map.1 ht
  obtain ⟨i, hi, rfl⟩ := List.getElem_of_mem (List.mem_filter.1 hx).1
  exact (h.2 i hi).2.1
/-- All that is asked: the rows, the beat, the strikes, each bell's times. -/
def biP (st gap hand : Int) (rows : List ByteArray) (l : List Stk) (s : Int) : Prop :=
  rowsP rows ∧ 0 < rows.length ∧ beatP (st, gap, hand) ∧ strikesP l ∧ strikesP (idealL st gap hand rows rows.length) ∧ ∀ k : Nat, k < sz0 rows → askP (ofL (idealL st gap hand rows rows.length) ((k : Int) + 1)) (ofL l ((k : Int) + 1)) s
section
variable {st gap hand : Int} {rows : List ByteArray} {l : List Stk} {s bell : Int}
theorem rowsP.at8 (h : rowsP rows) : ∀ k, k < rows.length → (rowAt rows k).size ≤ 8 := fun k hk => by rw [rowAt_get hk]; exact (h.2 k hk).1.2.1
theorem rowsP.rowAt (h : rowsP rows) : ∀ k, k < rows.length → isRow (rowAt rows k) := fun k hk => by rw [rowAt_get hk]; exact (h.2 k hk).1
theorem mof_len (h : askP (ofL (idealL st gap hand rows rows.length) bell) (ofL l bell) s) : (mof st gap hand rows l s bell).length = (ofL (idealL st gap hand rows rows.length) bell).length := (ofM_inv (s := s) (a := ofL (idealL st gap hand rows rows.length) bell) (b := ofL l bell) _ (Nat.le_refl _)).2.1
theorem mof_rows (hr : rowsP rows) : (mof st gap hand rows l s bell).length ≤ rows.length := by
  have h1 := (ofM_inv (s := s) (a := ofL (idealL st gap hand rows rows.length) bell) (b := ofL l bell) _ (Nat.le_refl _)).2.1
  have h2 := ideal_of (st := st) (gap := gap) (hand := hand) (fun k hk => hr.rowAt k hk) bell rows.length (Nat.le_refl _)
  unfold mof; omega
theorem mof_60 (h : askP (ofL (idealL st gap hand rows rows.length) bell) (ofL l bell) s) : (mof st gap hand rows l s bell).length ≤ 60 := by
  rw [mof_len h]; exact h.1.1
theorem mof_at {k : Nat} (hk : k < (mof st gap hand rows l s bell).length) : -1 ≤ (mof st gap hand rows l s bell)[k] ∧ (mof st gap hand rows l s bell)[k] < (ofL l bell).length :=
  (ofM_inv (s := s) (a := ofL (idealL st gap hand rows rows.length) bell) (b := ofL l bell) _ (Nat.le_refl _)).2.2 _ (List.getElem_mem hk)
theorem blTo_small (hr : rowsP rows) (hl : strikesP l) : ∀ k, ∀ x ∈ blTo st gap hand rows l s k, smallB x
  | 0 => by simp [blTo]
  | k + 1 => fun x hx => by
    simp only [blTo] at hx
    rcases List.mem_append.1 hx with hx | hx
    · exact blTo_small hr hl k x hx
    · exact bbTo_small hr.at8 hr.1 (ofL_bd hl _) _ (mof_rows hr) x hx
theorem blTo_len (hr : rowsP rows) : ∀ k, (blTo st gap hand rows l s k).length ≤ 800 * k
  | 0 => by simp [blTo]
  | k + 1 => by
    have h1 := blTo_len hr k
    have h2 := bbTo_len rows ((k : Int) + 1) (ofL l ((k : Int) + 1)) (mof st gap hand rows l s ((k : Int) + 1)) (mof st gap hand rows l s ((k : Int) + 1)).length
    have h3 : (mof st gap hand rows l s ((k : Int) + 1)).length ≤ rows.length := mof_rows hr
    have h4 := hr.1
    simp only [blTo, List.length_append]; omega
end
/-! ### Sorted blows -/
/-- One blow comes behind another. -/
def gtB (x y : Blw) : Prop := y.row < x.row ∨ x.row = y.row ∧ y.place < x.place
instance (x y : Blw) : Decidable (gtB x y) := by unfold gtB; infer_instance
/-- Where a blow is put: behind the last that does not come behind it. -/
def posB (l : List Blw) (b : Blw) : Nat → Nat
  | 0 => 0
  | k + 1 => if gtB (l.getD k b) b then posB l b k else k + 1
def putB (l : List Blw) (b : Blw) : List Blw := l.take (posB l b l.length) ++ b :: l.drop (posB l b l.length)
theorem posB_le (l : List Blw) (b : Blw) : ∀ k, posB l b k ≤ k
  | 0 => Nat.le_refl _
  | k + 1 => by
    have := posB_le l b k
    simp only [posB]
    split <;> omega
theorem posB_gt (l : List Blw) (b : Blw) : ∀ k j, posB l b k ≤ j → j < k → gtB (l.getD j b) b
  | 0, j, _, h => by omega
  | k + 1, j, h1, h2 => by
    simp only [posB] at h1
    split at h1
    · rename_i h
      by_cases e : j = k
      · subst e; exact h
      · exact posB_gt l b k j h1 (by omega)
    · omega
theorem posB_ng (l : List Blw) (b : Blw) : ∀ k, 0 < posB l b k → ¬ gtB (l.getD (posB l b k - 1) b) b
  | 0, h => by simp [posB] at h
  | k + 1, h => by
    simp only [posB] at h ⊢
    split
    · rename_i h1; rw [if_pos h1] at h; exact posB_ng l b k h
    · rename_i h1; simpa using h1
theorem putB_perm (l : List Blw) (b : Blw) : (putB l b).Perm (l ++ [b]) := by
  unfold putB
  refine (List.perm_middle).trans ?_
  rw [List.take_append_drop]
  exact (List.perm_append_singleton b l).symm
def leB (x y : Blw) : Prop := ¬ gtB x y
theorem leB_trans {x y z : Blw} (h1 : leB x y) (h2 : leB y z) : leB x z := by unfold leB gtB at *; omega
theorem putB_sorted {l : List Blw} (b : Blw) (h : l.Pairwise leB) : (putB l b).Pairwise leB := by
  unfold putB
  have hp := posB_le l b l.length
  have hk : ∀ x ∈ l.take (posB l b l.length), leB x b := fun x hx => by
    obtain ⟨i, hi, rfl⟩ := List.getElem_of_mem hx
    rw [List.length_take] at hi
    rw [List.getElem_take]
    have h1 := posB_ng l b l.length (by omega)
    have h2 : posB l b l.length - 1 < l.length := by omega
    rw [List.getD_eq_getElem?_getD, List.getElem?_eq_getElem h2] at h1
    rcases Nat.lt_or_ge i (posB l b l.length - 1) with h3 | h3
    · exact leB_trans (List.pairwise_iff_getElem.1 h i _ (by omega) h2 h3) h1
    · have e : i = posB l b l.length - 1 := by omega
      subst e; exact h1
  have hd : ∀ x ∈ l.drop (posB l b l.length), leB b x := fun x hx => by
    obtain ⟨i, hi, rfl⟩ := List.getElem_of_mem hx
    rw [List.length_drop] at hi
    rw [List.getElem_drop]
    have h1 := posB_gt l b l.length (posB l b l.length + i) (by omega) (by omega)
    rw [List.getD_eq_getElem?_getD, List.getElem?_eq_getElem (by omega)] at h1
    simp only [Option.getD_some] at h1
    unfold leB; unfold gtB at h1 ⊢; omega
  rw [List.pairwise_append]
  refine ⟨h.sublist (List.take_sublist _ _), List.pairwise_cons.2 ⟨hd, h.sublist (List.drop_sublist _ _)⟩, fun x hx y hy => ?_⟩
  rcases List.mem_cons.1 hy with rfl | hy
  · exact hk x hx
  · exact leB_trans (hk x hx) (hd y hy)
/-- Blows put one behind the other. -/
def sortB (l : List Blw) : List Blw := l.foldl putB []
theorem sortB_snoc (l : List Blw) (b : Blw) : sortB (l ++ [b]) = putB (sortB l) b := by unfold sortB; rw [List.foldl_append]; rfl
theorem sortB_inv : ∀ (l acc : List Blw), acc.Pairwise leB → (l.foldl putB acc).Pairwise leB ∧ (l.foldl putB acc).Perm (acc ++ l)
  | [], acc, h => by simpa using h
  | x :: l, acc, h => by
    obtain ⟨h1, h2⟩ := sortB_inv l (putB acc x) (putB_sorted x h)
    refine ⟨h1, h2.trans ?_⟩
    refine ((putB_perm acc x).append_right l).trans ?_
    rw [List.append_assoc]; exact List.Perm.refl _
theorem sortB_sorted (l : List Blw) : (sortB l).Pairwise leB := (sortB_inv l [] List.Pairwise.nil).1
theorem sortB_perm (l : List Blw) : (sortB l).Perm l := (sortB_inv l [] List.Pairwise.nil).2
theorem sortB_len (l : List Blw) : (sortB l).length = l.length := (sortB_perm l).length_eq
/-- No two blows of one row and place. -/
def apartB (x y : Blw) : Prop := ¬ (x.row = y.row ∧ x.place = y.place)
theorem blowsP_iff (n : Int) (l : List Blw) : blowsP n l ↔ inB n 3 8 ∧ l.length ≤ 400 ∧ (∀ x ∈ l, inB x.row 0 800 ∧ inB x.place 1 n ∧ inB x.at_ 0 1000000) ∧ l.Pairwise apartB := by
  constructor
  · rintro ⟨h1, h2, h3⟩
    refine ⟨h1, h2, fun x hx => ?_, ?_⟩
    · obtain ⟨i, hi, rfl⟩ := List.getElem_of_mem hx
      have := h3 i hi
      exact ⟨this.1, this.2.1, this.2.2.1⟩
    · rw [List.pairwise_iff_getElem]
      intro i j hi hj hij
      have := (h3 j hj).2.2.2
      rintro ⟨e1, e2⟩
      exact this ⟨i, hi, hij, e1, e2⟩
  · rintro ⟨h1, h2, h3, h4⟩
    refine ⟨h1, h2, fun i hi => ?_⟩
    have := h3 _ (List.getElem_mem hi)
    refine ⟨this.1, this.2.1, this.2.2, ?_⟩
    rintro ⟨j, hj, hji, e1, e2⟩
    exact (List.pairwise_iff_getElem.1 h4 j i hj hi hji) ⟨e1, e2⟩
theorem blowsP_perm {n : Int} {l m : List Blw} (h : l.Perm m) : blowsP n l ↔ blowsP n m := by
  rw [blowsP_iff, blowsP_iff, h.length_eq, h.pairwise_iff (R := apartB) (fun {x y} hxy => fun e => hxy ⟨e.1.symm, e.2.symm⟩)]
  have : (∀ x ∈ l, inB x.row 0 800 ∧ inB x.place 1 n ∧ inB x.at_ 0 1000000) ↔ ∀ x ∈ m, inB x.row 0 800 ∧ inB x.place 1 n ∧ inB x.at_ 0 1000000 :=
    ⟨fun k x hx => k x (h.mem_iff.2 hx), fun k x hx => k x (h.mem_iff.1 hx)⟩
  rw [this]
def keyB (x : Blw) : Int := x.row * 9 + x.place
theorem key_le {n : Int} {x y : Blw} (hn : n ≤ 8) (hx : inB x.row 0 800 ∧ inB x.place 1 n ∧ inB x.at_ 0 1000000) (hy : inB y.row 0 800 ∧ inB y.place 1 n ∧ inB y.at_ 0 1000000) (h : keyB x ≤ keyB y) : leB x y := by
  unfold keyB at h; unfold leB gtB; unfold inB at hx hy; omega
theorem eq_of_sorted : ∀ {l m : List Blw}, l.Perm m → l.Pairwise leB → m.Pairwise leB → l.Pairwise apartB → l = m
  | [], m, h, _, _, _ => (List.nil_perm.1 h).symm ▸ rfl
  | x :: l, m, h, hl, hm, ha => by
    match m, h, hm with
    | [], h, _ => simp at h
    | y :: m, h, hm =>
      have hl' := List.pairwise_cons.1 hl
      have hm' := List.pairwise_cons.1 hm
      have ha' := List.pairwise_cons.1 ha
      have hxy : x = y := by
        have h1 : x ∈ y :: m := h.mem_iff.1 (List.mem_cons_self ..)
        have h2 : y ∈ x :: l := h.mem_iff.2 (List.mem_cons_self ..)
        rcases List.mem_cons.1 h2 with e | h2
        · exact e.symm
        · rcases List.mem_cons.1 h1 with e | h1
          · exact e
          · exfalso
            have k1 := hl'.1 y h2
            have k2 := hm'.1 x h1
            have k3 := ha'.1 y h2
            unfold leB gtB at k1 k2
            unfold apartB at k3
            omega
      subst hxy
      rw [eq_of_sorted (List.Perm.cons_inv h) hl'.2 hm'.2 ha'.2]
/-- Sorted by the key, valid: it is the list put together. -/
theorem sort_eq {n : Int} {l m : List Blw} (h : m.Perm l) (hs : m.Pairwise fun x y => keyB x ≤ keyB y) (hb : blowsP n m) : m = sortB l := by
  obtain ⟨h1, _, h3, h4⟩ := (blowsP_iff n m).1 hb
  refine eq_of_sorted (h.trans (sortB_perm l).symm) ?_ (sortB_sorted l) h4
  rw [List.pairwise_iff_getElem] at hs ⊢
  exact fun i j hi hj hij => key_le h1.2 (h3 _ (List.getElem_mem hi)) (h3 _ (List.getElem_mem hj)) (hs i j hi hj hij)
open Classical in
/-- What BlowsIn answers. -/
noncomputable def biR (st gap hand : Int) (rows : List ByteArray) (l : List Stk) (s : Int) : List Blw × Bool :=
  if biP st gap hand rows l s ∧ blowsP (sz0 rows) (sortB (blTo st gap hand rows l s (sz0 rows))) then (sortB (blTo st gap hand rows l s (sz0 rows)), true) else ([], false)
section
variable {st gap hand : Int} {rows : List ByteArray} {l : List Stk} {s : Int}
theorem biR_y (h : biP st gap hand rows l s) (h2 : blowsP (sz0 rows) (sortB (blTo st gap hand rows l s (sz0 rows)))) : biR st gap hand rows l s = (sortB (blTo st gap hand rows l s (sz0 rows)), true) := by unfold biR; rw [if_pos ⟨h, h2⟩]
theorem biR_z (h2 : ¬ blowsP (sz0 rows) (sortB (blTo st gap hand rows l s (sz0 rows)))) : biR st gap hand rows l s = ([], false) := by unfold biR; rw [if_neg (fun h => h2 h.2)]
theorem biR_n (h : ¬ biP st gap hand rows l s) : biR st gap hand rows l s = ([], false) := by unfold biR; rw [if_neg (fun k => h k.1)]
theorem biR_len : (biR st gap hand rows l s).1.length ≤ 400 := by
  unfold biR
  split
  · rename_i h; exact h.2.2.1
  · simp
end
end Go.Proofs.YtglnehinmdmgmaaGreat
