/-
  The law of exchanges, plain: the least exchanges are as many as the cycles' lengths less one; the side exchanges as many as the inversions; the wrong bells as many as the cycles' points.
-/
import Derived.Test.YtdecjijldcbnjaaSwapsC
import Derived.Test.YtdecjijldcbnjaaInv
namespace Go.Proofs.Ytdecjijldcbnjaa
open CycT (Cy Part Run)
set_option linter.unusedVariables false
set_option linter.unusedSimpArgs false

namespace CycT
theorem path_map {f h : Nat → Nat} {s : Nat → Nat} {n : Nat} (hs : ∀ i, i < n → h (s i) = s (f i)) : ∀ {l : List Nat} {x y : Nat}, (∀ z, z ∈ x :: l → z < n) → path f x l y → path h (s x) (l.map s) (s y)
  | [], x, y, hb, hp => by simp only [path, List.map] at *; rw [hs x (hb x (by simp)), hp]
  | t :: l, x, y, hb, hp => by
    simp only [path, List.map] at *
    exact ⟨by rw [hs x (hb x (by simp)), hp.1], path_map hs (fun z hz => hb z (List.mem_cons_of_mem _ hz)) hp.2⟩
def Cy.map (s : Nat → Nat) (c : Cy) : Cy := (s c.1, c.2.map s)
theorem flat_map (s : Nat → Nat) (C : List Cy) : flat (C.map (Cy.map s)) = (flat C).map s := by
  induction C with
  | nil => rfl
  | cons c C ih => rw [List.map_cons, flat_cons, flat_cons, ih, List.map_append]; rfl
theorem excess_map (s : Nat → Nat) (C : List Cy) : excess (C.map (Cy.map s)) = excess C := by
  induction C with
  | nil => rfl
  | cons c C ih => simp only [List.map_cons, excess, ih]; simp [Cy.map]
theorem Dec.conj {n : Nat} {f h s t : Nat → Nat} {C : List Cy} (hd : Dec n f C) (hb : ∀ x ∈ flat C, x < n) (hs : ∀ i, i < n → h (s i) = s (f i)) (hi : ∀ i j, i < n → j < n → s i = s j → i = j) (ht : ∀ j, j < n → t j < n ∧ s (t j) = j) :
    Dec n h (C.map (Cy.map s)) := by
  refine ⟨?_, ?_, ?_⟩
  · intro c hc
    obtain ⟨c0, h0, rfl⟩ := List.mem_map.1 hc
    exact path_map hs (fun z hz => hb z (mem_flat.2 ⟨c0, h0, hz⟩)) (hd.ok c0 h0)
  · rw [flat_map]
    exact List.pairwise_map.2 (List.Pairwise.imp_of_mem (fun ha hb' hne e => hne (hi _ _ (hb _ ha) (hb _ hb') e)) hd.nd)
  · intro j hj hne
    obtain ⟨h1, h2⟩ := ht j hj
    rw [flat_map]
    refine List.mem_map.2 ⟨t j, hd.cov _ h1 (fun e => hne ?_), h2⟩
    rw [← h2, hs _ h1, e]
theorem len_flat (C : List Cy) : (flat C).length = excess C + C.length := by
  induction C with
  | nil => rfl
  | cons c C ih => rw [flat_cons, List.length_append, ih]; simp [excess, Cy.all]; omega
theorem Part.count {n : Nat} {f : Nat → Nat} {C : List Cy} (h : Part n f C n) : (flat C).length = ((List.range n).filter fun i => f i != i).length := by
  refine (List.Perm.length_eq ?_)
  refine (List.perm_ext_iff_of_nodup h.nd (List.Pairwise.filter _ List.nodup_range)).2 fun x => ?_
  rw [List.mem_filter, List.mem_range]
  constructor
  · intro hx; exact ⟨h.lt x hx, by simpa using h.nf x hx⟩
  · rintro ⟨h1, h2⟩; exact h.cov x h1 (by simpa using h2)
end CycT

/-- Where a bell stands in a row, from nought. -/
def posF (a : ByteArray) (i : Nat) : Nat := (placeS a ((i : Int) + 1) - 1).toNat
theorem posF_row {a : ByteArray} (h : isRow a) {j : Nat} (hj : j < a.size) : posF a (rowF a j) = j := by
  have := h.place hj
  unfold posF
  rw [← rowF_bat h hj, this]; omega
theorem row_posF {a : ByteArray} (h : isRow a) {i : Nat} (hi : i < a.size) : posF a i < a.size ∧ rowF a (posF a i) = i := by
  obtain ⟨j, hj, e⟩ := h.hit (v := 49 + i) (by omega) (by omega)
  have : rowF a j = i := by unfold rowF; omega
  subst this
  rw [posF_row h hj]; exact ⟨hj, rfl⟩
theorem bat_drift {a b : ByteArray} (h : two a b) {i : Nat} (hi : i < a.size) : bat (driftS a b) i = bat b (posF a i : Nat) := by
  have h8 := h.1.2.1
  unfold driftS
  rw [bat_times _ _ _ (by rw [size_turn]; exact hi), bat_turn a h8 i hi]
  obtain ⟨h1, h2⟩ := row_posF h.1 hi
  have := h.1.place h1
  rw [rowF_bat h.1 h1, h2] at this
  rw [this]
  congr 1; omega
theorem size_drift (a b : ByteArray) : (driftS a b).size = a.size := by unfold driftS; rw [size_times, size_turn]
theorem rowF_drift {a b : ByteArray} (h : two a b) {i : Nat} (hi : i < a.size) : rowF (driftS a b) i = rowF b (posF a i) := by unfold rowF; rw [bat_drift h hi]
theorem posF_inj {a : ByteArray} (h : isRow a) : ∀ i j, i < a.size → j < a.size → posF a i = posF a j → i = j := fun i j hi hj e => by
  rw [← (row_posF h hi).2, ← (row_posF h hj).2, e]
theorem drift_row {a b : ByteArray} (h : two a b) : isRow (driftS a b) := by
  have hs := size_drift a b
  refine ⟨by rw [hs]; exact h.1.1, by rw [hs]; exact h.1.2.1, fun i hi => ?_, fun i j hij hj e => ?_⟩
  · rw [hs] at hi ⊢
    have h1 := (row_posF h.1 hi).1
    rw [bat_drift h hi]
    have := h.2.1.2.2.1 _ (show posF a i < b.size by have := h.2.2; omega)
    have := h.2.2; omega
  · rw [hs] at hj
    rw [bat_drift h (by omega), bat_drift h hj] at e
    have h1 := (row_posF h.1 (show i < a.size by omega)).1
    have h2 := (row_posF h.1 hj).1
    have := h.2.1.inj (by have := h.2.2; omega) (by have := h.2.2; omega) e
    have := posF_inj h.1 i j (by omega) hj this
    omega
/-- The drift carries the row wanted into the row rung. -/
theorem drift_back {a b : ByteArray} (h : two a b) : timesS (driftS a b) a = b := by
  have h2 := h.2.2
  refine str_ext (by rw [size_times]; exact h2) fun i hi => ?_
  rw [size_times] at hi
  rw [bat_times _ _ _ hi]
  have e : bat a i - 49 = ((rowF a i : Nat) : Int) := by have := rowF_bat h.1 hi; omega
  rw [e, bat_drift h (rowF_lt h.1 i hi), posF_row h.1 hi]
/-- The place in the row wanted of the bell at a place. -/
def hF (a c : ByteArray) (k : Nat) : Nat := posF a (rowF c k)
theorem moved_congr {n : Nat} : ∀ (m k : Nat) {f g : Nat → Nat}, k + m = n → (∀ i, i < n → f i = g i) → CycT.moved n m k f = CycT.moved n m k g
  | 0, _, _, _, _, _ => rfl
  | m + 1, k, f, g, hk, h => by
    have e := h k (by omega)
    simp only [CycT.moved]
    rw [e, moved_congr m (k + 1) (by omega) h, moved_congr m (k + 1) (f := CycT.aside f k) (g := CycT.aside g k) (by omega) (fun i hi => by unfold CycT.aside; rw [h i hi, e])]
theorem lsw_moved {a b : ByteArray} (h : two a b) : ∀ (m k : Nat), k + m = a.size → (lsw a a.size b).2.length = (lsw a k b).2.length + CycT.moved a.size m k (hF a (lsw a k b).1)
  | 0, k, hk => by
    have : k = a.size := by omega
    subst this; rfl
  | m + 1, k, hk => by
    have ih := lsw_moved h m (k + 1) (by omega)
    obtain ⟨hc, hcs⟩ := lsw_row h.1 h.2.1 h.2.2 k (by omega)
    have hka : k < a.size := by omega
    have h8 := h.1.2.1
    by_cases e : bat a k = bat (lsw a k b).1 k
    · rw [lsw_y e] at ih
      rw [ih]
      have : hF a (lsw a k b).1 k = k := by
        unfold hF
        have : rowF (lsw a k b).1 k = rowF a k := by unfold rowF; rw [e]
        rw [this, posF_row h.1 hka]
      simp only [CycT.moved]
      rw [if_pos this]
    · rw [lsw_n e] at ih
      rw [ih]
      simp only
      generalize (lsw a k b).1 = c at *
      have ha1 := h.1.2.2.1 k hka
      have hc1 := hc.2.2.1 k (by omega)
      have hne : hF a c k ≠ k := fun x => e (by
        unfold hF at x
        have h1 := row_posF h.1 (i := rowF c k) (by have := rowF_lt hc k (by omega); omega)
        rw [x] at h1
        have := h1.2
        unfold rowF at this; omega)
      simp only [CycT.moved]
      rw [if_neg hne, List.length_append, List.length_singleton]
      rw [moved_congr m (k + 1) (g := CycT.aside (hF a c) k) (by omega) (fun i hi => ?_)]
      · omega
      · have hci := hc.2.2.1 i (by omega)
        have hb2 := bat_swap c (bat a k - 48) (bat c k - 48) (by omega) (by omega) i (by omega)
        unfold swapV at hb2
        unfold CycT.aside
        by_cases e1 : i = k
        · subst e1
          rw [if_neg (by omega), if_pos (by omega)] at hb2
          rw [if_pos rfl]
          unfold hF
          have : rowF (swapS c (bat a i - 48) (bat c i - 48)) i = rowF a i := by unfold rowF; rw [hb2]; congr 1; omega
          rw [this, posF_row h.1 hka]
        · rw [if_neg e1]
          by_cases e2 : bat c i = bat a k
          · rw [if_pos (by omega)] at hb2
            have h3 : hF a c i = k := by
              unfold hF
              have : rowF c i = rowF a k := by unfold rowF; rw [e2]
              rw [this, posF_row h.1 hka]
            rw [if_pos h3]
            unfold hF
            have : rowF (swapS c (bat a k - 48) (bat c k - 48)) i = rowF c k := by unfold rowF; rw [hb2]; congr 1; omega
            rw [this]
          · have h3 : hF a c i ≠ k := fun x => e2 (by
              unfold hF at x
              have h1 := row_posF h.1 (i := rowF c i) (by have := rowF_lt hc i (by omega); omega)
              rw [x] at h1
              have := h1.2
              unfold rowF at this; omega)
            rw [if_neg h3]
            have h4 : bat c i ≠ bat c k := fun x => e1 (hc.inj (by omega) (by omega) x)
            rw [if_neg (by omega), if_neg (by omega)] at hb2
            unfold hF
            have : rowF (swapS c (bat a k - 48) (bat c k - 48)) i = rowF c i := by unfold rowF; rw [hb2]
            rw [this]
theorem least_len {a b : ByteArray} (h : two a b) {C : List Cy} (hP : Part a.size (rowF (driftS a b)) C a.size) : (leastL a b).length = CycT.excess C := by
  have h1 := lsw_moved h a.size 0 (by omega)
  have hd := (hP.dec).conj (h := hF a b) (s := posF a) (t := rowF a) hP.lt (fun i hi => by
    unfold hF
    rw [rowF_drift h hi]) (posF_inj h.1) (fun j hj => ⟨rowF_lt h.1 j hj, posF_row h.1 hj⟩)
  have hb : ∀ x ∈ CycT.flat (C.map (CycT.Cy.map (posF a))), x < a.size := by
    intro x hx
    rw [CycT.flat_map] at hx
    obtain ⟨y, hy, rfl⟩ := List.mem_map.1 hx
    exact (row_posF h.1 (hP.lt y hy)).1
  have hlt : ∀ i, i < a.size → hF a b i < a.size := fun i hi => (row_posF h.1 (by have := rowF_lt h.2.1 i (by have := h.2.2; omega); have := h.2.2; omega)).1
  have hin : ∀ i j, i < a.size → j < a.size → hF a b i = hF a b j → i = j := fun i j hi hj e => by
    have h2 := h.2.2
    have := posF_inj h.1 _ _ (by have := rowF_lt h.2.1 i (by omega); omega) (by have := rowF_lt h.2.1 j (by omega); omega) e
    exact rowF_inj h.2.1 i j (by omega) (by omega) this
  have := CycT.Dec.moved a.size 0 _ _ (by omega) hd hlt hin hb (fun i hi => by omega)
  rw [CycT.excess_map] at this
  unfold leastL
  rw [h1]
  simp only [lsw]
  rw [this]; simp
theorem wrong_len {a b : ByteArray} (h : two a b) {C : List Cy} (hP : Part a.size (rowF (driftS a b)) C a.size) : (wrongL a b a.size).length = CycT.excess C + C.length := by
  rw [← CycT.len_flat, hP.count]
  unfold wrongL
  rw [List.length_map]
  refine congrArg List.length (List.filter_congr fun i hi => ?_)
  have hi := List.mem_range.1 hi
  have hib : i < b.size := by have := h.2.2; omega
  obtain ⟨p1, p2⟩ := row_posF h.1 hi
  obtain ⟨q1, q2⟩ := row_posF h.2.1 hib
  have ea := h.1.place p1
  have eb := h.2.1.place q1
  rw [rowF_bat h.1 p1, p2] at ea
  rw [rowF_bat h.2.1 q1, q2] at eb
  rw [ea, eb, rowF_drift h hi]
  have h2 := h.2.2
  by_cases e : posF a i = posF b i
  · rw [e, q2]; simp
  · have : rowF b (posF a i) ≠ i := fun x => e (by rw [← posF_row h.2.1 (show posF a i < b.size by omega), x])
    have h5 : ((posF a i : Nat) : Int) + 1 ≠ ((posF b i : Nat) : Int) + 1 := by omega
    exact (bne_iff_ne.2 h5).trans (bne_iff_ne.2 this).symm
theorem first_desc (p : Nat → Int) : ∀ n, (∀ j, j < n → p j < p (j + 1)) ∨ ∃ i, i < n ∧ (∀ j, j < i → p j < p (j + 1)) ∧ ¬ p i < p (i + 1)
  | 0 => .inl (fun j hj => by omega)
  | n + 1 => by
    rcases first_desc p n with h | ⟨i, h1, h2, h3⟩
    · by_cases e : p n < p (n + 1)
      · exact .inl fun j hj => by
          by_cases ej : j = n
          · subst ej; exact e
          · exact h j (by omega)
      · exact .inr ⟨n, by omega, h, e⟩
    · exact .inr ⟨i, by omega, h2, h3⟩
theorem bub_inv {b : ByteArray} (hb : isRow b) : ∀ (f : Nat) (c : ByteArray), isRow c → c.size = b.size → InvT.inv (plc b c) c.size ≤ f → (bubS b f c).length = InvT.inv (plc b c) c.size
  | 0, c, hc, hs, hf => by
    have : InvT.inv (plc b c) c.size = 0 := by omega
    rw [this]; rfl
  | f + 1, c, hc, hs, hf => by
    rcases first_desc (plc b c) (c.size - 1) with h | ⟨i, h1, h2, h3⟩
    · rw [bubS_done b _ c h, InvT.inv_zero c.size (fun j hj => by have := h j (by omega); omega)]; rfl
    · have hne : plc b c i ≠ plc b c (i + 1) := fun e => by have := plc_inj b c hb hc hs i (i + 1) (by omega) (by omega) e; omega
      have hp := InvT.inv_swap (p := plc b c) (q := plc b (side c i)) (i := i) c.size (by omega) (fun j hj h1 h2 => by rw [plc_side b hc i (by omega) j hj, if_neg h1, if_neg h2]) (by rw [plc_side b hc i (by omega) i (by omega), if_pos rfl]) (by rw [plc_side b hc i (by omega) (i + 1) (by omega), if_neg (by omega), if_pos rfl]) (by omega)
      have ih := bub_inv hb f (side c i) (side_row hc i (by omega)) (by rw [side_size]; exact hs) (by rw [side_size]; omega)
      rw [side_size] at ih
      rw [bubS_step b f c i h1 h2 h3, List.length_cons, ih, hp]
theorem above_le (p : Nat → Int) (v : Int) : ∀ n, InvT.above p v n ≤ n
  | 0 => Nat.le_refl _
  | n + 1 => by have := above_le p v n; simp only [InvT.above]; split <;> omega
theorem inv_le (p : Nat → Int) : ∀ n, n ≤ 8 → InvT.inv p n ≤ 8 * n
  | 0, _ => by simp [InvT.inv]
  | n + 1, h => by have := inv_le p n (by omega); have := above_le p (p n) n; simp only [InvT.inv]; omega
/-- The side exchanges are as many as the pairs that stand the wrong way round. -/
theorem side_len {a b : ByteArray} (h : two a b) : (bubS b 600 a).length = InvT.inv (plc b a) a.size := bub_inv h.2.1 600 a h.1 h.2.2 (by have := inv_le (plc b a) a.size h.1.2.1; have := h.1.2.1; omega)
/-- The places in the row rung, as a text. -/
theorem bat_x {a b : ByteArray} (h : two a b) {i : Nat} (hi : i < a.size) : bat (timesS (turnS b) a) i = 48 + plc b a i := by
  rw [bat_times _ _ _ hi]
  have h1 := h.1.2.2.1 i hi
  have e : bat a i - 49 = ((rowF a i : Nat) : Int) := by have := rowF_bat h.1 hi; omega
  have hl := rowF_lt h.1 i hi
  rw [e, bat_turn b h.2.1.2.1 _ (by have := h.2.2; omega)]
  unfold plc
  rw [rowF_bat h.1 hi]
theorem turn_row {b : ByteArray} (h : isRow b) : isRow (turnS b) := by
  have hb : ∀ i, i < b.size → bat (turnS b) i = 49 + ((posF b i : Nat) : Int) ∧ posF b i < b.size := fun i hi => by
    obtain ⟨h1, h2⟩ := row_posF h hi
    have := h.place h1
    rw [rowF_bat h h1, h2] at this
    rw [bat_turn b h.2.1 i hi, this]
    exact ⟨by omega, h1⟩
  have hs : (turnS b).size = b.size := size_turn b
  refine ⟨by rw [hs]; exact h.1, by rw [hs]; exact h.2.1, fun i hi => ?_, fun i j hij hj e => ?_⟩
  · rw [hs] at hi ⊢
    obtain ⟨h1, h2⟩ := hb i hi
    rw [h1]; omega
  · rw [hs] at hj
    rw [(hb i (by omega)).1, (hb j hj).1] at e
    have := posF_inj h i j (by omega) hj (by omega)
    omega
theorem exc_step {hs : List Hd} {C : List Cy} (h : HdsOf hs C) (j : Nat) (hj : j < hs.length) : (CycT.excess (C.take (j + 1)) : Int) = (CycT.excess (C.take j) : Int) + ((hs[j].n : Int) - 1) ∧ 1 ≤ hs[j].n := by
  have hl := h.len
  have hjC : j < C.length := by omega
  have e : (hs.map Hd.n)[j]? = (C.map fun c => c.2.length + 1)[j]? := by rw [show hs.map Hd.n = _ from h]
  have e2 : hs[j].n = C[j].2.length + 1 := by simpa [hj, hjC] using e
  rw [List.take_succ_eq_append_getElem hjC, CycT.excess_app, e2]
  refine ⟨?_, by omega⟩
  simp [CycT.excess]
theorem exc_le (C : List Cy) (j : Nat) : CycT.excess (C.take j) ≤ CycT.excess C := by
  have := CycT.excess_app (C.take j) (C.drop j)
  rw [List.take_append_drop] at this; omega
end Go.Proofs.Ytdecjijldcbnjaa
