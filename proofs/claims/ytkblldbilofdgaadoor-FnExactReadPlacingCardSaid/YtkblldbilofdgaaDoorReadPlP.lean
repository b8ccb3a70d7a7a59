/-
  ReadPlacing, plain: the text of a placing is cut into its words, and read back.
-/
import Derived.Test.YtkblldbilofdgaaDoorPlacingText
import Derived.Test.YtkblldbilofdgaaDoorSplitL
namespace Go.Proofs.YtkblldbilofdgaaDoor
open Go.RowKit
set_option linter.unusedVariables false
set_option linter.unusedSimpArgs false
set_option maxRecDepth 100000

theorem glue_snoc (c : UInt8) (x : List UInt8) : ∀ l : List (List UInt8), l ≠ [] → SplT.glue c (l ++ [x]) = SplT.glue c l ++ c :: x
  | [], h => absurd rfl h
  | [p], _ => rfl
  | p :: q :: r, _ => by
    have ih := glue_snoc c x (q :: r) (by simp)
    rw [List.cons_append, SplT.glue_cons c p (by simp), ih, SplT.glue_cons c p (by simp)]; simp
theorem cut_glue (c : UInt8) : ∀ l : List (List UInt8), l ≠ [] → (∀ p ∈ l, c ∉ p) → SplT.cutAt c (SplT.glue c l) = l
  | [], h, _ => absurd rfl h
  | [p], _, h => SplT.cutAt_none (h p (by simp))
  | p :: q :: r, _, h => by
    have ih := cut_glue c (q :: r) (by simp) (fun x hx => h x (by simp [hx]))
    rw [SplT.glue_cons c p (by simp), SplT.cutAt_hit _ (h p (by simp)), ih]
theorem plX_data (l : List Pk) (who : List Int) (k : Nat) : (plX l who k).data.toList = Lib.decDigits (k + 1) ++ 58 :: (nmAt l (who.getD k 0).toNat).data.toList := by
  unfold plX
  rw [data_app, data_app, nums_data]; simp
theorem plTo_data (l : List Pk) (who : List Int) : ∀ k, (plTo l who (k + 1)).data.toList = SplT.glue 32 ((plW l who (k + 1)).map fun x : ByteArray => x.data.toList)
  | 0 => by
    have e : plTo l who (0 + 1) = plTo l who 0 ++ plX l who 0 := by simp [plTo]
    have e2 : plTo l who 0 = ⟨#[]⟩ := rfl
    rw [e, e2, data_app, plW_succ]
    have : plW l who 0 = [] := rfl
    rw [this]; simp [SplT.glue]
  | k + 1 => by
    have ih := plTo_data l who k
    have e : plTo l who (k + 1 + 1) = (plTo l who (k + 1) ++ ⟨#[32]⟩) ++ plX l who (k + 1) := by conv => lhs; rw [plTo]; rw [if_neg (by omega)]
    rw [e, data_app, data_app, ih, plW_succ l who (k + 1), List.map_append, List.map_singleton, glue_snoc]
    · simp
    · intro h
      have h1 := congrArg List.length h
      rw [List.length_map, plW_len] at h1
      simp at h1
theorem wordP_no {s : ByteArray} (h : isWordP s) : (32 : UInt8) ∉ s.data.toList ∧ (58 : UInt8) ∉ s.data.toList := by
  refine ⟨fun hm => ?_, fun hm => ?_⟩
  all_goals
    obtain ⟨i, hi, e⟩ := List.getElem_of_mem hm
    have h1 := h.1 i hi
    rw [bat_get hi, e] at h1
    unfold wordByte at h1
    revert h1; decide
theorem digs_no (n : Nat) : (32 : UInt8) ∉ Lib.decDigits n ∧ (58 : UInt8) ∉ Lib.decDigits n := by
  have h := (SplT.dec_canon n).1.2.1
  refine ⟨fun hm => ?_, fun hm => ?_⟩
  all_goals
    have := h _ hm
    unfold SplT.isDig at this
    revert this; decide
/-- A valid placing and its text. -/
def TxtP (l : List Pk) (n : Int) (who : List Int) (s : ByteArray) : Prop := placingP l n who ∧ plTo l who who.length = s ∧ s.size ≤ 200
theorem TxtP.seat {l : List Pk} {n : Int} {who : List Int} {s : ByteArray} (h : TxtP l n who s) {k : Nat} (hk : k < who.length) : ∃ i : Nat, i < l.length ∧ who[k] = (i : Int) ∧ isWordP (nmAt l i) ∧ (who.getD k 0).toNat = i := by
  obtain ⟨i, h1, h2, _⟩ := seats_at h.1.1 h.1.2.1 h.1.2.2 hk
  have e : who.getD k 0 = (i : Int) := by rw [List.getD_eq_getElem?_getD, List.getElem?_eq_getElem hk, h2]; rfl
  exact ⟨i, h1, h2, (h.1.1.2.2 i h1).1, by rw [e, Int.toNat_natCast]⟩
theorem plW_at (l : List Pk) (who : List Int) (n k : Nat) (h : k < (plW l who n).length) : (plW l who n)[k] = plX l who k := by simp [plW]
theorem TxtP.cut {l : List Pk} {n : Int} {who : List Int} {s : ByteArray} (h : TxtP l n who s) : splitS 32 s = plW l who who.length := by
  have h3 : 3 ≤ n := h.1.1.1.1
  have hn := h.1.2.1
  obtain ⟨m, hm⟩ : ∃ m, who.length = m + 1 := ⟨who.length - 1, by omega⟩
  unfold splitS
  rw [← h.2.1, hm, plTo_data, cut_glue, List.map_map]
  · conv => rhs; rw [← List.map_id (plW l who (m + 1))]
    exact List.map_congr_left fun x _ => bytes_ext (by simp)
  · intro e
    have h1 := congrArg List.length e
    rw [List.length_map, plW_len] at h1
    simp at h1
  · intro p hp
    obtain ⟨x, hx, rfl⟩ := List.mem_map.1 hp
    obtain ⟨k, hk, rfl⟩ := List.getElem_of_mem hx
    rw [plW_at]
    rw [plW_len] at hk
    obtain ⟨i, h1, h2, h4, h5⟩ := h.seat (k := k) (by omega)
    rw [plX_data, h5]
    intro hm'
    rcases List.mem_append.1 hm' with h6 | h6
    · exact (digs_no _).1 h6
    · rcases List.mem_cons.1 h6 with e | h6
      · revert e; decide
      · exact (wordP_no h4).1 h6
/-- Names are apart. -/
theorem names_apart {l : List Pk} {n : Int} (h : peopleP l n) {i j : Nat} (hi : i < l.length) (hj : j < l.length) (e : nmAt l i = nmAt l j) : i = j := by
  rcases Nat.lt_trichotomy i j with h1 | h1 | h1
  · exact absurd e ((h.2.2 j hj).2.2.2 i h1)
  · exact h1
  · exact absurd e.symm ((h.2.2 i hi).2.2.2 j h1)
/-- The program's reading of a word: the name behind the first colon. -/
def nmI (y : ByteArray) : ByteArray := ⟨(Lib.cut y.data.toList (⟨#[58]⟩ : ByteArray).data.toList).2.1.toArray⟩
def WdI (l : List Pk) (y : ByteArray) (r : Int) : Prop := (∃ i : Nat, r = (i : Int) ∧ i < l.length ∧ nmAt l i = nmI y) ∨ (r = -1 ∧ ∀ i, i < l.length → nmAt l i ≠ nmI y)
def WdS (l : List Pk) (y : ByteArray) (r : Int) : Prop := (∃ i : Nat, r = (i : Int) ∧ i < l.length ∧ ∃ a, splitS 58 y = [a, nmAt l i]) ∨ (r = -1 ∧ ∀ i, i < l.length → ¬ ∃ a, splitS 58 y = [a, nmAt l i])
theorem TxtP.wdI {l : List Pk} {n : Int} {who : List Int} {s : ByteArray} (h : TxtP l n who s) {k : Nat} (hk : k < who.length) {r : Int} (hr : WdI l (plX l who k) r) : r = who[k] := by
  obtain ⟨i, h1, h2, h3, h4⟩ := h.seat hk
  have e : nmI (plX l who k) = nmAt l i := by
    unfold nmI
    rw [plX_data, h4, show (⟨#[58]⟩ : ByteArray).data.toList = [58] from rfl, SplT.lib_cut_hit (digs_no _).2]
  rw [WdI, e] at hr
  rcases hr with ⟨j, rfl, hj, e2⟩ | ⟨_, hno⟩
  · rw [h2, names_apart h.1.1 hj h1 e2]
  · exact absurd rfl (hno i h1)
theorem TxtP.wdS {l : List Pk} {n : Int} {who : List Int} {s : ByteArray} (h : TxtP l n who s) {k : Nat} (hk : k < who.length) {r : Int} (hr : WdS l (plX l who k) r) : r = who[k] := by
  obtain ⟨i, h1, h2, h3, h4⟩ := h.seat hk
  have e : splitS 58 (plX l who k) = [numS (k + 1), nmAt l i] := by
    unfold splitS
    rw [plX_data, h4, SplT.cutAt_hit _ (digs_no _).2, SplT.cutAt_none (wordP_no h3).2]
    simp only [List.map_cons, List.map_nil]
    exact congr (congrArg List.cons (bytes_ext (by simp [numS]))) (congrArg (fun x => [x]) (bytes_ext (by simp)))
  rw [WdS, e] at hr
  rcases hr with ⟨j, rfl, hj, a, e2⟩ | ⟨_, hno⟩
  · simp only [List.cons.injEq, and_true] at e2
    rw [h2, names_apart h.1.1 h1 hj e2.2]
  · exact absurd ⟨_, rfl⟩ (hno i h1)
/-- Words read so far. -/
def PartW (R : ByteArray → Int → Prop) (L : List ByteArray) (W : List Int) : Prop := W.length ≤ L.length ∧ ∀ i (h1 : i < L.length) (h2 : i < W.length), R L[i] W[i]
theorem PartW.nil {R : ByteArray → Int → Prop} {L : List ByteArray} : PartW R L [] := ⟨by simp, fun i _ h => by simp at h⟩
theorem PartW.snoc {R : ByteArray → Int → Prop} {L : List ByteArray} {l : List Int} (h : PartW R L l) {k : Nat} (hk : l.length = k) (hlt : k < L.length) {x : Int} (hx : R (L[k]'hlt) x) : PartW R L (l ++ [x]) := by
  subst hk
  refine ⟨by simp; omega, fun i h1 h2 => ?_⟩
  by_cases hi : i < l.length
  · rw [List.getElem_append_left hi]; exact h.2 i h1 hi
  · have : i = l.length := by simp at h2; omega
    subst this
    rw [List.getElem_append_right (Nat.le_refl _)]
    simpa using hx
theorem TxtP.allI {l : List Pk} {n : Int} {who W : List Int} {s : ByteArray} (h : TxtP l n who s) (hl : W.length = (splitS 32 s).length) (hp : PartW (WdI l) (splitS 32 s) W) : W = who := by
  rw [h.cut] at hp hl
  rw [plW_len] at hl
  refine List.ext_getElem hl fun i h1 h2 => ?_
  have := hp.2 i (by rw [plW_len]; exact h2) h1
  rw [plW_at] at this
  exact h.wdI h2 this
theorem TxtP.allS {l : List Pk} {n : Int} {who W : List Int} {s : ByteArray} (h : TxtP l n who s) (hl : W.length = (splitS 32 s).length) (hp : PartW (WdS l) (splitS 32 s) W) : W = who := by
  rw [h.cut] at hp hl
  rw [plW_len] at hl
  refine List.ext_getElem hl fun i h1 h2 => ?_
  have := hp.2 i (by rw [plW_len]; exact h2) h1
  rw [plW_at] at this
  exact h.wdS h2 this
theorem TxtP.len {l : List Pk} {n : Int} {who : List Int} {s : ByteArray} (h : TxtP l n who s) : ((splitS 32 s).length : Int) = n := by
  rw [h.cut, plW_len]; exact h.1.2.1
open Classical in
theorem wdI_ex (l : List Pk) (y : ByteArray) : ∃ r, WdI l y r := by
  by_cases h : ∃ i, i < l.length ∧ nmAt l i = nmI y
  · obtain ⟨i, h1, h2⟩ := h; exact ⟨i, .inl ⟨i, rfl, h1, h2⟩⟩
  · exact ⟨-1, .inr ⟨rfl, fun i hi e => h ⟨i, hi, e⟩⟩⟩
theorem TxtP.uniq {l : List Pk} {n : Int} {who who' : List Int} {s : ByteArray} (h : TxtP l n who s) (h' : TxtP l n who' s) : who = who' := by
  have e := h.cut.symm.trans h'.cut
  have hl : who.length = who'.length := by have := congrArg List.length e; simpa [plW_len] using this
  refine List.ext_getElem hl fun i h1 h2 => ?_
  obtain ⟨r, hr⟩ := wdI_ex l (plX l who i)
  have a := h.wdI h1 hr
  have e2 : plX l who i = plX l who' i := by
    have x1 := plW_at l who who.length i (by rw [plW_len]; exact h1)
    have x2 := plW_at l who' who'.length i (by rw [plW_len]; exact h2)
    rw [← x1, ← x2]
    simp only [e]
  rw [e2] at hr
  exact a.symm.trans (h'.wdI h2 hr)
end Go.Proofs.YtkblldbilofdgaaDoor
