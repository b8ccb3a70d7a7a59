import Derived.Test.YtbfhfnejppfehaaDoorMGainL33
import Derived.Test.YtbfhfnejppfehaaDoorMGainL31
import Derived.Test.YtbfhfnejppfehaaDoorShelf
import Derived.Test.YtbfhfnejppfehaaDoorMGainL32
/-
  Texts cut by the library (Split, Cut): contracts.
-/
namespace Go.Proofs.YtbfhfnejppfehaaDoor
open Go.RowKit
set_option linter.unusedVariables false
set_option linter.unusedSimpArgs false
set_option maxRecDepth 100000

theorem bytes_ext {a b : ByteArray} (h : a.data.toList = b.data.toList) : a = b := ByteArray.ext (Array.ext' h)
theorem data_mk (l : List UInt8) : (⟨l.toArray⟩ : ByteArray).data.toList = l := by simp
theorem data_app (a b : ByteArray) : (a ++ b).data.toList = a.data.toList ++ b.data.toList := by simp
theorem nums_data (n : Nat) : (numS n).data.toList = Lib.decDigits n := by simp [numS]
theorem RdL.firsts {α : Type} {w : World} {b : Nat} {A : Option Addr} {size : Nat} {enc : α → List Value} {l : List α} (h : RdL w b A size enc l) (m : Nat) : RdL w b A size enc (l.take m) := by
  rcases h with h | ⟨g, off, hA, hg, hc⟩
  · exact .inl (by subst h; simp)
  · refine .inr ⟨g, off, hA, hg, fun i hi j u hu => hc i (by simp at hi; omega) j u ?_⟩
    simpa using hu
/-- The library's variable MaxLen holds a number. -/
def Mlen (w : World) : Prop := ∃ m, w.cell? ⟨0, 0, none⟩ = some (.int .i64 m)
theorem Mlen.later {w w' : World} (h : Mlen w) (hb : Below w.heap.size w w') : Mlen w' := by
  obtain ⟨m, hm⟩ := h
  exact ⟨m, (hb.cell (World.block_lt_of_cell? _ _ hm)).trans hm⟩
def TabM (w : World) : Prop := Tab w ∧ Mlen w
theorem TabM.later {w w' : World} (h : TabM w) (hb : Below w.heap.size w w') : TabM w' := ⟨h.1.later hb, h.2.later hb⟩
theorem cut_len (c : UInt8) : ∀ s : List UInt8, (SplT.cutAt c s).length = s.count c + 1
  | [] => rfl
  | x :: r => by
    have ih := cut_len c r
    unfold SplT.cutAt
    split
    · rename_i h; subst h; simp [ih]
    · rename_i h
      rw [List.count_cons_of_ne (by simpa using h), ← ih]
      cases hc : SplT.cutAt c r with
      | nil => exact absurd hc (SplT.cutAt_ne c r)
      | cons p q => simp
theorem splitB_splitS (c : UInt8) (s : ByteArray) : Lib.splitB ⟨#[c]⟩ 0 (Lib.countB s ⟨#[c]⟩) s = splitS c s ∧ Lib.countB s ⟨#[c]⟩ + 1 = (splitS c s).length := by
  have e : Lib.countB s ⟨#[c]⟩ = s.data.toList.count c := Lib.count_one c _
  refine ⟨?_, by rw [e]; unfold splitS; rw [List.length_map, cut_len]⟩
  have h := Lib.splitB_data ⟨#[c]⟩ 0 (Lib.countB s ⟨#[c]⟩) s
  have h2 := SplT.split_cut c (Lib.countB s ⟨#[c]⟩) s.data.toList e.symm
  unfold splitS
  rw [← h2]
  have h3 : (Lib.splitB ⟨#[c]⟩ 0 (Lib.countB s ⟨#[c]⟩) s).map (fun b : ByteArray => b.data.toList) = Lib.splitK [c] 0 (Lib.countB s ⟨#[c]⟩) s.data.toList := h
  rw [← h3, List.map_map]
  conv => lhs; rw [← List.map_id (Lib.splitB ⟨#[c]⟩ 0 (Lib.countB s ⟨#[c]⟩) s)]
  exact List.map_congr_left fun x _ => bytes_ext (by simp)
theorem split_any (s : ByteArray) (ch : UInt8) (w : World) (hsz : s.size ≤ 1048576) (hm : Mlen w) :
    Calls Tryd.prog 57 #[.string s, .string ⟨#[ch]⟩] w fun e w' => e = .returned (.slice (some ⟨w.heap.size, 0, none⟩) (splitS ch s).length (splitS ch s).length) ∧ RdL w' w'.heap.size (some ⟨w.heap.size, 0, none⟩) 1 encString (splitS ch s) ∧ Below w.heap.size w w' := by
  obtain ⟨m, hm⟩ := hm
  refine (Tryd.strings_Split s ⟨#[ch]⟩ m w (by omega) hm (Nat.le_refl 1)).mono ?_
  rintro e w' ⟨rfl, rfl⟩
  obtain ⟨e1, e2⟩ := splitB_splitS ch s
  refine ⟨by rw [e2], ?_, (Below.refl _ _).alloc (Nat.le_refl _) _⟩
  rw [e1]
  refine .inr ⟨w.heap.size, 0, rfl, by simp, fun i hi j u hu => ?_⟩
  rw [World.cell?_alloc_new]
  have hj : j = 0 := by
    have := (List.getElem?_eq_some_iff.1 hu).1
    simp [encString] at this; omega
  subst hj
  simp [encString] at hu
  subst hu
  simp [hi]
theorem piece_len {c : UInt8} : ∀ (s p : List UInt8), p ∈ SplT.cutAt c s → p.length ≤ s.length
  | [], p, h => by simp [SplT.cutAt] at h; subst h; simp
  | x :: r, p, h => by
    unfold SplT.cutAt at h
    split at h
    · rcases List.mem_cons.1 h with rfl | h
      · simp
      · have := piece_len r p h; simp; omega
    · cases hc : SplT.cutAt c r with
      | nil => exact absurd hc (SplT.cutAt_ne c r)
      | cons q l =>
        rw [hc] at h
        simp only at h
        rcases List.mem_cons.1 h with rfl | h
        · have := piece_len r q (by rw [hc]; simp); simp; omega
        · have := piece_len r p (by rw [hc]; simp [h]); simp; omega
theorem piece_size {c : UInt8} {s p : ByteArray} (h : p ∈ splitS c s) : p.size ≤ s.size := by
  unfold splitS at h
  obtain ⟨l, hl, rfl⟩ := List.mem_map.1 h
  have := piece_len _ _ hl
  show l.toArray.size ≤ _
  rw [List.size_toArray]; exact this
theorem cut_hit (y : ByteArray) {ch : UInt8} {p r : List UInt8} (hy : y.data.toList = p ++ ch :: r) (hp : ch ∉ p) : Lib.cut y.data.toList (⟨#[ch]⟩ : ByteArray).data.toList = (p, r, true) := by
  rw [hy]; exact SplT.lib_cut_hit hp
theorem cut_miss (y : ByteArray) {ch : UInt8} (hy : ch ∉ y.data.toList) : Lib.cut y.data.toList (⟨#[ch]⟩ : ByteArray).data.toList = (y.data.toList, [], false) := SplT.lib_cut_no hy
theorem cutHit_any (y : ByteArray) (ch : UInt8) (p r : List UInt8) (hy : y.data.toList = p ++ ch :: r) (hp : ch ∉ p) (w : World) (hsz : y.size ≤ 1048576) (hm : Mlen w) :
    Calls Tryd.prog 59 #[.string y, .string ⟨#[ch]⟩] w fun e w' => e = .returned (.tuple #[.string ⟨p.toArray⟩, .string ⟨r.toArray⟩, .bool true]) ∧ Below w.heap.size w w' := by
  obtain ⟨m, hm⟩ := hm
  refine (Tryd.strings_Cut y ⟨#[ch]⟩ m w (by omega) hm).mono ?_
  rintro e w' ⟨rfl, n, rfl⟩
  rw [cut_hit y hy hp]
  exact ⟨rfl, below_drewN (Below.refl _ _) _⟩
theorem cutMiss_any (y : ByteArray) {ch : UInt8} (hy : ch ∉ y.data.toList) (w : World) (hsz : y.size ≤ 1048576) (hm : Mlen w) :
    Calls Tryd.prog 59 #[.string y, .string ⟨#[ch]⟩] w fun e w' => e = .returned (.tuple #[.string y, .string ⟨#[]⟩, .bool false]) ∧ Below w.heap.size w w' := by
  obtain ⟨m, hm⟩ := hm
  refine (Tryd.strings_Cut y ⟨#[ch]⟩ m w (by omega) hm).mono ?_
  rintro e w' ⟨rfl, n, rfl⟩
  rw [cut_miss y hy]
  exact ⟨rfl, below_drewN (Below.refl _ _) _⟩
end Go.Proofs.YtbfhfnejppfehaaDoor

/-
  ReadPlacing, plain: the text of a placing is cut into its words, and read back.
-/
namespace Go.Proofs.YtbfhfnejppfehaaDoor
open Go.RowKit
set_option linter.unusedVariables false
set_option linter.unusedSimpArgs false
set_option maxRecDepth 100000

theorem glue_snoc (c : UInt8) (x : List UInt8) : ∀ l : List (List UInt8), l ≠ [] → SplT.glue c (l ++ [x]) = SplT.glue c l ++ c :: x
  | [], h => absurd rfl h
  | [p], _ => rfl
  | p :: q :: r, _ => by
    have ih := glue_snoc c x (q :: r) (by simp)
    rw [List.cons_append, SplT.glue_cons c p (by simp), ih, SplT.glue_cons c p (by simp)]; simp
theorem cut_glue (c : UInt8) : ∀ l : List (List UInt8), l ≠ [] → (∀ p ∈ l, c ∉ p) → SplT.cutAt c (SplT.glue c l) = l
  | [], h, _ => absurd rfl h
  | [p], _, h => SplT.cutAt_none (h p (by simp))
  | p :: q :: r, _, h => by
    have ih := cut_glue c (q :: r) (by simp) (fun x hx => h x (by simp [hx]))
    rw [SplT.glue_cons c p (by simp), SplT.cutAt_hit _ (h p (by simp)), ih]
theorem plX_data (l : List Pk) (who : List Int) (k : Nat) : (plX l who k).data.toList = Lib.decDigits (k + 1) ++ 58 :: (nmAt l (who.getD k 0).toNat).data.toList := by
  unfold plX
  rw [data_app, data_app, nums_data]; simp
theorem plTo_data (l : List Pk) (who : List Int) : ∀ k, (plTo l who (k + 1)).data.toList = SplT.glue 32 ((plW l who (k + 1)).map fun x : ByteArray => x.data.toList)
  | 0 => by
    have e : plTo l who (0 + 1) = plTo l who 0 ++ plX l who 0 := by simp [plTo]
    have e2 : plTo l who 0 = ⟨#[]⟩ := rfl
    rw [e, e2, data_app, plW_succ]
    have : plW l who 0 = [] := rfl
    rw [this]; simp [SplT.glue]
  | k + 1 => by
    have ih := plTo_data l who k
    have e : plTo l who (k + 1 + 1) = (plTo l who (k + 1) ++ ⟨#[32]⟩) ++ plX l who (k + 1) := by conv => lhs; rw [plTo]; rw [if_neg (by omega)]
    rw [e, data_app, data_app, ih, plW_succ l who (k + 1), List.map_append, List.map_singleton, glue_snoc]
    · simp
    · intro h
      have h1 := congrArg List.length h
      rw [List.length_map, plW_len] at h1
      simp at h1
theorem wordP_no {s : ByteArray} (h : isWordP s) : (32 : UInt8) ∉ s.data.toList ∧ (58 : UInt8) ∉ s.data.toList := by
  refine ⟨fun hm => ?_, fun hm => ?_⟩
  all_goals
    obtain ⟨i, hi, e⟩ := List.getElem_of_mem hm
    have h1 := h.1 i hi
    rw [bat_get hi, e] at h1
    unfold wordByte at h1
    revert h1; decide
theorem digs_no (n : Nat) : (32 : UInt8) ∉ Lib.decDigits n ∧ (58 : UInt8) ∉ Lib.decDigits n := by
  have h := (SplT.dec_canon n).1.2.1
  refine ⟨fun hm => ?_, fun hm => ?_⟩
  all_goals
    have := h _ hm
    unfold SplT.isDig at this
    revert this; decide
/-- A valid placing and its text. -/
def TxtP (l : List Pk) (n : Int) (who : List Int) (s : ByteArray) : Prop := placingP l n who ∧ plTo l who who.length = s ∧ s.size ≤ 200
theorem TxtP.seat {l : List Pk} {n : Int} {who : List Int} {s : ByteArray} (h : TxtP l n who s) {k : Nat} (hk : k < who.length) : ∃ i : Nat, i < l.length ∧ who[k] = (i : Int) ∧ isWordP (nmAt l i) ∧ (who.getD k 0).toNat = i := by
  obtain ⟨i, h1, h2, _⟩ := seats_at h.1.1 h.1.2.1 h.1.2.2 hk
  have e : who.getD k 0 = (i : Int) := by rw [List.getD_eq_getElem?_getD, List.getElem?_eq_getElem hk, h2]; rfl
  exact ⟨i, h1, h2, (h.1.1.2.2 i h1).1, by rw [e, Int.toNat_natCast]⟩
theorem plW_at (l : List Pk) (who : List Int) (n k : Nat) (h : k < (plW l who n).length) : (plW l who n)[k] = plX l who k := by simp [plW]
theorem TxtP.cut {l : List Pk} {n : Int} {who : List Int} {s : ByteArray} (h : TxtP l n who s) : splitS 32 s = plW l who who.length := by
  have h3 : 3 ≤ n := h.1.1.1.1
  have hn := h.1.2.1
  obtain ⟨m, hm⟩ : ∃ m, who.length = m + 1 := ⟨who.length - 1, by omega⟩
  unfold splitS
  rw [← h.2.1, hm, plTo_data, cut_glue, List.map_map]
  · conv => rhs; rw [← List.map_id (plW l who (m + 1))]
    exact List.map_congr_left fun x _ => bytes_ext (by simp)
  · intro e
    have h1 := congrArg List.length e
    rw [List.length_map, plW_len] at h1
    simp at h1
  · intro p hp
    obtain ⟨x, hx, rfl⟩ := List.mem_map.1 hp
    obtain ⟨k, hk, rfl⟩ := List.getElem_of_mem hx
    rw [plW_at]
    rw [plW_len] at hk
    obtain ⟨i, h1, h2, h4, h5⟩ := h.seat (k := k) (by omega)
    rw [plX_data, h5]
    intro hm'
    rcases List.mem_append.1 hm' with h6 | h6
    · exact (digs_no _).1 h6
    · rcases List.mem_cons.1 h6 with e | h6
      · revert e; decide
      · exact (wordP_no h4).1 h6
/-- Names are apart. -/
theorem names_apart {l : List Pk} {n : Int} (h : peopleP l n) {i j : Nat} (hi : i < l.length) (hj : j < l.length) (e : nmAt l i = nmAt l j) : i = j := by
  rcases Nat.lt_trichotomy i j with h1 | h1 | h1
  · exact absurd e ((h.2.2 j hj).2.2.2 i h1)
  · exact h1
  · exact absurd e.symm ((h.2.2 i hi).2.2.2 j h1)
/-- The program's reading of a word: the name behind the first colon. -/
def nmI (y : ByteArray) : ByteArray := ⟨(Lib.cut y.data.toList (⟨#[58]⟩ : ByteArray).data.toList).2.1.toArray⟩
def WdI (l : List Pk) (y : ByteArray) (r : Int) : Prop := (∃ i : Nat, r = (i : Int) ∧ i < l.length ∧ nmAt l i = nmI y) ∨ (r = -1 ∧ ∀ i, i < l.length → nmAt l i ≠ nmI y)
def WdS (l : List Pk) (y : ByteArray) (r : Int) : Prop := (∃ i : Nat, r = (i : Int) ∧ i < l.length ∧ ∃ a, splitS 58 y = [a, nmAt l i]) ∨ (r = -1 ∧ ∀ i, i < l.length → ¬ ∃ a, splitS 58 y = [a, nmAt l i])
theorem TxtP.wdI {l : List Pk} {n : Int} {who : List Int} {s : ByteArray} (h : TxtP l n who s) {k : Nat} (hk : k < who.length) {r : Int} (hr : WdI l (plX l who k) r) : r = who[k] := by
  obtain ⟨i, h1, h2, h3, h4⟩ := h.seat hk
  have e : nmI (plX l who k) = nmAt l i := by
    unfold nmI
    rw [plX_data, h4, show (⟨#[58]⟩ : ByteArray).data.toList = [58] from rfl, SplT.lib_cut_hit (digs_no _).2]
  rw [WdI, e] at hr
  rcases hr with ⟨j, rfl, hj, e2⟩ | ⟨_, hno⟩
  · rw [h2, names_apart h.1.1 hj h1 e2]
  · exact absurd rfl (hno i h1)
theorem TxtP.wdS {l : List Pk} {n : Int} {who : List Int} {s : ByteArray} (h : TxtP l n who s) {k : Nat} (hk : k < who.length) {r : Int} (hr : WdS l (plX l who k) r) : r = who[k] := by
  obtain ⟨i, h1, h2, h3, h4⟩ := h.seat hk
  have e : splitS 58 (plX l who k) = [numS (k + 1), nmAt l i] := by
    unfold splitS
    rw [plX_data, h4, SplT.cutAt_hit _ (digs_no _).2, SplT.cutAt_none (wordP_no h3).2]
    simp only [List.map_cons, List.map_nil]
    exact congr (congrArg List.cons (bytes_ext (by simp [numS]))) (congrArg (fun x => [x]) (bytes_ext (by simp)))
  rw [WdS, e] at hr
  rcases hr with ⟨j, rfl, hj, a, e2⟩ | ⟨_, hno⟩
  · simp only [List.cons.injEq, and_true] at e2
    rw [h2, names_apart h.1.1 h1 hj e2.2]
  · exact absurd ⟨_, rfl⟩ (hno i h1)
/-- Words read so far. -/
def PartW (R : ByteArray → Int → Prop) (L : List ByteArray) (W : List Int) : Prop := W.length ≤ L.length ∧ ∀ i (h1 : i < L.length) (h2 : i < W.length), R L[i] W[i]
theorem PartW.nil {R : ByteArray → Int → Prop} {L : List ByteArray} : PartW R L [] := ⟨by simp, fun i _ h => by simp at h⟩
theorem PartW.snoc {R : ByteArray → Int → Prop} {L : List ByteArray} {l : List Int} (h : PartW R L l) {k : Nat} (hk : l.length = k) (hlt : k < L.length) {x : Int} (hx : R (L[k]'hlt) x) : PartW R L (l ++ [x]) := by
  subst hk
  refine ⟨by simp; omega, fun i h1 h2 => ?_⟩
  by_cases hi : i < l.length
  · rw [List.getElem_append_left hi]; exact h.2 i h1 hi
  · have : i = l.length := by simp at h2; omega
    subst this
    rw [List.getElem_append_right (Nat.le_refl _)]
    simpa using hx
theorem TxtP.allI {l : List Pk} {n : Int} {who W : List Int} {s : ByteArray} (h : TxtP l n who s) (hl : W.length = (splitS 32 s).length) (hp : PartW (WdI l) (splitS 32 s) W) : W = who := by
  rw [h.cut] at hp hl
  rw [plW_len] at hl
  refine List.ext_getElem hl fun i h1 h2 => ?_
  have := hp.2 i (by rw [plW_len]; exact h2) h1
  rw [plW_at] at this
  exact h.wdI h2 this
theorem TxtP.allS {l : List Pk} {n : Int} {who W : List Int} {s : ByteArray} (h : TxtP l n who s) (hl : W.length = (splitS 32 s).length) (hp : PartW (WdS l) (splitS 32 s) W) : W = who := by
  rw [h.cut] at hp hl
  rw [plW_len] at hl
  refine List.ext_getElem hl fun i h1 h2 => ?_
  have := hp.2 i (by rw [plW_len]; exact h2) h1
  rw [plW_at] at this
  exact h.wdS h2 this
theorem TxtP.len {l : List Pk} {n : Int} {who : List Int} {s : ByteArray} (h : TxtP l n who s) : ((splitS 32 s).length : Int) = n := by
  rw [h.cut, plW_len]; exact h.1.2.1
open Classical in
theorem wdI_ex (l : List Pk) (y : ByteArray) : ∃ r, WdI l y r := by
  by_cases h : ∃ i, i < l.length ∧ nmAt l i = nmI y
  · obtain ⟨i, h1, h2⟩ := h; exact ⟨i, .inl ⟨i, rfl, h1, h2⟩⟩
  · exact ⟨-1, .inr ⟨rfl, fun i hi e => h ⟨i, hi, e⟩⟩⟩
theorem TxtP.uniq {l : List Pk} {n : Int} {who who' : List Int} {s : ByteArray} (h : TxtP l n who s) (h' : TxtP l n who' s) : who = who' := by
  have e := h.cut.symm.trans h'.cut
  have hl : who.length = who'.length := by have := congrArg List.length e; simpa [plW_len] using this
  refine List.ext_getElem hl fun i h1 h2 => ?_
  obtain ⟨r, hr⟩ := wdI_ex l (plX l who i)
  have a := h.wdI h1 hr
  have e2 : plX l who i = plX l who' i := by
    have x1 := plW_at l who who.length i (by rw [plW_len]; exact h1)
    have x2 := plW_at l who' who'.length i (by rw [plW_len]; exact h2)
    rw [← x1, ← x2]
    simp only [e]
  rw [e2] at hr
  exact a.symm.trans (h'.wdI h2 hr)
end Go.Proofs.YtbfhfnejppfehaaDoor
