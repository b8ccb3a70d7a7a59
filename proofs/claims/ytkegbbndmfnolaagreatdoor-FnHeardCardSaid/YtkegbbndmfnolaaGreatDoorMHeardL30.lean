import Derived.Test.YtkegbbndmfnolaaGreatDoorMHeardL28
import Derived.Test.YtkegbbndmfnolaaGreatDoorMHeardL27
import Derived.Test.YtkegbbndmfnolaaGreatDoorMHeardLSh
import Derived.Test.YtkegbbndmfnolaaGreatDoorMHeardL29
/-
  Texts cut by the library (Split, Cut): contracts.
-/
namespace Go.Proofs.YtkegbbndmfnolaaGreatDoor
open Go.RowKit
set_option linter.unusedVariables false
set_option linter.unusedSimpArgs false
set_option maxRecDepth 100000

theorem bytes_ext {a b : ByteArray} (h : a.data.toList = b.data.toList) : a = b := ByteArray.ext (Array.ext' h)
theorem data_app (a b : ByteArray) : (a ++ b).data.toList = a.data.toList ++ b.data.toList := by simp
theorem nums_data (n : Nat) : (numS n).data.toList = Lib.decDigits n := by simp [numS]
theorem RdL.firsts {α : Type} {w : World} {b : Nat} {A : Option Addr} {size : Nat} {enc : α → List Value} {l : List α} (h : RdL w b A size enc l) (m : Nat) : RdL w b A size enc (l.take m) := by
  rcases h with h | ⟨g, off, hA, hg, hc⟩
  · exact .inl (by subst h; simp)
  · refine .inr ⟨g, off, hA, hg, fun i hi j u hu => hc i (by simp at hi; omega) j u ?_⟩
    simpa using hu
/-- The library's variable MaxLen holds a number. -/
def Mlen (w : World) : Prop := ∃ m, w.cell? ⟨0, 0, none⟩ = some (.int .i64 m)
theorem Mlen.later {w w' : World} (h : Mlen w) (hb : Below w.heap.size w w') : Mlen w' := by
  obtain ⟨m, hm⟩ := h
  exact ⟨m, (hb.cell (World.block_lt_of_cell? _ _ hm)).trans hm⟩
def TabM (w : World) : Prop := Tab w ∧ Mlen w
theorem TabM.later {w w' : World} (h : TabM w) (hb : Below w.heap.size w w') : TabM w' := ⟨h.1.later hb, h.2.later hb⟩
theorem cut_len (c : UInt8) : ∀ s : List UInt8, (SplT.cutAt c s).length = s.count c + 1
  | [] => rfl
  | x :: r => by
    have ih := cut_len c r
    unfold SplT.cutAt
    split
    · rename_i h; subst h; simp [ih]
    · rename_i h
      rw [List.count_cons_of_ne (by simpa using h), ← ih]
      cases hc : SplT.cutAt c r with
      | nil => exact absurd hc (SplT.cutAt_ne c r)
      | cons p q => simp
theorem splitB_splitS (c : UInt8) (s : ByteArray) : Lib.splitB ⟨#[c]⟩ 0 (Lib.countB s ⟨#[c]⟩) s = splitS c s ∧ Lib.countB s ⟨#[c]⟩ + 1 = (splitS c s).length := by
  have e : Lib.countB s ⟨#[c]⟩ = s.data.toList.count c := Lib.count_one c _
  refine ⟨?_, by rw [e]; unfold splitS; rw [List.length_map, cut_len]⟩
  have h := Lib.splitB_data ⟨#[c]⟩ 0 (Lib.countB s ⟨#[c]⟩) s
  have h2 := SplT.split_cut c (Lib.countB s ⟨#[c]⟩) s.data.toList e.symm
  unfold splitS
  rw [← h2]
  have h3 : (Lib.splitB ⟨#[c]⟩ 0 (Lib.countB s ⟨#[c]⟩) s).map (fun b : ByteArray => b.data.toList) = Lib.splitK [c] 0 (Lib.countB s ⟨#[c]⟩) s.data.toList := h
  rw [← h3, List.map_map]
  conv => lhs; rw [← List.map_id (Lib.splitB ⟨#[c]⟩ 0 (Lib.countB s ⟨#[c]⟩) s)]
  exact List.map_congr_left fun x _ => bytes_ext (by simp)
theorem split_any (s : ByteArray) (ch : UInt8) (w : World) (hsz : s.size ≤ 1048576) (hm : Mlen w) :
    Calls Tryz.prog 141 #[.string s, .string ⟨#[ch]⟩] w fun e w' => e = .returned (.slice (some ⟨w.heap.size, 0, none⟩) (splitS ch s).length (splitS ch s).length) ∧ RdL w' w'.heap.size (some ⟨w.heap.size, 0, none⟩) 1 encString (splitS ch s) ∧ Below w.heap.size w w' := by
  obtain ⟨m, hm⟩ := hm
  refine (Tryz.strings_Split s ⟨#[ch]⟩ m w (by omega) hm (Nat.le_refl 1)).mono ?_
  rintro e w' ⟨rfl, rfl⟩
  obtain ⟨e1, e2⟩ := splitB_splitS ch s
  refine ⟨by rw [e2], ?_, (Below.refl _ _).alloc (Nat.le_refl _) _⟩
  rw [e1]
  refine .inr ⟨w.heap.size, 0, rfl, by simp, fun i hi j u hu => ?_⟩
  rw [World.cell?_alloc_new]
  have hj : j = 0 := by
    have := (List.getElem?_eq_some_iff.1 hu).1
    simp [encString] at this; omega
  subst hj
  simp [encString] at hu
  subst hu
  simp [hi]
theorem piece_len {c : UInt8} : ∀ (s p : List UInt8), p ∈ SplT.cutAt c s → p.length ≤ s.length
  | [], p, h => by simp [SplT.cutAt] at h; subst h; simp
  | x :: r, p, h => by
    unfold SplT.cutAt at h
    split at h
    · rcases List.mem_cons.1 h with rfl | h
      · simp
      · have := piece_len r p h; simp; omega
    · cases hc : SplT.cutAt c r with
      | nil => exact absurd hc (SplT.cutAt_ne c r)
      | cons q l =>
        rw [hc] at h
        simp only at h
        rcases List.mem_cons.1 h with rfl | h
        · have := piece_len r q (by rw [hc]; simp); simp; omega
        · have := piece_len r p (by rw [hc]; simp [h]); simp; omega
theorem piece_size {c : UInt8} {s p : ByteArray} (h : p ∈ splitS c s) : p.size ≤ s.size := by
  unfold splitS at h
  obtain ⟨l, hl, rfl⟩ := List.mem_map.1 h
  have := piece_len _ _ hl
  show l.toArray.size ≤ _
  rw [List.size_toArray]; exact this
theorem cut_hit (y : ByteArray) {ch : UInt8} {p r : List UInt8} (hy : y.data.toList = p ++ ch :: r) (hp : ch ∉ p) : Lib.cut y.data.toList (⟨#[ch]⟩ : ByteArray).data.toList = (p, r, true) := by
  rw [hy]; exact SplT.lib_cut_hit hp
theorem cut_miss (y : ByteArray) {ch : UInt8} (hy : ch ∉ y.data.toList) : Lib.cut y.data.toList (⟨#[ch]⟩ : ByteArray).data.toList = (y.data.toList, [], false) := SplT.lib_cut_no hy
theorem cutHit_any (y : ByteArray) (ch : UInt8) (p r : List UInt8) (hy : y.data.toList = p ++ ch :: r) (hp : ch ∉ p) (w : World) (hsz : y.size ≤ 1048576) (hm : Mlen w) :
    Calls Tryz.prog 90 #[.string y, .string ⟨#[ch]⟩] w fun e w' => e = .returned (.tuple #[.string ⟨p.toArray⟩, .string ⟨r.toArray⟩, .bool true]) ∧ Below w.heap.size w w' := by
  obtain ⟨m, hm⟩ := hm
  refine (Tryz.strings_Cut y ⟨#[ch]⟩ m w (by omega) hm).mono ?_
  rintro e w' ⟨rfl, n, rfl⟩
  rw [cut_hit y hy hp]
  exact ⟨rfl, below_drewN (Below.refl _ _) _⟩
theorem cutMiss_any (y : ByteArray) {ch : UInt8} (hy : ch ∉ y.data.toList) (w : World) (hsz : y.size ≤ 1048576) (hm : Mlen w) :
    Calls Tryz.prog 90 #[.string y, .string ⟨#[ch]⟩] w fun e w' => e = .returned (.tuple #[.string y, .string ⟨#[]⟩, .bool false]) ∧ Below w.heap.size w w' := by
  obtain ⟨m, hm⟩ := hm
  refine (Tryz.strings_Cut y ⟨#[ch]⟩ m w (by omega) hm).mono ?_
  rintro e w' ⟨rfl, n, rfl⟩
  rw [cut_miss y hy]
  exact ⟨rfl, below_drewN (Below.refl _ _) _⟩
end Go.Proofs.YtkegbbndmfnolaaGreatDoor

/-
  ReadSpoken, plain: the text of a good list is cut into its lines, and read back.
-/
namespace Go.Proofs.YtkegbbndmfnolaaGreatDoor
open Go.RowKit
set_option linter.unusedVariables false
set_option linter.unusedSimpArgs false
set_option maxRecDepth 100000

/-- The line of a spoken word. -/
def lineB (x : Spk) : ByteArray := (numS x.row.toNat ++ ⟨#[32]⟩) ++ x.word
theorem lineB_data (x : Spk) : (lineB x).data.toList = Lib.decDigits x.row.toNat ++ 32 :: x.word.data.toList := by
  unfold lineB
  rw [data_app, data_app, nums_data]; simp
theorem spkTo_data (l : List Spk) : ∀ k, k ≤ l.length → (spkTo l k).data.toList = SplT.lines 10 ((l.take k).map fun x => (lineB x).data.toList)
  | 0, _ => by simp [spkTo, SplT.lines]
  | k + 1, h => by
    have hk : k < l.length := h
    rw [spkTo_succ hk, data_app, spkTo_data l k (by omega), List.take_succ_eq_append_getElem hk, List.map_append]
    have : (((numS l[k].row.toNat ++ ⟨#[32]⟩) ++ l[k].word) ++ (⟨#[10]⟩ : ByteArray)).data.toList = (lineB l[k]).data.toList ++ [10] := by rw [data_app]; rfl
    rw [this]
    simp [SplT.lines]
theorem word_no {s : ByteArray} (h : spokenP s) : (10 : UInt8) ∉ s.data.toList ∧ (32 : UInt8) ∉ s.data.toList := by
  unfold spokenP spokenWords at h
  simp only [List.mem_cons, List.mem_nil_iff, or_false] at h
  rcases h with rfl | rfl | rfl | rfl | rfl <;> decide
theorem dig_no (n : Nat) : (10 : UInt8) ∉ Lib.decDigits n ∧ (32 : UInt8) ∉ Lib.decDigits n := by
  have h := (SplT.dec_canon n).1.2.1
  refine ⟨fun hm => ?_, fun hm => ?_⟩
  all_goals
    have := h _ hm
    unfold SplT.isDig at this
    revert this; decide
theorem dec_len : ∀ (k n : Nat), n < 10 ^ (k + 1) → (Lib.decDigits n).length ≤ k + 1
  | 0, n, h => by rw [Lib.decDigits_one (by omega)]; simp
  | k + 1, n, h => by
    by_cases hn : n < 10
    · rw [Lib.decDigits_one hn]; simp
    · rw [Lib.decDigits, dif_neg hn, List.length_append, List.length_singleton]
      have := dec_len k (n / 10) (by rw [Nat.pow_succ] at h; omega)
      omega
theorem nums_num {n : Nat} {most : Int} (h : n < 10000) (hm : 4 ≤ most) : numP (numS n) most ∧ numN (numS n) = n := by
  have h1 := SplT.dec_canon n
  have h2 : (numS n).size = (Lib.decDigits n).length := by rw [← nums_data]; rfl
  have h3 := dec_len 3 n (by simpa using h)
  exact ⟨⟨by rw [h2]; omega, by rw [nums_data]; exact h1.1⟩, by unfold numN; rw [nums_data]; exact h1.2⟩
theorem num_back {s : ByteArray} {most : Int} (h : numP s most) : numS (numN s) = s := by
  apply bytes_ext
  rw [nums_data]
  exact SplT.canon_dec h.2
/-- A good list and its text. -/
def TxtOf (l : List Spk) (s : ByteArray) : Prop := spokenLP l ∧ spkTo l l.length = s
theorem TxtOf.good {l : List Spk} {s : ByteArray} (h : TxtOf l s) {i : Nat} (hi : i < l.length) : 0 ≤ l[i].row ∧ l[i].row ≤ 3000 ∧ spokenP l[i].word := by
  obtain ⟨⟨a, b⟩, c, _⟩ := h.1.2 i hi
  exact ⟨a, b, c⟩
theorem TxtOf.cut {l : List Spk} {s : ByteArray} (h : TxtOf l s) : splitS 10 s = l.map lineB ++ [⟨#[]⟩] := by
  unfold splitS
  rw [← h.2, spkTo_data l _ (Nat.le_refl _), List.take_length, SplT.cut_lines, List.map_append, List.map_map]
  · congr 1
  · intro p hp
    obtain ⟨x, hx, rfl⟩ := List.mem_map.1 hp
    obtain ⟨i, hi, rfl⟩ := List.getElem_of_mem hx
    rw [lineB_data]
    intro hm
    rcases List.mem_append.1 hm with hm | hm
    · exact (dig_no _).1 hm
    · rcases List.mem_cons.1 hm with e | hm
      · revert e; decide
      · exact (word_no (h.good hi).2.2).1 hm
theorem TxtOf.two {l : List Spk} {s : ByteArray} {L : List ByteArray} {z : ByteArray} (h : TxtOf l s) (hs : splitS 10 s = L ++ [z]) : L = l.map lineB ∧ z = ⟨#[]⟩ := by
  have e := hs.symm.trans h.cut
  obtain ⟨e1, e2⟩ := List.append_inj' e rfl
  exact ⟨e1, by simpa using e2⟩
/-- The program's reading of a line. -/
def LnI (y : ByteArray) (x : Spk) : Prop := ∃ p r, y.data.toList = p ++ 32 :: r ∧ (32 : UInt8) ∉ p ∧ numP ⟨p.toArray⟩ 4 ∧ x.row = (numN ⟨p.toArray⟩ : Int) ∧ x.word = ⟨r.toArray⟩
theorem at_first {c : UInt8} : ∀ {p r p' r' : List UInt8}, p ++ c :: r = p' ++ c :: r' → c ∉ p → c ∉ p' → p = p' ∧ r = r'
  | [], r, [], r', h, _, _ => by simpa using h
  | [], r, y :: p', r', h, _, h2 => by simp at h; exact absurd (by simp [h.1]) h2
  | x :: p, r, [], r', h, h1, _ => by simp at h; exact absurd (by simp [h.1]) h1
  | x :: p, r, y :: p', r', h, h1, h2 => by
    simp only [List.cons_append, List.cons.injEq] at h
    obtain ⟨a, b⟩ := at_first h.2 (fun hm => h1 (List.mem_cons_of_mem _ hm)) (fun hm => h2 (List.mem_cons_of_mem _ hm))
    exact ⟨by rw [h.1, a], b⟩
theorem LnI.det {y : ByteArray} {x x' : Spk} (h : LnI y x) (h' : LnI y x') : x = x' := by
  obtain ⟨p, r, a1, a2, a3, a4, a5⟩ := h
  obtain ⟨p', r', b1, b2, b3, b4, b5⟩ := h'
  obtain ⟨rfl, rfl⟩ := at_first (a1.symm.trans b1) a2 b2
  cases x; cases x'
  simp only at a4 a5 b4 b5
  rw [a4, a5, b4, b5]
theorem LnI.line {x : Spk} (h0 : 0 ≤ x.row) (h1 : x.row ≤ 3000) : LnI (lineB x) x := by
  have h := nums_num (n := x.row.toNat) (most := 4) (by omega) (by omega)
  have e : (⟨(Lib.decDigits x.row.toNat).toArray⟩ : ByteArray) = numS x.row.toNat := rfl
  exact ⟨_, _, lineB_data x, (dig_no _).2, by rw [e]; exact h.1, by rw [e, h.2]; omega, bytes_ext (by simp)⟩
theorem LnI.back {y : ByteArray} {x : Spk} (h : LnI y x) : lineB x = y := by
  obtain ⟨p, r, a1, a2, a3, a4, a5⟩ := h
  apply bytes_ext
  rw [lineB_data, a4, Int.toNat_natCast, a5, ← nums_data, num_back a3, a1]
theorem TxtOf.ofI {L : List ByteArray} {s : ByteArray} {l : List Spk} (hs : splitS 10 s = L ++ [⟨#[]⟩]) (hl : l.length = L.length) (h : ∀ i (h1 : i < L.length) (h2 : i < l.length), LnI L[i] l[i]) (hg : spokenLP l) : TxtOf l s := by
  refine ⟨hg, bytes_ext ?_⟩
  rw [spkTo_data l _ (Nat.le_refl _), List.take_length, ← SplT.glue_lines]
  have e : SplT.cutAt 10 s.data.toList = (l.map fun x => (lineB x).data.toList) ++ [[]] := by
    have e1 : (splitS 10 s).map (fun b : ByteArray => b.data.toList) = SplT.cutAt 10 s.data.toList := by
      unfold splitS
      rw [List.map_map]
      conv => rhs; rw [← List.map_id (SplT.cutAt 10 s.data.toList)]
      exact List.map_congr_left fun x _ => by simp
    rw [← e1, hs, List.map_append]
    congr 1
    refine List.ext_getElem (by simp [hl]) fun i h1 h2 => ?_
    simp only [List.length_map] at h1 h2
    simp only [List.getElem_map]
    rw [(h i h1 h2).back]
  rw [← e, SplT.glue_cut]
/-- The reference's reading of a line. -/
def LnS (y : ByteArray) (x : Spk) : Prop := ∃ a b, splitS 32 y = [a, b] ∧ x.row = readV a ∧ x.word = b
theorem LnS.det {y : ByteArray} {x x' : Spk} (h : LnS y x) (h' : LnS y x') : x = x' := by
  obtain ⟨a, b, a1, a2, a3⟩ := h
  obtain ⟨a', b', b1, b2, b3⟩ := h'
  have e := a1.symm.trans b1
  simp only [List.cons.injEq, and_true] at e
  cases x; cases x'
  simp only at a2 a3 b2 b3
  rw [a2, a3, b2, b3, e.1, e.2]
theorem LnS.line {x : Spk} (h0 : 0 ≤ x.row) (h1 : x.row ≤ 3000) (hw : spokenP x.word) : LnS (lineB x) x := by
  have h := nums_num (n := x.row.toNat) (most := 6) (by omega) (by omega)
  refine ⟨numS x.row.toNat, x.word, ?_, by rw [readV_t h.1, h.2]; omega, rfl⟩
  unfold splitS
  rw [lineB_data, SplT.cutAt_hit _ (dig_no _).2, SplT.cutAt_none (word_no hw).2]
  simp only [List.map_cons, List.map_nil]
  exact congr (congrArg List.cons (bytes_ext (by simp [numS]))) (congrArg (fun x => [x]) (bytes_ext (by simp)))
theorem same_list {R : ByteArray → Spk → Prop} (hdet : ∀ y x x', R y x → R y x' → x = x') {L : List ByteArray} {l l' : List Spk} (hl : l.length = L.length) (hl' : l'.length = L.length) (h : ∀ i (h1 : i < L.length) (h2 : i < l.length), R L[i] l[i]) (h' : ∀ i (h1 : i < L.length) (h2 : i < l'.length), R L[i] l'[i]) : l = l' :=
  List.ext_getElem (by omega) fun i h1 h2 => hdet _ _ _ (h i (by omega) h1) (h' i (by omega) h2)
theorem TxtOf.rdI {l : List Spk} {s : ByteArray} {L : List ByteArray} {z : ByteArray} (h : TxtOf l s) (hs : splitS 10 s = L ++ [z]) : l.length = L.length ∧ ∀ i (h1 : i < L.length) (h2 : i < l.length), LnI L[i] l[i] := by
  obtain ⟨rfl, _⟩ := h.two hs
  refine ⟨by simp, fun i h1 h2 => ?_⟩
  rw [List.getElem_map]
  exact LnI.line (h.good h2).1 (h.good h2).2.1
theorem TxtOf.rdS {l : List Spk} {s : ByteArray} {L : List ByteArray} {z : ByteArray} (h : TxtOf l s) (hs : splitS 10 s = L ++ [z]) : l.length = L.length ∧ ∀ i (h1 : i < L.length) (h2 : i < l.length), LnS L[i] l[i] := by
  obtain ⟨rfl, _⟩ := h.two hs
  refine ⟨by simp, fun i h1 h2 => ?_⟩
  rw [List.getElem_map]
  exact LnS.line (h.good h2).1 (h.good h2).2.1 (h.good h2).2.2
theorem TxtOf.uniq {l l' : List Spk} {s : ByteArray} (h : TxtOf l s) (h' : TxtOf l' s) : l = l' := by
  have a := h.rdI h.cut
  have b := h'.rdI h.cut
  exact same_list (R := LnI) (fun _ _ _ => LnI.det) a.1 b.1 a.2 b.2
theorem split_two (c : UInt8) (s : ByteArray) : ∃ L z, splitS c s = L ++ [z] :=
  ⟨_, _, (List.dropLast_concat_getLast (l := splitS c s) (fun e => by have := splitS_len c s; rw [e] at this; simp at this)).symm⟩
end Go.Proofs.YtkegbbndmfnolaaGreatDoor
