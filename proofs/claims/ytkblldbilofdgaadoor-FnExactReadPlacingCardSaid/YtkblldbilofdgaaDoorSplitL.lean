/-
  Texts cut by the library (Split, Cut): contracts.
-/
import Derived.Test.YtkblldbilofdgaaDoorSplitW
import Derived.Test.YtkblldbilofdgaaDoorItoa
import Derived.Test.YtkblldbilofdgaaDoorShelf
namespace Go.Proofs.YtkblldbilofdgaaDoor
open Go.RowKit
set_option linter.unusedVariables false
set_option linter.unusedSimpArgs false
set_option maxRecDepth 100000

theorem bytes_ext {a b : ByteArray} (h : a.data.toList = b.data.toList) : a = b := ByteArray.ext (Array.ext' h)
theorem data_mk (l : List UInt8) : (⟨l.toArray⟩ : ByteArray).data.toList = l := by simp
theorem data_app (a b : ByteArray) : (a ++ b).data.toList = a.data.toList ++ b.data.toList := by simp
theorem nums_data (n : Nat) : (numS n).data.toList = Lib.decDigits n := by simp [numS]
theorem RdL.firsts {α : Type} {w : World} {b : Nat} {A : Option Addr} {size : Nat} {enc : α → List Value} {l : List α} (h : RdL w b A size enc l) (m : Nat) : RdL w b A size enc (l.take m) := by
  rcases h with h | ⟨g, off, hA, hg, hc⟩
  · exact .inl (by subst h; simp)
  · refine .inr ⟨g, off, hA, hg, fun i hi j u hu => hc i (by simp at hi; omega) j u ?_⟩
    simpa using hu
/-- The library's variable MaxLen holds a number. -/
def Mlen (w : World) : Prop := ∃ m, w.cell? ⟨0, 0, none⟩ = some (.int .i64 m)
theorem Mlen.later {w w' : World} (h : Mlen w) (hb : Below w.heap.size w w') : Mlen w' := by
  obtain ⟨m, hm⟩ := h
  exact ⟨m, (hb.cell (World.block_lt_of_cell? _ _ hm)).trans hm⟩
theorem cut_len (c : UInt8) : ∀ s : List UInt8, (SplT.cutAt c s).length = s.count c + 1
  | [] => rfl
  | x :: r => by
    have ih := cut_len c r
    unfold SplT.cutAt
    split
    · rename_i h; subst h; simp [ih]
    · rename_i h
      rw [List.count_cons_of_ne (by simpa using h), ← ih]
      cases hc : SplT.cutAt c r with
      | nil => exact absurd hc (SplT.cutAt_ne c r)
      | cons p q => simp
theorem splitB_splitS (c : UInt8) (s : ByteArray) : Lib.splitB ⟨#[c]⟩ 0 (Lib.countB s ⟨#[c]⟩) s = splitS c s ∧ Lib.countB s ⟨#[c]⟩ + 1 = (splitS c s).length := by
  have e : Lib.countB s ⟨#[c]⟩ = s.data.toList.count c := Lib.count_one c _
  refine ⟨?_, by rw [e]; unfold splitS; rw [List.length_map, cut_len]⟩
  have h := Lib.splitB_data ⟨#[c]⟩ 0 (Lib.countB s ⟨#[c]⟩) s
  have h2 := SplT.split_cut c (Lib.countB s ⟨#[c]⟩) s.data.toList e.symm
  unfold splitS
  rw [← h2]
  have h3 : (Lib.splitB ⟨#[c]⟩ 0 (Lib.countB s ⟨#[c]⟩) s).map (fun b : ByteArray => b.data.toList) = Lib.splitK [c] 0 (Lib.countB s ⟨#[c]⟩) s.data.toList := h
  rw [← h3, List.map_map]
  conv => lhs; rw [← List.map_id (Lib.splitB ⟨#[c]⟩ 0 (Lib.countB s ⟨#[c]⟩) s)]
  exact List.map_congr_left fun x _ => bytes_ext (by simp)
theorem split_any (s : ByteArray) (ch : UInt8) (w : World) (hsz : s.size ≤ 1048576) (hm : Mlen w) :
    Calls Tryd.prog 19 #[.string s, .string ⟨#[ch]⟩] w fun e w' => e = .returned (.slice (some ⟨w.heap.size, 0, none⟩) (splitS ch s).length (splitS ch s).length) ∧ RdL w' w'.heap.size (some ⟨w.heap.size, 0, none⟩) 1 encString (splitS ch s) ∧ Below w.heap.size w w' := by
  obtain ⟨m, hm⟩ := hm
  refine (Tryd.strings_Split s ⟨#[ch]⟩ m w (by omega) hm (Nat.le_refl 1)).mono ?_
  rintro e w' ⟨rfl, rfl⟩
  obtain ⟨e1, e2⟩ := splitB_splitS ch s
  refine ⟨by rw [e2], ?_, (Below.refl _ _).alloc (Nat.le_refl _) _⟩
  rw [e1]
  refine .inr ⟨w.heap.size, 0, rfl, by simp, fun i hi j u hu => ?_⟩
  rw [World.cell?_alloc_new]
  have hj : j = 0 := by
    have := (List.getElem?_eq_some_iff.1 hu).1
    simp [encString] at this; omega
  subst hj
  simp [encString] at hu
  subst hu
  simp [hi]
theorem piece_len {c : UInt8} : ∀ (s p : List UInt8), p ∈ SplT.cutAt c s → p.length ≤ s.length
  | [], p, h => by simp [SplT.cutAt] at h; subst h; simp
  | x :: r, p, h => by
    unfold SplT.cutAt at h
    split at h
    · rcases List.mem_cons.1 h with rfl | h
      · simp
      · have := piece_len r p h; simp; omega
    · cases hc : SplT.cutAt c r with
      | nil => exact absurd hc (SplT.cutAt_ne c r)
      | cons q l =>
        rw [hc] at h
        simp only at h
        rcases List.mem_cons.1 h with rfl | h
        · have := piece_len r q (by rw [hc]; simp); simp; omega
        · have := piece_len r p (by rw [hc]; simp [h]); simp; omega
theorem piece_size {c : UInt8} {s p : ByteArray} (h : p ∈ splitS c s) : p.size ≤ s.size := by
  unfold splitS at h
  obtain ⟨l, hl, rfl⟩ := List.mem_map.1 h
  have := piece_len _ _ hl
  show l.toArray.size ≤ _
  rw [List.size_toArray]; exact this
theorem cut_hit (y : ByteArray) {ch : UInt8} {p r : List UInt8} (hy : y.data.toList = p ++ ch :: r) (hp : ch ∉ p) : Lib.cut y.data.toList (⟨#[ch]⟩ : ByteArray).data.toList = (p, r, true) := by
  rw [hy]; exact SplT.lib_cut_hit hp
theorem cut_miss (y : ByteArray) {ch : UInt8} (hy : ch ∉ y.data.toList) : Lib.cut y.data.toList (⟨#[ch]⟩ : ByteArray).data.toList = (y.data.toList, [], false) := SplT.lib_cut_no hy
theorem cutHit_any (y : ByteArray) (ch : UInt8) (p r : List UInt8) (hy : y.data.toList = p ++ ch :: r) (hp : ch ∉ p) (w : World) (hsz : y.size ≤ 1048576) (hm : Mlen w) :
    Calls Tryd.prog 21 #[.string y, .string ⟨#[ch]⟩] w fun e w' => e = .returned (.tuple #[.string ⟨p.toArray⟩, .string ⟨r.toArray⟩, .bool true]) ∧ Below w.heap.size w w' := by
  obtain ⟨m, hm⟩ := hm
  refine (Tryd.strings_Cut y ⟨#[ch]⟩ m w (by omega) hm).mono ?_
  rintro e w' ⟨rfl, n, rfl⟩
  rw [cut_hit y hy hp]
  exact ⟨rfl, below_drewN (Below.refl _ _) _⟩
theorem cutMiss_any (y : ByteArray) {ch : UInt8} (hy : ch ∉ y.data.toList) (w : World) (hsz : y.size ≤ 1048576) (hm : Mlen w) :
    Calls Tryd.prog 21 #[.string y, .string ⟨#[ch]⟩] w fun e w' => e = .returned (.tuple #[.string y, .string ⟨#[]⟩, .bool false]) ∧ Below w.heap.size w w' := by
  obtain ⟨m, hm⟩ := hm
  refine (Tryd.strings_Cut y ⟨#[ch]⟩ m w (by omega) hm).mono ?_
  rintro e w' ⟨rfl, n, rfl⟩
  rw [cut_miss y hy]
  exact ⟨rfl, below_drewN (Below.refl _ _) _⟩
end Go.Proofs.YtkblldbilofdgaaDoor
