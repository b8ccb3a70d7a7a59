/-
  Texts cut at a byte, numbers read: contracts of both sides.
-/
import Derived.Test.YtkblldbilofdgaaDoorSplitP
import Derived.Test.YtkblldbilofdgaaDoorTyString
import Derived.Test.YtkblldbilofdgaaDoorGrowA
import Derived.Test.YtkblldbilofdgaaDoorClone
import Derived.Test.YtkblldbilofdgaaDoorL1
namespace Go.Proofs.YtkblldbilofdgaaDoor
open Go.RowKit
set_option linter.unusedVariables false
set_option linter.unusedSimpArgs false
set_option maxRecDepth 100000

theorem bat_get {s : ByteArray} {i : Nat} (h : i < s.data.toList.length) : bat s (i : Int) = (s.data.toList[i].toNat : Int) := by
  unfold bat
  rw [Int.toNat_natCast, List.getD_eq_getElem?_getD, List.getElem?_eq_getElem h]; rfl
/-- The pieces of a text. -/
def splitS (c : UInt8) (s : ByteArray) : List ByteArray := (SplT.cutAt c s.data.toList).map fun l => ⟨l.toArray⟩
/-- Behind the first i bytes: the pieces so far; the rest begins at f. -/
def SpAt (c : UInt8) (s : ByteArray) (l : List ByteArray) (f i : Nat) : Prop :=
  SplT.cutAt c s.data.toList = l.map (·.data.toList) ++ SplT.cutAt c (s.data.toList.drop f) ∧ f ≤ i ∧ i ≤ s.size ∧ l.length ≤ i ∧ ∀ j, f ≤ j → j < i → bat s (j : Int) ≠ (c.toNat : Int)
theorem SpAt.start (c : UInt8) (s : ByteArray) : SpAt c s [] 0 0 := ⟨by simp, by omega, by omega, by simp, fun j _ h => by omega⟩
theorem SpAt.no {c : UInt8} {s : ByteArray} {l : List ByteArray} {f i : Nat} (h : SpAt c s l f i) : c ∉ (s.data.toList.drop f).take (i - f) := by
  intro hm
  obtain ⟨j, hj, e⟩ := List.getElem_of_mem hm
  have hl : j < i - f := by simp at hj; omega
  have hs : s.data.toList.length = s.size := rfl
  have h4 := h.2.2.1
  have := h.2.2.2.2 (f + j) (by omega) (by omega)
  apply this
  rw [bat_get (by rw [hs]; omega)]
  rw [List.getElem_take, List.getElem_drop] at e
  rw [e]
theorem ext_data (s : ByteArray) (a b : Nat) : (s.extract a b).data.toList = (s.data.toList.drop a).take (b - a) := by
  rw [Lib.extract_data]
theorem SpAt.skip {c : UInt8} {s : ByteArray} {l : List ByteArray} {f i : Nat} (h : SpAt c s l f i) (hi : i < s.size) (hb : bat s (i : Int) ≠ (c.toNat : Int)) : SpAt c s l f (i + 1) :=
  ⟨h.1, by have := h.2.1; omega, by omega, by have := h.2.2.2.1; omega, fun j h1 h2 => by
    rcases Nat.lt_or_eq_of_le (Nat.le_of_lt_succ h2) with h3 | rfl
    · exact h.2.2.2.2 j h1 h3
    · exact hb⟩
theorem SpAt.hit {c : UInt8} {s : ByteArray} {l : List ByteArray} {f i : Nat} (h : SpAt c s l f i) (hi : i < s.size) (hb : bat s (i : Int) = (c.toNat : Int)) : SpAt c s (l ++ [s.extract f i]) (i + 1) (i + 1) := by
  have hs : s.data.toList.length = s.size := rfl
  have hno := h.no
  obtain ⟨h1, h2, h3, h4, h5⟩ := h
  refine ⟨?_, Nat.le_refl _, by omega, by simp; omega, fun j a b => by omega⟩
  have hc : s.data.toList[i]'(by omega) = c := by
    rw [bat_get (by omega)] at hb
    exact UInt8.toNat_inj.1 (by omega)
  have hd : s.data.toList.drop f = (s.data.toList.drop f).take (i - f) ++ c :: s.data.toList.drop (i + 1) := by
    have e1 : (s.data.toList.drop f).drop (i - f) = s.data.toList.drop i := by rw [List.drop_drop]; congr 1; omega
    have e2 : s.data.toList.drop i = c :: s.data.toList.drop (i + 1) := by rw [← hc]; exact List.drop_eq_getElem_cons (by omega)
    rw [← e2, ← e1, List.take_append_drop]
  rw [h1, hd, SplT.cutAt_hit _ hno, List.map_append]
  simp [ext_data]
theorem SpAt.done {c : UInt8} {s : ByteArray} {l : List ByteArray} {f : Nat} (h : SpAt c s l f s.size) : splitS c s = l ++ [s.extract f s.size] := by
  have hs : s.data.toList.length = s.size := rfl
  have hno := h.no
  have e : (s.data.toList.drop f).take (s.size - f) = s.data.toList.drop f := List.take_of_length_le (by rw [List.length_drop]; omega)
  rw [e] at hno
  unfold splitS
  rw [h.1, SplT.cutAt_none hno, List.map_append]
  congr 1
  · rw [List.map_map]
    conv => rhs; rw [← List.map_id l]
    exact List.map_congr_left fun x _ => by simp
  · simp only [List.map_cons, List.map_nil]
    congr 1
    apply ByteArray.ext
    apply Array.ext'
    rw [ext_data, e]
theorem splitS_len (c : UInt8) (s : ByteArray) : 0 < (splitS c s).length := by
  unfold splitS
  rw [List.length_map]
  exact List.length_pos_iff.2 (SplT.cutAt_ne c _)

set_option maxHeartbeats 1600000 in
theorem l1Split_any (s : ByteArray) (c : UInt8) (w : World) (hsz : s.size ≤ 1048576) :
    Calls Tryd.prog 15 #[.string s, .int .u8 (c.toNat : Int)] w fun e w' => ∃ A cc, e = .returned (.slice A (splitS c s).length cc) ∧ (splitS c s).length ≤ cc ∧ OwnL w' w.heap.size w'.heap.size A 1 encString (splitS c s) ∧ Below w.heap.size w w' := by
  obtain ⟨cI, hcI⟩ : ∃ cI : Int, Hid ((c.toNat : Int) = cI) := ⟨_, Lib.hid rfl⟩
  rw [hcI.out]
  have Hone : Hid (∀ X : ByteArray, ∀ u ∈ [Value.string X], u.oneCell' = true) := Lib.hid (by intro x u hu; simp at hu; subst hu; rfl)
  go_enter Tryd.func15, Tryd.ntmps15
  go_wp2
  go_loopw [5, 6, 7] (fun v fv i wr => ∃ (k f : Nat) (l : List ByteArray), fv = .int .i64 (f : Int) ∧ i = .int .i64 (k : Int) ∧ k ≤ s.size ∧ f ≤ k ∧ l.length ≤ k ∧ Hid (SpAt c s l f k) ∧ Grow wr w.heap.size 9 1 encString v l ∧ Below w.heap.size w wr) (fun _ _ i _ => s.size - (intOf i).toNat)
  case atStart => exact ⟨0, 0, [], by rfl, by rfl, by omega, by omega, by simp, Lib.hid (SpAt.start c s), Grow.nil, Below.refl _ _⟩
  case round =>
    obtain ⟨k, f, l, rfl, rfl, hk, hfk, hlk, hsp, hgr, hbl⟩ := hrel
    have HGr := Lib.hid hgr
    have Hbl := Lib.hid hbl
    have hz := hbl.size
    clear hgr hbl
    by_cases hlt : k < s.size
    · obtain ⟨b, hb⟩ : ∃ b, Hid (bat s (k : Int) = b) := ⟨_, Lib.hid rfl⟩
      by_cases hc : b = cI
      · have hsp2 : Hid (SpAt c s (l ++ [s.extract f k]) (k + 1) (k + 1)) := Lib.hid (hsp.out.hit hlt (by rw [hb.out, hcI.out]; exact hc))
        have e1 : (bat s (k : Int) == cI) = true := by rw [hb.out]; simpa using hc
        clear hc
        go_wp2_with (at_builtin; refine wpList_pushA rfl (.tmp 19) (.tmp 24) 38 rfl w.heap.size 9 _ 1 16 encString rfl String_info rfl (by omega) u5 l [(s.extract f k)] 1 rfl rfl (by simp) HGr.out rfl encString_len (Hone.out _) (by simp only [List.length_singleton]; omega) (by omega) (by omega) ?_; intro av aw ag ab agb ak)
        go_roundw
        case rel => exact ⟨k + 1, k + 1, l ++ [s.extract f k], by go_num, by go_num, by omega, by omega, by simp; omega, hsp2, ag, Hbl.out.trans ab⟩
        case measure => simp [intOf]; omega
      · have hsp2 : Hid (SpAt c s l f (k + 1)) := Lib.hid (hsp.out.skip hlt (by rw [hb.out, hcI.out]; exact hc))
        have e1 : (bat s (k : Int) == cI) = false := by rw [hb.out]; simpa using hc
        clear hc
        go_wp2
        go_roundw
        case rel => exact ⟨k + 1, f, l, by rfl, by go_num, by omega, by omega, by omega, hsp2, HGr.out, Hbl.out⟩
        case measure => simp [intOf]; omega
    · obtain rfl : k = s.size := by omega
      go_wp2_with (at_builtin; refine wpList_pushA rfl (.tmp 28) (.tmp 32) 38 rfl w.heap.size 9 _ 1 16 encString rfl String_info rfl (by omega) u5 l [(s.extract f s.size)] 1 rfl rfl (by simp) HGr.out rfl encString_len (Hone.out _) (by simp only [List.length_singleton]; omega) (by omega) (by omega) ?_; intro av aw ag ab agb ak)
      go_ret
      have he := hsp.out.done
      rw [← he] at ag
      obtain ⟨A, cc, hv, ho⟩ := ag.own encString_len
      subst hv
      exact ⟨A, cc, rfl, ag.capN, ho, Hbl.out.trans ab⟩
end Go.Proofs.YtkblldbilofdgaaDoor
