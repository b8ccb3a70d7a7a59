import Derived.Test.YtglnehinmdmgmaaMBlowsInL23
import Derived.Test.YtglnehinmdmgmaaMBlowsInL27
import Derived.Test.YtglnehinmdmgmaaMBlowsInLSh
import Derived.Shelf.SlSortCmp.WholeK
import Derived.Shelf.SlSortCmp.NoneTotal
/-
  The library's sort at a list of blows: what it leaves, in our own words.
-/
namespace Go.Proofs.Ytglnehinmdmgmaa
open Go.RowKit Go.Sort Go.Shelf
set_option linter.unusedVariables false
set_option linter.unusedSimpArgs false
set_option maxRecDepth 100000

/-- Blows of no large numbers. -/
abbrev Bs : Type := {x : Blw // smallB x}
instance : Inhabited Bs := ⟨⟨⟨0, 0, 0⟩, by simp [smallB]⟩⟩
def encBs (x : Bs) : List Value := Blw.enc x.1
def cfB (x y : Bs) : Int := (x.1.row - y.1.row) * 9 + x.1.place - y.1.place
theorem cfB_key (x y : Bs) : cfB x y = keyB x.1 - keyB y.1 := by unfold cfB keyB; omega
theorem ltB (x y : Bs) : ltOf cfB x y = decide (keyB x.1 < keyB y.1) := by
  unfold ltOf; rw [cfB_key]; congr 1; rw [eq_iff_iff]; omega
theorem swoB : SWO (ltOf cfB) where
  irrefl x := by rw [ltB]; simp
  trans x y z h1 h2 := by rw [ltB] at *; simp at *; omega
  ntrans x y z h1 h2 := by rw [ltB] at *; simp at *; omega
/-- A list of such blows. -/
def arrB (l : List Blw) (h : ∀ x ∈ l, smallB x) : Array Bs := (l.attach.map fun x => (⟨x.1, h x.1 x.2⟩ : Bs)).toArray
theorem arrB_size (l : List Blw) (h : ∀ x ∈ l, smallB x) : (arrB l h).size = l.length := by simp [arrB]
theorem arrB_at (l : List Blw) (h : ∀ x ∈ l, smallB x) (i : Nat) (hi : i < l.length) : ((arrB l h)[i]!).1 = l[i] := by
  rw [getElem!_pos _ i (by rw [arrB_size]; exact hi)]; simp [arrB]
theorem arrB_list (l : List Blw) (h : ∀ x ∈ l, smallB x) : (arrB l h).toList.map (·.1) = l := by
  apply List.ext_getElem
  · simp [arrB]
  · intro i h1 h2; simp [arrB]
theorem holdsB {w : World} {c0 c1 g : Nat} {l : List Blw} (h : ∀ x ∈ l, smallB x) (ho : OwnL w c0 c1 (some ⟨g, 0, none⟩) 3 Blw.enc l) : HoldsK encBs 3 w g 0 (arrB l h) := by
  intro t ht
  rw [size_flatK, arrB_size] at ht
  rw [get_flatK encBs 3 (arrB l h) t (by rw [arrB_size]; exact ht), Nat.zero_add]
  have h3 : t / 3 < l.length := by omega
  have := ho.get Blw_enc_len (t / 3) h3 (t % 3) (by omega)
  rw [show t / 3 * 3 + t % 3 = t by omega] at this
  refine ⟨?_, this.2⟩
  rw [this.1]
  show some _ = some _
  unfold encBs
  rw [arrB_at l h (t / 3) h3]
  rw [List.getElem!_eq_getElem?_getD, List.getD_eq_getElem?_getD, List.getElem?_eq_getElem (by rw [Blw_enc_len]; omega)]
  rfl
theorem ownB {w w' : World} {c0 c1 g n : Nat} {l : List Blw} (h : ∀ x ∈ l, smallB x) (h0 : 0 < l.length) (ho : OwnL w c0 c1 (some ⟨g, 0, none⟩) 3 Blw.enc l) (d : Array Bs) (os : Array Obj) (hs : d.size = l.length) (hw : w' = sortWorldK encBs 3 w g 0 n d os) :
    OwnL w' c0 c1 (some ⟨g, 0, none⟩) 3 Blw.enc (d.toList.map (·.1)) ∧ Chg g (g + 1) w w' := by
  subst hw
  obtain ⟨g', f, hA, hg1, hg2, hc⟩ := ho.cells h0
  simp only [Option.some.injEq, Addr.mk.injEq, and_true] at hA
  subst hA
  have hcs := cells_sortWorld id w g n (flatK encBs 3 (arrB l h)) (flatK encBs 3 d) os hc.lt (holdsB h ho) (by rw [size_flatK, size_flatK, arrB_size, hs])
  refine ⟨.inr ⟨g, fun i => id (flatK encBs 3 d)[i]!, rfl, hg1, hg2, ?_, fun i hi j u hu => ?_⟩, chg_sortWorld id w g 0 n (flatK encBs 3 d) os⟩
  · rw [List.length_map, Array.length_toList, ← size_flatK encBs 3 d]; exact hcs
  · rw [List.length_map, Array.length_toList] at hi
    have hj : j < 3 := by have := (List.getElem?_eq_some_iff.1 hu).1; rw [Blw_enc_len] at this; exact this
    show (flatK encBs 3 d)[i * 3 + j]! = u
    rw [get_flatK encBs 3 d (i * 3 + j) (by omega), show (i * 3 + j) / 3 = i by omega, show (i * 3 + j) % 3 = j by omega]
    unfold encBs
    rw [getElem!_pos d i hi]
    rw [List.getElem_map, Array.getElem_toList] at hu
    rw [List.getElem!_eq_getElem?_getD, hu]; rfl
set_option maxHeartbeats 1600000 in
theorem blowCmp_any (x y : Bs) (W : World) : Calls Try.prog 32 #[.agg #[.int .i64 x.1.row, .int .i64 x.1.place, .int .i64 x.1.at_], .agg #[.int .i64 y.1.row, .int .i64 y.1.place, .int .i64 y.1.at_]] W fun e w' => e = .returned (.int .i64 (cfB x y)) ∧ ∃ q os', w' = grow (W.drewN q) os' := by
  obtain ⟨⟨r, p, t⟩, ⟨h1, h2⟩, ⟨h3, h4⟩, _⟩ := x
  obtain ⟨⟨r', p', t'⟩, ⟨k1, k2⟩, ⟨k3, k4⟩, _⟩ := y
  simp only at h1 h2 h3 h4 k1 k2 k3 k4
  show Calls _ _ #[.agg #[.int .i64 r, .int .i64 p, .int .i64 t], .agg #[.int .i64 r', .int .i64 p', .int .i64 t']] W fun e w' => e = .returned (.int .i64 ((r - r') * 9 + p - p')) ∧ _
  have a1 : IntKind.i64.wrap (r - r') = r - r' := IntWalk.i64_in _ (by omega)
  have a2 : IntKind.i64.wrap ((r - r') * 9) = (r - r') * 9 := IntWalk.i64_in _ (by omega)
  have a3 : IntKind.i64.wrap ((r - r') * 9 + p) = (r - r') * 9 + p := IntWalk.i64_in _ (by omega)
  have a4 : IntKind.i64.wrap ((r - r') * 9 + p - p') = (r - r') * 9 + p - p' := IntWalk.i64_in _ (by omega)
  go_enter Try.func32, Try.ntmps32
  go_wp2
  go_ret
  exact ⟨rfl, 0, _, by rw [alloc_eq_grow, alloc_eq_grow, grow_grow]; rfl⟩
theorem sortBlow_any (l : List Blw) (h : ∀ x ∈ l, smallB x) (hl : l.length ≤ 1048576) (A : Option Addr) (cap c0 c1 : Nat) (w : World) (ho : OwnL w c0 c1 A 3 Blw.enc l) :
    Calls Try.prog 31 #[.slice A l.length cap, .func (.func 32) #[] #[]] w fun e w' => e = .returned (.tuple #[]) ∧ ∃ s : List Blw, s.Perm l ∧ (s.Pairwise fun x y => keyB x ≤ keyB y) ∧ OwnL w' c0 c1 A 3 Blw.enc s ∧ (w' = w ∨ ∃ g, A = some ⟨g, 0, none⟩ ∧ c0 ≤ g ∧ Chg g (g + 1) w w') := by
  by_cases h0 : 0 < l.length
  · obtain ⟨g, f, hA, hg1, hg2, hc⟩ := ho.cells h0
    subst hA
    have eg : ∀ args w, (callFunc 32 args).run Try.prog w = .ok (.enter 32 args) w := enters_of Try.func32 (by kernel_rfl) rfl
    have hcmp : CmpLays Try.prog 32 #[] encBs 3 cfB g 0 (arrB l h).size w := fun m os dk hs x y => blowCmp_any x y _
    have hcon := AnyQ.slices_SortFunc Try.sortFuncBlow 3 Try.isAgg54 Try.sizeOf54 encBs (fun _ => rfl) (fun x v hv => by simp [encBs, Blw.enc] at hv; rcases hv with rfl | rfl | rfl <;> rfl) cfB swoB 32 #[] g 0 cap (arrB l h) w eg hcmp (holdsB h ho) hc.lt (by rw [arrB_size]; omega)
    change Calls Try.prog 31 _ _ _ at hcon
    rw [arrB_size] at hcon
    refine hcon.mono ?_
    rintro e w' ⟨rfl, d', n, os, hperm, hsort, hw⟩
    obtain ⟨hs1, _, hpm⟩ := hperm
    rw [arrB_size] at hs1
    have hpm2 : d'.toList.Perm (arrB l h).toList := by
      rw [Array.extract_eq_self_of_le (by rw [hs1]; exact Nat.le_refl _), Array.extract_eq_self_of_le (by rw [arrB_size]; exact Nat.le_refl _)] at hpm
      exact hpm
    obtain ⟨k1, k2⟩ := ownB h h0 ho d' os hs1 hw
    refine ⟨rfl, d'.toList.map (·.1), ?_, ?_, k1, .inr ⟨g, rfl, hg1, k2⟩⟩
    · have := hpm2.map (·.1)
      rwa [arrB_list] at this
    · rw [List.pairwise_iff_getElem]
      intro i j hi hj hij
      rw [List.length_map, Array.length_toList] at hi hj
      have := hsort i j (Nat.zero_le _) hij (by omega)
      rw [ltB] at this
      have := of_decide_eq_false this
      rw [getElem!_pos d' i hi, getElem!_pos d' j hj] at this
      rw [List.getElem_map, List.getElem_map, Array.getElem_toList, Array.getElem_toList]
      omega
  · obtain rfl : l = [] := List.eq_nil_of_length_eq_zero (by omega)
    refine (AnyF.slices_SortFunc_none Try.sortFuncBlow A cap (.func (.func 32) #[] #[]) w).mono ?_
    rintro e w' ⟨rfl, rfl⟩
    exact ⟨rfl, [], List.Perm.refl _, List.Pairwise.nil, ho, .inl rfl⟩
end Go.Proofs.Ytglnehinmdmgmaa
