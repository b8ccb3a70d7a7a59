import Derived.Test.YtbfhfnejppfehaaMSlipsL31
import Derived.Test.YtbfhfnejppfehaaMSlipsL32
import Derived.Test.YtbfhfnejppfehaaMSlipsL22
import Derived.Test.YtbfhfnejppfehaaMSlipsL08
/-
  FnSlips, in plain words: slips that are found reproduce the rows rung; slips that are made twice, backwards, restore the last row.
-/
namespace Go.Proofs.Ytbfhfnejppfehaa
open Go.RowKit
set_option linter.unusedVariables false
set_option linter.unusedSimpArgs false

def appS (r : ByteArray) (x : Slp) : ByteArray := swapS r x.a x.b
theorem slpTo_fold {r : ByteArray} {i : Int} {l : List Slp} (h : ∀ x ∈ l, x.row ≤ i) : ∀ k, k ≤ l.length → slpTo r i l k = (l.take k).foldl appS r
  | 0, _ => by simp [slpTo]
  | k + 1, hk => by
    have hlt : k < l.length := by omega
    rw [slpTo_y (List.getElem?_eq_getElem hlt) (h _ (List.getElem_mem hlt)), slpTo_fold h k (by omega), List.take_succ_eq_append_getElem hlt, List.foldl_append]; rfl
theorem slpAll_fold {r : ByteArray} {i : Int} {l : List Slp} (h : ∀ x ∈ l, x.row ≤ i) : slpAll r i l = l.foldl appS r := by
  unfold slpAll; rw [slpTo_fold h _ (Nat.le_refl _), List.take_length]
theorem slpTo_left {r : ByteArray} {i : Int} {l m : List Slp} : ∀ k, k ≤ l.length → slpTo r i (l ++ m) k = slpTo r i l k
  | 0, _ => rfl
  | k + 1, hk => by
    have hlt : k < l.length := by omega
    have e : (l ++ m)[k]? = some l[k] := by rw [List.getElem?_append_left hlt, List.getElem?_eq_getElem hlt]
    have e2 : l[k]? = some l[k] := List.getElem?_eq_getElem hlt
    have ih := slpTo_left (r := r) (i := i) (l := l) (m := m) k (by omega)
    by_cases hi : l[k].row ≤ i
    · rw [slpTo_y e hi, slpTo_y e2 hi, ih]
    · rw [slpTo_n e hi, slpTo_n e2 hi, ih]
theorem slpAll_skip {r : ByteArray} {i : Int} {l m : List Slp} (h : ∀ x ∈ m, i < x.row) : slpAll r i (l ++ m) = slpAll r i l := by
  have key : ∀ k, k ≤ m.length → slpTo r i (l ++ m) (l.length + k) = slpTo r i l l.length := by
    intro k
    induction k with
    | zero => intro _; exact slpTo_left _ (Nat.le_refl _)
    | succ k ih =>
      intro hk
      have hlt : k < m.length := by omega
      have e : (l ++ m)[l.length + k]? = some m[k] := by rw [List.getElem?_append_right (by omega), show l.length + k - l.length = k by omega, List.getElem?_eq_getElem hlt]
      have := h _ (List.getElem_mem hlt)
      rw [show l.length + (k + 1) = l.length + k + 1 by omega, slpTo_n e (by omega), ih (by omega)]
  unfold slpAll
  rw [List.length_append]; exact key _ (Nat.le_refl _)
theorem swapV_twice (a b v : Int) : swapV a b (swapV a b v) = v := by
  unfold swapV; split <;> (try split) <;> (try split) <;> omega
theorem swapV_comm (a b v : Int) : swapV a b v = swapV b a v := by
  unfold swapV; split <;> split <;> omega
theorem swapS_comm (r : ByteArray) (a b : Int) : swapS r a b = swapS r b a := by
  unfold swapS swapL; congr 2; funext i; exact swapV_comm _ _ _
theorem swap_twice (r : ByteArray) (a b : Int) (ha : 0 ≤ a ∧ a ≤ 200) (hb : 0 ≤ b ∧ b ≤ 200) : swapS (swapS r a b) a b = r := by
  refine str_ext (by rw [size_swap, size_swap]) fun i hi => ?_
  rw [size_swap, size_swap] at hi
  rw [bat_swap _ _ _ ha hb i (by rw [size_swap]; exact hi), bat_swap _ _ _ ha hb i hi, swapV_twice]
def smallS (x : Slp) : Prop := (0 ≤ x.a ∧ x.a ≤ 200) ∧ (0 ≤ x.b ∧ x.b ≤ 200)
theorem fold_undo : ∀ (l : List Slp) (r : ByteArray), (∀ x ∈ l, smallS x) → (l ++ l.reverse).foldl appS r = r
  | [], r, _ => rfl
  | x :: t, r, h => by
    have ih := fold_undo t (appS r x) (fun y hy => h y (by simp [hy]))
    have e : (x :: t) ++ (x :: t).reverse = x :: ((t ++ t.reverse) ++ [x]) := by simp
    rw [e, List.foldl_cons, List.foldl_append, ih]
    have hx := h x (by simp)
    exact swap_twice r x.a x.b hx.1 hx.2
/-- The slips once more, backwards, all in the last one's row. -/
def lastRow (l : List Slp) : Int := (l.getD (l.length - 1) ⟨0, 0, 0⟩).row
def twiceOf (R : Int) (x : Slp) : Slp := ⟨R, x.a, x.b⟩
def twiceL (l : List Slp) : List Slp := l.reverse.map (twiceOf (lastRow l))
theorem twiceL_len (l : List Slp) : (twiceL l).length = l.length := by simp [twiceL]
theorem fold_twice (R : Int) (l : List Slp) (r : ByteArray) : (l.map (twiceOf R)).foldl appS r = l.foldl appS r := by
  rw [List.foldl_map]; rfl
theorem slipsP.small {rows : List ByteArray} {l : List Slp} (h : slipsP rows l) : ∀ x ∈ l, smallS x := fun x hx => by
  have h1 := h.ok x hx
  have hs : sz0 rows ≤ 8 := by
    have := h.1.1.2 0 h.1.2
    have h8 := this.1.2.1
    omega
  obtain ⟨⟨a1, a2⟩, b1, b2⟩ := h1
  exact ⟨⟨by omega, by omega⟩, by omega, by omega⟩
theorem twice_ok {rows : List ByteArray} {l : List Slp} (h : slipsP rows l) (h0 : 0 < l.length) (h10 : l.length ≤ 10) : slipsP rows (l ++ twiceL l) := by
  have hR : lastRow l = (l[l.length - 1]'(by omega)).row := by
    unfold lastRow; rw [List.getD_eq_getElem?_getD, List.getElem?_eq_getElem (by omega)]; rfl
  have hlast := (h.2.2 (l.length - 1) (by omega)).1
  refine ⟨h.1, by rw [List.length_append, twiceL_len]; omega, fun i hi => ?_⟩
  rw [List.length_append, twiceL_len] at hi
  have hT : ∀ (j : Nat) (hj : j < (twiceL l).length), (twiceL l)[j].row = lastRow l ∧ ∃ x ∈ l, (twiceL l)[j].a = x.a ∧ (twiceL l)[j].b = x.b := fun j hj => by
    have hj2 : j < l.reverse.length := by simpa [twiceL] using hj
    have e : (twiceL l)[j] = twiceOf (lastRow l) l.reverse[j] := by simp [twiceL]
    rw [e]
    exact ⟨rfl, l.reverse[j], List.mem_reverse.1 (List.getElem_mem hj2), rfl, rfl⟩
  by_cases hl : i < l.length
  · have e : (l ++ twiceL l)[i]'(by rw [List.length_append, twiceL_len]; exact hi) = l[i] := List.getElem_append_left hl
    rw [e]
    refine ⟨(h.2.2 i hl).1, fun hp => ?_⟩
    rw [List.getElem_append_left (by omega)]
    exact (h.2.2 i hl).2 hp
  · obtain ⟨j, rfl⟩ : ∃ j, i = l.length + j := ⟨i - l.length, by omega⟩
    have hj : j < (twiceL l).length := by rw [twiceL_len]; omega
    have e : (l ++ twiceL l)[l.length + j]'(by rw [List.length_append, twiceL_len]; exact hi) = (twiceL l)[j] := by
      rw [List.getElem_append_right (by omega)]; congr 1; omega
    rw [e]
    obtain ⟨h1, x, hx, h2, h3⟩ := hT j hj
    obtain ⟨m, hm, rfl⟩ := List.getElem_of_mem hx
    have hxm := (h.2.2 m hm).1
    refine ⟨⟨by rw [h1, hR]; exact hlast.1, by rw [h2]; exact hxm.2.1, by rw [h2, h3]; exact hxm.2.2⟩, fun hp => ?_⟩
    by_cases hj0 : j = 0
    · subst hj0
      have e2 : (l ++ twiceL l)[l.length + 0 - 1]'(by rw [List.length_append, twiceL_len]; omega) = l[l.length - 1]'(by omega) := List.getElem_append_left (by omega)
      rw [e2, h1, hR]; exact Int.le_refl _
    · have e2 : (l ++ twiceL l)[l.length + j - 1]'(by rw [List.length_append, twiceL_len]; omega) = (twiceL l)[j - 1]'(by omega) := by
        rw [List.getElem_append_right (by omega)]; congr 1; omega
      rw [e2, (hT (j - 1) (by omega)).1, h1]; exact Int.le_refl _
/-- The last row is restored. -/
theorem twice_last {rows : List ByteArray} {l : List Slp} (h : slipsP rows l) (h0 : 0 < l.length) (h10 : l.length ≤ 10) (hi : rows.length - 1 < (rungTo rows (l ++ twiceL l) rows.length).length) :
    (rungTo rows (l ++ twiceL l) rows.length)[rows.length - 1] = rows[rows.length - 1]'(by have := h.1.2; omega) := by
  have hr0 := h.1.2
  have hM := twice_ok h h0 h10
  have e : (rungTo rows (l ++ twiceL l) rows.length)[rows.length - 1] = slpAll (rows.getD (rows.length - 1) ⟨#[]⟩) ((rows.length - 1 : Nat) : Int) (l ++ twiceL l) := by simp [rungTo]
  rw [e, List.getD_eq_getElem?_getD, List.getElem?_eq_getElem (by omega), Option.getD_some, slpAll_fold (fun x hx => by
    obtain ⟨i, hi, rfl⟩ := List.getElem_of_mem hx
    have := (hM.2.2 i hi).1.1.2; omega)]
  rw [List.foldl_append]
  unfold twiceL
  rw [fold_twice, ← List.foldl_append]
  exact fold_undo l _ h.small
/-! ### The slips that are found -/
def appP (r : ByteArray) (p : List Int) : ByteArray := swapS r (p.getD 0 0) (p.getD 1 0)
theorem appP_pair (r : ByteArray) (x y : Int) : appP r (pairOf x y) = swapS r x y := by
  unfold appP pairOf
  split
  · rfl
  · exact swapS_comm _ _ _
theorem lsw_fold (a b : ByteArray) : ∀ k, (lsw a k b).2.foldl appP b = (lsw a k b).1
  | 0 => rfl
  | k + 1 => by
    by_cases e : bat a k = bat (lsw a k b).1 k
    · rw [lsw_y e]; exact lsw_fold a b k
    · rw [lsw_n e]
      simp only [List.foldl_append, List.foldl_cons, List.foldl_nil]
      rw [lsw_fold a b k, appP_pair]
theorem lsw_same {a b : ByteArray} (h : two a b) : ∀ k, k ≤ a.size → ∀ i : Nat, i < k → bat (lsw a k b).1 i = bat a i
  | 0, _, i, hi => by omega
  | k + 1, hk, i, hi => by
    have ih := lsw_same h k (by omega)
    obtain ⟨hrow, hsz⟩ := lsw_row h.1 h.2.1 h.2.2 k (by omega)
    by_cases e : bat a k = bat (lsw a k b).1 k
    · rw [lsw_y e]
      by_cases hik : i < k
      · exact ih i hik
      · obtain rfl : i = k := by omega
        exact e.symm
    · rw [lsw_n e]
      have h3 := h.1.2.2.1 k (by omega)
      have h4 := hrow.2.2.1 k (by omega)
      have ha8 := h.1.2.1
      rw [bat_swap _ _ _ (by omega) (by omega) i (by omega)]
      by_cases hik : i < k
      · have e1 : bat (lsw a k b).1 i ≠ bat a k := fun e2 => h.1.2.2.2 i k hik (by omega) ((ih i hik).symm.trans e2)
        have e3 : bat (lsw a k b).1 i ≠ bat (lsw a k b).1 k := fun e2 => hrow.2.2.2 i k hik (by omega) e2
        unfold swapV
        rw [if_neg (by omega), if_neg (by omega)]
        exact ih i hik
      · obtain rfl : i = k := by omega
        unfold swapV
        rw [if_neg (by omega), if_pos (by omega)]; omega
theorem least_fold {a b : ByteArray} (h : two a b) : (leastL a b).foldl appP b = a := by
  unfold leastL
  rw [lsw_fold]
  obtain ⟨hrow, hsz⟩ := lsw_row h.1 h.2.1 h.2.2 a.size (Nat.le_refl _)
  exact str_ext hsz fun i hi => lsw_same h a.size (Nat.le_refl _) i (by omega)
theorem slipsTo_ge (want rung : List ByteArray) : ∀ k, (∀ x ∈ slipsTo want rung k, 0 ≤ x.row ∧ x.row < k) ∧ (slipsTo want rung k).Pairwise fun x y => x.row ≤ y.row
  | 0 => ⟨by simp [slipsTo], by simp [slipsTo]⟩
  | k + 1 => by
    obtain ⟨h1, h2⟩ := slipsTo_ge want rung k
    simp only [slipsTo]
    refine ⟨fun x hx => ?_, List.pairwise_append.2 ⟨h2, ?_, fun x hx y hy => ?_⟩⟩
    · rcases List.mem_append.1 hx with hx | hx
      · have := h1 x hx; omega
      · obtain ⟨p, hp, rfl⟩ := List.mem_map.1 hx
        simp only [slpOf]; omega
    · refine List.pairwise_map.2 ?_
      exact List.pairwise_iff_forall_sublist.2 fun _ => Int.le_refl _
    · obtain ⟨p, hp, rfl⟩ := List.mem_map.1 hy
      have := h1 x hx
      simp only [slpOf]; omega
theorem slipsTo_split (want rung : List ByteArray) (i : Nat) : ∀ n, i < n → ∃ m, slipsTo want rung n = slipsTo want rung (i + 1) ++ m ∧ ∀ x ∈ m, (i : Int) < x.row
  | 0, h => by omega
  | n + 1, h => by
    by_cases e : i = n
    · subst e; exact ⟨[], by simp, by simp⟩
    · obtain ⟨m, hm, hx⟩ := slipsTo_split want rung i n (by omega)
      refine ⟨m ++ (leastL (rung.getD n ⟨#[]⟩) (slpAll (want.getD n ⟨#[]⟩) n (slipsTo want rung n))).map (slpOf n), ?_, fun x hxm => ?_⟩
      · conv => lhs; simp only [slipsTo]
        rw [hm, List.append_assoc]
      · rcases List.mem_append.1 hxm with hxm | hxm
        · exact hx x hxm
        · obtain ⟨p, hp, rfl⟩ := List.mem_map.1 hxm
          simp only [slpOf]; omega
theorem recon_ok {want rung : List ByteArray} (h : slipsOfP want rung) : slipsP want (slipsTo want rung want.length) := by
  obtain ⟨hok, hlt⟩ := slipsTo_row h.1 want.length (Nat.le_refl _)
  obtain ⟨hge, hpw⟩ := slipsTo_ge want rung want.length
  refine ⟨⟨h.1.1, h.1.2.2.1⟩, h.2, fun i hi => ⟨⟨⟨(hge _ (List.getElem_mem hi)).1, by have := (hge _ (List.getElem_mem hi)).2; omega⟩, hok _ (List.getElem_mem hi)⟩, fun hp => ?_⟩⟩
  exact List.pairwise_iff_getElem.1 hpw (i - 1) i (by omega) hi (by omega)
theorem recon_rung {want rung : List ByteArray} (h : slipsOfP want rung) : rungTo want (slipsTo want rung want.length) want.length = rung := by
  have hlen := h.1.2.2.2.1
  refine List.ext_getElem (by rw [rungTo_len, hlen]) fun i h1 h2 => ?_
  have hi : i < want.length := by rw [rungTo_len] at h1; exact h1
  have e : (rungTo want (slipsTo want rung want.length) want.length)[i] = slpAll (want.getD i ⟨#[]⟩) (i : Int) (slipsTo want rung want.length) := by simp [rungTo]
  rw [e, List.getD_eq_getElem?_getD, List.getElem?_eq_getElem hi, Option.getD_some]
  obtain ⟨m, hm, hx⟩ := slipsTo_split want rung i want.length hi
  rw [hm, slpAll_skip hx]
  obtain ⟨hrow, hok, htwo, hs, hle⟩ := slipsTo_step h.1 hi h2
  have hle2 : ∀ x ∈ slipsTo want rung (i + 1), x.row ≤ (i : Int) := fun x hx => by have := ((slipsTo_ge want rung (i + 1)).1 x hx).2; omega
  have hle3 : ∀ x ∈ slipsTo want rung i, x.row ≤ (i : Int) := fun x hx => by have := ((slipsTo_ge want rung i).1 x hx).2; omega
  rw [slpAll_fold hle2, hs, List.foldl_append, ← slpAll_fold hle3, List.foldl_map]
  exact least_fold htwo
end Go.Proofs.Ytbfhfnejppfehaa

/-
  Contracts: lists of strings and of slips that are the same (the laws' comparisons).
-/
namespace Go.Proofs.Ytbfhfnejppfehaa
open Go.RowKit
set_option linter.unusedVariables false
set_option linter.unusedSimpArgs false
set_option maxRecDepth 100000
set_option maxHeartbeats 1600000 in
theorem qSameS_t (l : List ByteArray) (A A' : Option Addr) (c c' : Nat) (w : World) (h : RdL w w.heap.size A 1 encString l) (h' : RdL w w.heap.size A' 1 encString l) (hl : l.length ≤ 1048576) :
    Calls Try.prog 18 #[.slice A l.length c, .slice A' l.length c'] w fun e w' => e = .returned (.bool true) ∧ ∃ n, w' = w.drewN n := by
  have H := Lib.hid h
  have H' := Lib.hid h'
  clear h h'
  go_enter Try.func18, Try.ntmps18
  go_wp2
  go_loopw [13] (fun i wr => ∃ k : Nat, k ≤ l.length ∧ i = .int .i64 k ∧ ∃ n, wr = w.drewN n) (fun i _ => l.length - (intOf i).toNat)
  case atStart => exact ⟨0, by omega, by rfl, 0, rfl⟩
  case round =>
    obtain ⟨k, hk, rfl, hdr⟩ := hrel
    have Hdr := Lib.hid hdr
    clear hdr
    by_cases hlt : k < l.length
    · obtain ⟨g, off, hA, hg, hcell⟩ := H.out.at hlt
      obtain ⟨g', off', hA', hg', hcell'⟩ := H'.out.at hlt
      subst hA hA'
      have r0 : wr.cell? ⟨g, off + k, none⟩ = some (.string l[k]) := by obtain ⟨n, e⟩ := Hdr.out; rw [e]; have := hcell 0 _ rfl; rw [Nat.mul_one] at this; exact this
      have q0 : wr.cell? ⟨g', off' + k, none⟩ = some (.string l[k]) := by obtain ⟨n, e⟩ := Hdr.out; rw [e]; have := hcell' 0 _ rfl; rw [Nat.mul_one] at this; exact this
      clear hcell hcell'
      obtain ⟨x, hx⟩ : ∃ x, Hid (l[k] = x) := ⟨_, Lib.hid rfl⟩
      rw [hx.out] at r0 q0
      go_wp2
      go_quiet (fail)
      go_wp2
      go_roundw
      case rel => exact ⟨k + 1, by omega, by go_num, by obtain ⟨n, e⟩ := Hdr.out; rw [e, drew2]; exact ⟨_, rfl⟩⟩
      case measure => simp [intOf]; omega
    · go_wp2
      go_ret
      exact ⟨rfl, Hdr.out⟩
set_option maxHeartbeats 1600000 in
theorem qSameSlips_t (l : List Slp) (A A' : Option Addr) (c c' : Nat) (w : World) (h : RdL w w.heap.size A 3 Slp.enc l) (h' : RdL w w.heap.size A' 3 Slp.enc l) (hl : l.length ≤ 1048576) :
    Calls Try.prog 17 #[.slice A l.length c, .slice A' l.length c'] w fun e w' => e = .returned (.bool true) ∧ ∃ n, w' = w.drewN n := by
  have H := Lib.hid h
  have H' := Lib.hid h'
  clear h h'
  go_enter Try.func17, Try.ntmps17
  go_wp2
  go_loopw [13] (fun i wr => ∃ k : Nat, k ≤ l.length ∧ i = .int .i64 k ∧ ∃ n, wr = w.drewN n) (fun i _ => l.length - (intOf i).toNat)
  case atStart => exact ⟨0, by omega, by rfl, 0, rfl⟩
  case round =>
    obtain ⟨k, hk, rfl, hdr⟩ := hrel
    have Hdr := Lib.hid hdr
    clear hdr
    by_cases hlt : k < l.length
    · obtain ⟨g, off, hA, hg, hcell⟩ := H.out.at hlt
      obtain ⟨g', off', hA', hg', hcell'⟩ := H'.out.at hlt
      subst hA hA'
      have r0 : wr.cell? ⟨g, off + k * 3, none⟩ = some (.int .i64 l[k].row) := by obtain ⟨n, e⟩ := Hdr.out; rw [e]; exact hcell 0 _ rfl
      have r1 : wr.cell? ⟨g, off + k * 3 + 1, none⟩ = some (.int .i64 l[k].a) := by obtain ⟨n, e⟩ := Hdr.out; rw [e]; exact hcell 1 _ rfl
      have r2 : wr.cell? ⟨g, off + k * 3 + 2, none⟩ = some (.int .i64 l[k].b) := by obtain ⟨n, e⟩ := Hdr.out; rw [e]; exact hcell 2 _ rfl
      have q0 : wr.cell? ⟨g', off' + k * 3, none⟩ = some (.int .i64 l[k].row) := by obtain ⟨n, e⟩ := Hdr.out; rw [e]; exact hcell' 0 _ rfl
      have q1 : wr.cell? ⟨g', off' + k * 3 + 1, none⟩ = some (.int .i64 l[k].a) := by obtain ⟨n, e⟩ := Hdr.out; rw [e]; exact hcell' 1 _ rfl
      have q2 : wr.cell? ⟨g', off' + k * 3 + 2, none⟩ = some (.int .i64 l[k].b) := by obtain ⟨n, e⟩ := Hdr.out; rw [e]; exact hcell' 2 _ rfl
      clear hcell hcell'
      obtain ⟨x, hx⟩ : ∃ x, Hid (l[k] = x) := ⟨_, Lib.hid rfl⟩
      rw [hx.out] at r0 r1 r2 q0 q1 q2
      go_wp2
      go_quiet (fail)
      go_wp2
      go_roundw
      case rel => exact ⟨k + 1, by omega, by go_num, by obtain ⟨n, e⟩ := Hdr.out; rw [e, drew2]; exact ⟨_, rfl⟩⟩
      case measure => simp [intOf]; omega
    · go_wp2
      go_ret
      exact ⟨rfl, Hdr.out⟩
end Go.Proofs.Ytbfhfnejppfehaa
