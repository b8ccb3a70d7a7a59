/-
  The sums of the errors of each bell: in plain words, and the contracts of both sides.
-/
import Derived.Test.YtebmlcollanfhaaBlows
import Derived.Test.YtebmlcollanfhaaRowsL
import Derived.Test.YtebmlcollanfhaaIntsL
import Derived.Test.YtebmlcollanfhaaClone
import Derived.Test.YtebmlcollanfhaaL1c
import Derived.Test.YtebmlcollanfhaaQuiet
import Derived.StillTailTactics
namespace Go.Proofs.Ytebmlcollanfhaa
open Go.RowKit
set_option linter.unusedVariables false
set_option linter.unusedSimpArgs false
set_option maxRecDepth 100000

def absI (e : Int) : Int := if e < 0 then -e else e
theorem absI_bd {e : Int} (h : inB e (-10000000) 10000000) : 0 ≤ absI e ∧ absI e ≤ 10000000 := by unfold inB at h; unfold absI; split <;> omega
/-- The bell of a blow, from 0 on. -/
def bellIx (rows : List ByteArray) (x : Blw) : Nat := (bat (rows.getD x.row.toNat ⟨#[]⟩) (x.place - 1) - 49).toNat
/-- The sums behind the first k blows. -/
def worstTo (rows : List ByteArray) (l : List Blw) (es : List Int) (n : Nat) : Nat → List Int
  | 0 => List.replicate n 0
  | k + 1 => match l[k]?, es[k]? with
    | some x, some e => (worstTo rows l es n k).set (bellIx rows x) ((worstTo rows l es n k).getD (bellIx rows x) 0 + absI e)
    | _, _ => worstTo rows l es n k
theorem worstTo_len (rows : List ByteArray) (l : List Blw) (es : List Int) (n : Nat) : ∀ k, (worstTo rows l es n k).length = n
  | 0 => by simp [worstTo]
  | k + 1 => by
    have ih := worstTo_len rows l es n k
    simp only [worstTo]
    split
    · rw [List.length_set]; exact ih
    · exact ih
theorem worstTo_bd (rows : List ByteArray) (l : List Blw) (es : List Int) (n : Nat) : ∀ k (h : ∀ (i : Nat) (hi : i < es.length), i < k → inB es[i] (-10000000) 10000000) (p : Nat), 0 ≤ (worstTo rows l es n k).getD p 0 ∧ (worstTo rows l es n k).getD p 0 ≤ k * 10000000
  | 0, _, p => by
    simp only [worstTo, List.getD_eq_getElem?_getD, List.getElem?_replicate]
    split <;> simp
  | k + 1, h, p => by
    have ih := worstTo_bd rows l es n k (fun i hi hk => h i hi (by omega))
    simp only [worstTo]
    split
    · rename_i x e hx he
      have hb := absI_bd (by obtain ⟨h1, h2⟩ := List.getElem?_eq_some_iff.1 he; rw [← h2]; exact h k h1 (by omega) : inB e (-10000000) 10000000)
      have i1 := ih (bellIx rows x)
      have i2 := ih p
      rw [List.getD_eq_getElem?_getD, List.getElem?_set]
      rw [List.getD_eq_getElem?_getD] at i1 i2
      split
      · split
        · simp only [Option.getD_some]
          rw [List.getD_eq_getElem?_getD]
          omega
        · simp only [Option.getD_none]; omega
      · omega
    · have := ih p; omega
theorem worstTo_step {rows : List ByteArray} {l : List Blw} {es : List Int} {n k : Nat} {x : Blw} {e : Int} (hx : l[k]? = some x) (he : es[k]? = some e) :
    worstTo rows l es n (k + 1) = (worstTo rows l es n k).set (bellIx rows x) ((worstTo rows l es n k).getD (bellIx rows x) 0 + absI e) := by
  simp only [worstTo, hx, he]
/-- All is valid. -/
def base5 (es : List Int) (rows : List ByteArray) (l : List Blw) : Prop :=
  es.length ≤ 400 ∧ rowsP rows ∧ 0 < rows.length ∧ l.length = es.length ∧ blowsP (sz0 rows) l
def goodTo (es : List Int) (rows : List ByteArray) (l : List Blw) (k : Nat) : Prop := ∀ (j : Nat) (h1 : j < es.length) (h3 : j < l.length), j < k → inB es[j] (-10000000) 10000000 ∧ l[j].row < rows.length
def worstP (es : List Int) (rows : List ByteArray) (l : List Blw) : Prop := base5 es rows l ∧ goodTo es rows l es.length
theorem goodTo_succ {es : List Int} {rows : List ByteArray} {l : List Blw} {k : Nat} (h : goodTo es rows l k) (h1 : k < es.length) (h3 : k < l.length) (he : inB es[k] (-10000000) 10000000) (hx : l[k].row < rows.length) : goodTo es rows l (k + 1) := fun j a b c => by
  rcases Nat.lt_or_eq_of_le (Nat.le_of_lt_succ c) with h' | rfl
  · exact h j a b h'
  · exact ⟨he, hx⟩
theorem abs_any (e : Int) (w : World) (h : inB e (-10000000) 10000000) : Calls Try.prog 198 #[.int .i64 e] w fun e' w' => e' = .returned (.int .i64 (absI e)) ∧ w = w' := by
  unfold inB at h
  obtain ⟨h1, h2⟩ := h
  by_cases h0 : e < 0
  · have e1 : absI e = -e := if_pos h0
    have E1 := Lib.hid e1
    clear e1
    have h3 : e < -e := by omega
    go_enter Try.func198, Try.ntmps198
    go_wp2
    go_ret
    exact ⟨ret_int E1.out.symm, rfl⟩
  · have e1 : absI e = e := if_neg h0
    have E1 := Lib.hid e1
    clear e1
    have h3 : ¬ e < -e := by omega
    go_enter Try.func198, Try.ntmps198
    go_wp2
    go_ret
    exact ⟨ret_int E1.out.symm, rfl⟩
theorem far0_any (e : Int) (w : World) (h : inB e (-10000000) 10000000) : Calls Try.prog 246 #[.int .i64 e, .int .i64 0] w fun e' w' => e' = .returned (.int .i64 (absI e)) ∧ w = w' := by
  unfold inB at h
  obtain ⟨h1, h2⟩ := h
  have hm : ∀ (x y : Int) (w : World), Calls Try.prog 83 #[.int .i64 x, .int .i64 y] w fun e w' => e = .returned (.int .i64 (if x < y then y else x)) ∧ w = w' := fun x y w => by
    by_cases h : x < y
    · have h' : ¬ y < x := by omega
      go_enter Try.func83, Try.ntmps83
      go_wp2
      go_ret
      exact ⟨rfl, rfl⟩
    · by_cases h' : y < x
      · go_enter Try.func83, Try.ntmps83
        go_wp2
        go_ret
        exact ⟨rfl, rfl⟩
      · obtain rfl : x = y := by omega
        go_enter Try.func83, Try.ntmps83
        go_wp2
        go_ret
        exact ⟨rfl, rfl⟩
  have hab : Hid (absI e = if e < -e then -e else e) := Lib.hid (by unfold absI; by_cases h0 : e < 0 <;> by_cases h3 : e < -e <;> simp [h0, h3] <;> omega)
  have Hm := Lib.hid hm
  clear hm
  go_enter Try.func246, Try.ntmps246
  go_wp2_with (go_at_call 83; refine (Hm.out _ _ _).mono ?_; rintro e' w' ⟨rfl, rfl⟩)
  all_goals
    go_ret
    exact ⟨ret_int (by rw [hab.out]; simp; try omega), rfl⟩

/-- What a round has at hand. -/
theorem worst_round {es : List Int} {rows : List ByteArray} {l : List Blw} (hp : base5 es rows l) {k : Nat} (hk : k < es.length) (hk3 : k < l.length) (hek : inB es[k] (-10000000) 10000000) (hxk : l[k].row < rows.length) :
    ∃ (r i : Nat) (hr : r < rows.length), l[k].row = r ∧ r < 800 ∧ l[k].place = (i : Int) + 1 ∧ i < 8 ∧ i < rows[r].size ∧ rows[r].size ≤ 8 ∧ 49 ≤ bat rows[r] i ∧ bat rows[r] i < 49 + sz0 rows ∧ sz0 rows ≤ 8 ∧ 3 ≤ sz0 rows ∧ bellIx rows l[k] = (bat rows[r] i - 49).toNat ∧ inB es[k] (-10000000) 10000000 := by
  obtain ⟨_, hrw, _, _, hb⟩ := hp
  have b1 := hb.2.2 k hk3
  have b2 := b1.1
  have b3 := b1.2.1
  have b4 := hxk
  unfold inB at b2 b3
  obtain ⟨r, hr⟩ : ∃ r : Nat, l[k].row = r := ⟨l[k].row.toNat, by omega⟩
  obtain ⟨i, hi⟩ : ∃ i : Nat, l[k].place = (i : Int) + 1 := ⟨(l[k].place - 1).toNat, by omega⟩
  have hrl : r < rows.length := by omega
  have hrow := hrw.2 r hrl
  have hsz := hrow.1.2.1
  have hsz3 := hrow.1.1
  have hle := hrw.1
  have hi2 : i < rows[r].size := by rw [hrow.2]; omega
  have hbt := hrow.1.2.2.1 i hi2
  refine ⟨r, i, hrl, hr, by omega, hi, by omega, hi2, hsz, hbt.1, by rw [← hrow.2]; exact hbt.2, by rw [← hrow.2]; exact hsz, by rw [← hrow.2]; exact hsz3, ?_, hek⟩
  unfold bellIx
  rw [hr, hi]
  have e1 : rows.getD (r : Int).toNat ⟨#[]⟩ = rows[r] := by rw [Int.toNat_natCast, List.getD_eq_getElem?_getD, List.getElem?_eq_getElem hrl]; rfl
  have e2 : (i : Int) + 1 - 1 = (i : Int) := by omega
  rw [e1, e2]

end Go.Proofs.Ytebmlcollanfhaa
