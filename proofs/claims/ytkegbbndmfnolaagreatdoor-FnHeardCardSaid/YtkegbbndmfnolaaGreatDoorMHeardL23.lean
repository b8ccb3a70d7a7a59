import Derived.Test.YtkegbbndmfnolaaGreatDoorMHeardL11
import Derived.Test.YtkegbbndmfnolaaGreatDoorMHeardL22
/-
  What is spoken for a touch, and the touch that is told by what is spoken, in plain words.
-/
namespace Go.Proofs.YtkegbbndmfnolaaGreatDoor
open Go.RowKit
set_option linter.unusedVariables false
set_option linter.unusedSimpArgs false

def goW : ByteArray := ⟨#[103, 111]⟩
def bobW : ByteArray := ⟨#[98, 111, 98]⟩
def singleW : ByteArray := ⟨#[115, 105, 110, 103, 108, 101]⟩
def allW : ByteArray := ⟨#[97, 108, 108]⟩
def standW : ByteArray := ⟨#[115, 116, 97, 110, 100]⟩
theorem goW_sp : spokenP goW := by unfold spokenP spokenWords goW; simp
theorem bobW_sp : spokenP bobW := by unfold spokenP spokenWords bobW; simp
theorem singleW_sp : spokenP singleW := by unfold spokenP spokenWords singleW; simp
theorem allW_sp : spokenP allW := by unfold spokenP spokenWords allW; simp
theorem standW_sp : spokenP standW := by unfold spokenP spokenWords standW; simp
/-- The row at which the call of lead i is spoken. -/
def sayRow (n first : Int) (i : Nat) : Int := first + n * ((i : Int) + 1) - 2
def sayAt (n first v : Int) (i : Nat) : List Spk := if v = 98 then [⟨sayRow n first i, bobW⟩] else if v = 115 then [⟨sayRow n first i, singleW⟩] else []
def sayMid (n first : Int) (t : ByteArray) (k : Nat) : List Spk := (List.range k).flatMap fun i : Nat => sayAt n first (bat t i) i
def sayTo (n first : Int) (t : ByteArray) (k : Nat) : List Spk := ⟨first - 1, goW⟩ :: sayMid n first t k
def sayL (n first : Int) (t : ByteArray) : List Spk := sayTo n first t t.size ++ [⟨first + n * (t.size : Int), allW⟩, ⟨first + n * (t.size : Int) + 1, standW⟩]
theorem sayMid_succ (n first : Int) (t : ByteArray) (k : Nat) : sayMid n first t (k + 1) = sayMid n first t k ++ sayAt n first (bat t k) k := by
  unfold sayMid; rw [List.range_succ, List.flatMap_append]; simp
theorem sayTo_succ (n first : Int) (t : ByteArray) (k : Nat) : sayTo n first t (k + 1) = sayTo n first t k ++ sayAt n first (bat t k) k := by
  unfold sayTo; rw [sayMid_succ, List.cons_append]
theorem sayTo_zero (n first : Int) (t : ByteArray) : sayTo n first t 0 = [⟨first - 1, goW⟩] := rfl
theorem sayAt_b (n first : Int) (i : Nat) : sayAt n first 98 i = [⟨sayRow n first i, bobW⟩] := rfl
theorem sayAt_s (n first : Int) (i : Nat) : sayAt n first 115 i = [⟨sayRow n first i, singleW⟩] := rfl
theorem sayAt_p (n first v : Int) (i : Nat) (h1 : ¬ v = 98) (h2 : ¬ v = 115) : sayAt n first v i = [] := by unfold sayAt; rw [if_neg h1, if_neg h2]
theorem sayAt_mem {n first v : Int} {i : Nat} {x : Spk} (h : x ∈ sayAt n first v i) : x.row = sayRow n first i ∧ ((v = 98 ∧ x.word = bobW) ∨ (v = 115 ∧ x.word = singleW)) := by
  unfold sayAt at h
  split at h
  · rename_i e; simp at h; subst h; exact ⟨rfl, .inl ⟨e, rfl⟩⟩
  · split at h
    · rename_i e; simp at h; subst h; exact ⟨rfl, .inr ⟨e, rfl⟩⟩
    · simp at h
theorem sayAt_len (n first v : Int) (i : Nat) : (sayAt n first v i).length ≤ 1 := by unfold sayAt; split; (· simp); split <;> simp
theorem sayRow_lt {n first : Int} (hn : 2 ≤ n) (k : Nat) : first + n * (k : Int) ≤ sayRow n first k ∧ sayRow n first k < first + n * ((k + 1 : Nat) : Int) := by
  unfold sayRow
  have e : n * ((k : Int) + 1) = n * (k : Int) + n := by rw [Int.mul_add, Int.mul_one]
  have e2 : ((k + 1 : Nat) : Int) = (k : Int) + 1 := by omega
  rw [e2, e]
  omega
theorem sayTo_inv {n first : Int} (hn : 2 ≤ n) (h1 : 1 ≤ first) (t : ByteArray) : ∀ k, (sayTo n first t k).length ≤ k + 1 ∧ (sayTo n first t k).Pairwise (fun a b => a.row < b.row) ∧ ∀ x ∈ sayTo n first t k, 0 ≤ x.row ∧ x.row < first + n * (k : Int) ∧ spokenP x.word := by
  intro k
  induction k with
  | zero =>
    rw [sayTo_zero]
    refine ⟨by simp, by simp, fun x hx => ?_⟩
    simp at hx; subst hx
    exact ⟨by simp only; omega, by simp only [Int.natCast_zero, Int.mul_zero]; omega, goW_sp⟩
  | succ k ih =>
    obtain ⟨i1, i2, i3⟩ := ih
    rw [sayTo_succ]
    have hlt := sayRow_lt (first := first) hn k
    have hk0 : 0 ≤ n * (k : Int) := Int.mul_nonneg (by omega) (by omega)
    refine ⟨?_, ?_, fun x hx => ?_⟩
    · rw [List.length_append]; have := sayAt_len n first (bat t k) k; omega
    · rw [List.pairwise_append]
      refine ⟨i2, ?_, fun a ha b hb => ?_⟩
      · unfold sayAt; split
        · simp
        · split <;> simp
      · have := (i3 a ha).2.1
        have := (sayAt_mem hb).1
        omega
    · rcases List.mem_append.1 hx with hx | hx
      · have := i3 x hx
        exact ⟨this.1, by omega, this.2.2⟩
      · obtain ⟨e1, e2⟩ := sayAt_mem hx
        refine ⟨by omega, by omega, ?_⟩
        rcases e2 with e2 | e2
        · rw [e2.2]; exact bobW_sp
        · rw [e2.2]; exact singleW_sp
theorem sayL_good {n first : Int} (hn : 2 ≤ n) (h1 : 1 ≤ first) {t : ByteArray} (ht : t.size ≤ 60) (h : first + n * (t.size : Int) + 1 ≤ 3000) : spokenLP (sayL n first t) := by
  obtain ⟨i1, i2, i3⟩ := sayTo_inv hn h1 t t.size
  have hk0 : 0 ≤ n * (t.size : Int) := Int.mul_nonneg (by omega) (by omega)
  have hp : (sayL n first t).Pairwise (fun a b => a.row < b.row) := by
    unfold sayL
    rw [List.pairwise_append]
    refine ⟨i2, by simp; omega, fun a ha b hb => ?_⟩
    have := (i3 a ha).2.1
    simp at hb
    rcases hb with rfl | rfl <;> simp only <;> omega
  refine ⟨by unfold sayL; rw [List.length_append]; simp; omega, fun i hi => ?_⟩
  have hm := List.getElem_mem hi
  have hx : 0 ≤ (sayL n first t)[i].row ∧ (sayL n first t)[i].row ≤ 3000 ∧ spokenP (sayL n first t)[i].word := by
    generalize (sayL n first t)[i] = x at hm
    unfold sayL at hm
    rcases List.mem_append.1 hm with hm | hm
    · have := i3 x hm; exact ⟨this.1, by omega, this.2.2⟩
    · simp at hm
      rcases hm with rfl | rfl
      · exact ⟨by simp only; omega, by simp only; omega, allW_sp⟩
      · exact ⟨by simp only; omega, by simp only; omega, standW_sp⟩
  exact ⟨⟨hx.1, hx.2.1⟩, hx.2.2, fun h0 => (List.pairwise_iff_getElem.1 hp) (i - 1) i (by omega) hi (by omega)⟩
theorem sayL_len (n first : Int) (t : ByteArray) : (sayL n first t).length = (sayTo n first t t.size).length + 2 := by unfold sayL; rw [List.length_append]; rfl
/-- Words are spoken for a touch. -/
def sayP (m : Mth) (b s t : ByteArray) (first : Int) : Prop :=
  callsP m b s ∧ 2 ≤ m.x.length ∧ touchP t ∧ inB first 1 20 ∧ roundP m.stage.toNat m.x b s t ∧ first + (m.x.length : Int) * (t.size : Int) + 1 ≤ 3000
open Classical in
/-- What SpokenFor answers. -/
noncomputable def sayR (m : Mth) (b s t : ByteArray) (first : Int) : List Spk × Bool := if sayP m b s t first then (sayL m.x.length first t, true) else ([], false)
theorem sayR_t {m : Mth} {b s t : ByteArray} {first : Int} (h : sayP m b s t first) : sayR m b s t first = (sayL m.x.length first t, true) := by unfold sayR; rw [if_pos h]
theorem sayR_f {m : Mth} {b s t : ByteArray} {first : Int} (h : ¬ sayP m b s t first) : sayR m b s t first = ([], false) := by unfold sayR; rw [if_neg h]
theorem sayTo_len (n first : Int) (t : ByteArray) : ∀ k, (sayTo n first t k).length ≤ k + 1 := fun k => by
    induction k with
    | zero => simp [sayTo_zero]
    | succ k ih => rw [sayTo_succ, List.length_append]; have := sayAt_len n first (bat t k) k; omega
theorem sayL_small {n first : Int} {t : ByteArray} (ht : t.size ≤ 60) : (sayL n first t).length ≤ 63 := by
  have : ∀ k, (sayTo n first t k).length ≤ k + 1 := fun k => by
    induction k with
    | zero => simp [sayTo_zero]
    | succ k ih => rw [sayTo_succ, List.length_append]; have := sayAt_len n first (bat t k) k; omega
  have := this t.size
  rw [sayL_len]; omega

/-! ### The touch that is told -/
/-- A letter as a word's first. -/
def w0 (x : Spk) : Int := bat x.word 0
theorem w0_bob : bat bobW 0 = 98 := rfl
theorem w0_single : bat singleW 0 = 115 := rfl
/-- The touch, filled in by what is spoken. -/
def putWord (n first : Int) (t : List Int) (x : Spk) : List Int := t.set ((x.row - first + 2).tdiv n - 1).toNat (w0 x)
theorem sayRow_ix {n first : Int} (hn : 2 ≤ n) (i : Nat) : (sayRow n first i - first + 2).tdiv n - 1 = (i : Int) := by
  unfold sayRow
  have e : first + n * ((i : Int) + 1) - 2 - first + 2 = n * ((i : Int) + 1) := by omega
  rw [e, Int.mul_tdiv_cancel_left _ (by omega)]; omega
/-- The first k letters are told. -/
def toldL (t : ByteArray) (N k : Nat) : List Int := (List.range N).map fun i : Nat => if i < k then bat t i else 112
theorem toldL_all (t : ByteArray) : toldL t t.size t.size = batL t := by
  unfold toldL batL
  refine List.map_congr_left fun i hi => ?_
  rw [if_pos (List.mem_range.1 hi)]
theorem toldL_zero (t : ByteArray) (N : Nat) : toldL t N 0 = List.replicate N 112 := by
  refine List.ext_getElem (by simp [toldL]) fun i h1 h2 => ?_
  simp [toldL]
theorem toldL_put (t : ByteArray) (N k : Nat) (h : k < N) : (toldL t N k).set k (bat t k) = toldL t N (k + 1) := by
  refine List.ext_getElem (by simp [toldL]) fun i h1 h2 => ?_
  rw [List.getElem_set]
  simp only [toldL, List.getElem_map, List.getElem_range]
  by_cases e : k = i
  · subst e; rw [if_pos rfl, if_pos (by omega)]
  · rw [if_neg e]
    by_cases e2 : i < k
    · rw [if_pos e2, if_pos (by omega)]
    · rw [if_neg e2, if_neg (by omega)]
theorem toldL_same (t : ByteArray) (N k : Nat) (h : bat t k = 112) : toldL t N k = toldL t N (k + 1) := by
  unfold toldL
  refine List.map_congr_left fun i hi => ?_
  by_cases e : i < k
  · rw [if_pos e, if_pos (by omega)]
  · rw [if_neg e]
    by_cases e2 : i = k
    · subst e2; rw [if_pos (by omega), h]
    · rw [if_neg (by omega)]
theorem touch_byte {t : ByteArray} (h : touchP t) {i : Nat} (hi : i < t.size) : bat t i = 112 ∨ bat t i = 98 ∨ bat t i = 115 := h.1 i hi
theorem told_mid {n first : Int} (hn : 2 ≤ n) {t : ByteArray} (ht : touchP t) : ∀ k, k ≤ t.size → (sayMid n first t k).foldl (putWord n first) (List.replicate t.size 112) = toldL t t.size k := by
  intro k
  induction k with
  | zero => intro _; rw [toldL_zero]; rfl
  | succ k ih =>
    intro hk
    rw [sayMid_succ, List.foldl_append, ih (by omega)]
    rcases touch_byte ht (show k < t.size by omega) with e | e | e
    · rw [e, sayAt_p _ _ _ _ (by omega) (by omega)]
      exact toldL_same t _ k e
    · have hp := toldL_put t t.size k (by omega)
      rw [e] at hp ⊢
      rw [sayAt_b]
      simp only [List.foldl_cons, List.foldl_nil, putWord, w0]
      rw [sayRow_ix hn k, w0_bob, Int.toNat_natCast]
      exact hp
    · have hp := toldL_put t t.size k (by omega)
      rw [e] at hp ⊢
      rw [sayAt_s]
      simp only [List.foldl_cons, List.foldl_nil, putWord, w0]
      rw [sayRow_ix hn k, w0_single, Int.toNat_natCast]
      exact hp
/-- The reference's letter for a row. -/
def isBS (w : ByteArray) : Prop := w = bobW ∨ w = singleW
open Classical in
noncomputable def pickW (r : Int) (a : Int) (x : Spk) : Int := if x.row = r ∧ isBS x.word then w0 x else a
/-- A list is what is spoken for a touch. -/
def saidP (m : Mth) (b s : ByteArray) (l : List Spk) (t : ByteArray) (first : Int) : Prop := sayP m b s t first ∧ sayL m.x.length first t = l
theorem mkS_batL (t : ByteArray) : mkS (batL t) = t := mkS_ext (batL_len t) fun i hi => batL_at t i hi
/-- What the list tells of its touch. -/
theorem saidP.facts {m : Mth} {b s t : ByteArray} {l : List Spk} {first : Int} (h : saidP m b s l t first) :
    spokenLP l ∧ 3 ≤ l.length ∧ (∀ h0 : 0 < l.length, l[0].row = first - 1) ∧ (∀ h1 : l.length - 2 < l.length, (l[l.length - 2].row - first).tdiv (m.x.length : Int) = (t.size : Int)) ∧ (l.drop 1).take (l.length - 3) = sayMid m.x.length first t t.size := by
  obtain ⟨⟨hc, hx, ht, hf, hr, h3⟩, e⟩ := h
  have hn : (2 : Int) ≤ (m.x.length : Int) := by omega
  have hl := sayL_len m.x.length first t
  have hl1 : (sayTo m.x.length first t t.size).length = (sayMid m.x.length first t t.size).length + 1 := by unfold sayTo; simp
  subst e
  refine ⟨sayL_good hn hf.1 ht.2.2 h3, by omega, fun h0 => rfl, fun h1 => ?_, ?_⟩
  · have e : (sayL m.x.length first t)[(sayL m.x.length first t).length - 2] = ⟨first + (m.x.length : Int) * (t.size : Int), allW⟩ := by
      have : (sayL m.x.length first t).length - 2 = (sayTo m.x.length first t t.size).length := by omega
      simp only [this]
      unfold sayL
      rw [List.getElem_append_right (by omega)]
      simp
    rw [e]
    simp only
    rw [show first + (m.x.length : Int) * (t.size : Int) - first = (m.x.length : Int) * (t.size : Int) by omega, Int.mul_tdiv_cancel_left _ (by omega)]
  · rw [hl, hl1]
    unfold sayL sayTo
    simp
theorem saidP.prog {m : Mth} {b s t : ByteArray} {l : List Spk} {first : Int} (h : saidP m b s l t first) : mkS (((l.drop 1).take (l.length - 3)).foldl (putWord m.x.length first) (List.replicate t.size 112)) = t := by
  rw [h.facts.2.2.2.2, told_mid (by have := h.1.2.1; omega) h.1.2.2.1 _ (Nat.le_refl _), toldL_all, mkS_batL]
theorem saidP.uniq {m : Mth} {b s t t' : ByteArray} {l : List Spk} {first first' : Int} (h : saidP m b s l t first) (h' : saidP m b s l t' first') : t = t' ∧ first = first' := by
  have f := h.facts
  have f' := h'.facts
  have e1 : first = first' := by have := f.2.2.1 (by omega); have := f'.2.2.1 (by omega); omega
  subst e1
  have e2 : t.size = t'.size := by have := f.2.2.2.1 (by omega); have := f'.2.2.2.1 (by omega); omega
  have p := h.prog
  have p' := h'.prog
  rw [← e2] at p'
  exact ⟨p.symm.trans p', rfl⟩
open Classical in
/-- What TouchSaid answers. -/
noncomputable def saidR (m : Mth) (b s : ByteArray) (l : List Spk) : ByteArray × Int × Bool :=
  if h : ∃ x : ByteArray × Int, saidP m b s l x.1 x.2 then (h.choose.1, h.choose.2, true) else (⟨#[]⟩, 0, false)
end Go.Proofs.YtkegbbndmfnolaaGreatDoor
