import Derived.Test.YtkegbbndmfnolaaGreatDoorRows
import Derived.Test.YtkegbbndmfnolaaGreatDoorMBandsL00
import Derived.ProofKit
import Derived.OpenShut
import Derived.ShutString
import Derived.Below
import Derived.Carry
import Derived.Deep.Slices
import Derived.Deep.Fields
import Derived.StillTailTactics
import Derived.Deep.RegionHeld3
/-
 Contract of markText: the mark of a number.
-/
namespace Go.Proofs.YtkegbbndmfnolaaGreatDoor
open Go.RowKit
set_option linter.unusedVariables false
set_option linter.unusedSimpArgs false
set_option maxRecDepth 100000

/-- What a law's size function tells: too large, or what is left. -/
def SzOk (r left : Int) (n : Nat) (sm : Prop) : Prop := r < 0 ∨ (0 ≤ r ∧ r ≤ left ∧ (n : Int) ≤ left ∧ sm)
/-- The decimal digits of a number, none for 0. -/
def digN : Nat → Nat → List Int
 | 0, _ => []
 | f + 1, k => if k = 0 then [] else digN f (k / 10) ++ [48 + ((k % 10 : Nat) : Int)]
def digs (k : Nat) : List Int := digN k k
theorem mkS_app (l m : List Int) : mkS l ++ mkS m = mkS (l ++ m) := by
 apply ByteArray.ext
 simp [mkS, ByteArray.data_append]
/-- The mark of a number from 1 on. -/
def markT (k : Nat) : ByteArray := mkS ([109] ++ digs k)

end Go.Proofs.YtkegbbndmfnolaaGreatDoor

/-
 A law's last step, once for all: a call that answers true and leaves every block that was there as it was meets the row's post.
-/
namespace Go.Proofs.YtkegbbndmfnolaaGreatDoor
open Go.ChangeShapes Go.WideShapes Go.ChangeAt Go.RowKit

theorem trodAll_below {H : Type} {enc : TypeId × Value → H} {P : Program} (hl : laidOutB P = true) {W W' : World} (hb : Below W.heap.size W W') :
  ∀ (ts : List TypeId) (vs : List Value) (ds : List (DataW H)) (ps : List MemPlace), ts.all (fun t => P.readableRec t && decide (t < P.types.size)) = true →
   DataW.TrodAll enc P W 0 (fun _ => true) true ts vs ds ps → (∀ x ∈ ps, x.block < W.heap.size) →
   DataW.TrodAll enc P W' 0 (fun b => decide (b < W.heap.size)) true ts vs ds ps := by
 intro ts
 induction ts with
 | nil =>
  intro vs ds ps _ h _
  obtain ⟨rfl, rfl, rfl⟩ := trodAll_nil h
  exact trodAll_mk0
 | cons t ts ih =>
  intro vs ds ps hr h hlt
  obtain ⟨v, vs', d, ds', p, q, rfl, rfl, rfl, h0, h1⟩ := trodAll_cons h
  rw [List.all_cons, Bool.and_eq_true, Bool.and_eq_true, decide_eq_true_eq] at hr
  exact trodAll_cons_mk (Below.trod hl hr.1.1 hr.1.2 h0 hb (fun x hx => hlt x (List.mem_append.2 (.inl hx)))) (ih _ _ _ hr.2 h1 (fun x hx => hlt x (List.mem_append.2 (.inr hx))))

theorem law_post {H : Type} {enc : TypeId × Value → H} {P : Program} {f : Func} {s : ChangeSpec} {apart : Bool} {W W' : World} {args : Array Value} {ds : List (DataW H)} {before : List MemPlace} {tb : TypeId}
  (hl : laidOutB P = true) (hr : f.params.toList.all (fun t => P.readableRec t && decide (t < P.types.size)) = true)
  (ht : f.resultTypes = #[tb]) (hu : P.underlying tb = some .bool) (hv : s.vars = []) (hs : s.fn H (ds ++ []) = { results := [.lit (.bool true)], args := ds })
  (hW : DataW.Whole enc P f.params.toList s.vars apart W args.toList ds [] before) (hb : Below W.heap.size W W') :
  s.post enc P f apart true false false W args (.bool true) W' := by
 have hlt : ∀ p ∈ before, p.block < W.heap.size := fun p hp => by simpa using hW.lt p hp
 have hW' := hW
 obtain ⟨p, q, hA, hV, rfl, _, _⟩ := hW
 rw [hv] at hV
 obtain ⟨_, rfl⟩ := trodVars_none hV
 refine ⟨ds, [], p ++ [], [], p, [], hW', ?_, ?_, ?_, World.keptBut_mono (fun x hx => ⟨hx, ?_⟩) (hb.frame (· ∈ p ++ [])), fun h => by cases h⟩
 ·rw [hs, ht]
  exact trodAll_cons_mk (shut_bool hu _) trodAll_mk0
 ·rw [hs]
  exact trodAll_below hl hb _ _ _ _ hr hA (fun x hx => hlt x (List.mem_append.2 (.inl hx)))
 ·rw [hs, hv]
  rfl
 ·right; left; simpa using hx
end Go.Proofs.YtkegbbndmfnolaaGreatDoor

/-
 A law's arguments, opened: a slice reads as a list of elements; a struct by value.
-/
namespace Go.Proofs.YtkegbbndmfnolaaGreatDoor
open Go.ChangeShapes Go.WideShapes Go.ChangeAt Go.RowKit Go.Deep
set_option linter.unusedVariables false
set_option linter.unusedSimpArgs false

theorem choose_list {α : Type} (Q : Nat → α → Prop) : ∀ n, (∀ i, i < n → ∃ x, Q i x) → ∃ l : List α, l.length = n ∧ ∀ (i : Nat) (hi : i < l.length), Q i l[i]
 | 0, _ => ⟨[], rfl, fun i hi => by simp at hi⟩
 | n + 1, h => by
  obtain ⟨l, hl, hq⟩ := choose_list Q n (fun i hi => h i (by omega))
  obtain ⟨x, hx⟩ := h n (by omega)
  refine ⟨l ++ [x], by simp [hl], fun i hi => ?_⟩
  by_cases e : i < l.length
  ·rw [List.getElem_append_left e]; exact hq i e
  ·obtain rfl : i = n := by simp at hi; omega
   rw [List.getElem_append_right (by omega)]
   simpa using hx

section
variable {H : Type} {enc : TypeId × Value → H} {P : Program} {w : World} {base : Nat} {spare : Nat → Bool} {held : Bool}
theorem open_list {α : Type} {r : Reach} {b0 : Nat} {t e : TypeId} {v : Value} {d : DataW H} {p : List MemPlace} (ht : P.underlying t = some (.slice e)) (C : Nat) (hC : P.cellsOf e = C) (hC0 : 0 < C)
  (en : α → List Value) (ok : α → Prop) (hel : ∀ (n : Nat) (cs : List Value) (y : DataW H × List MemPlace), DataW.trod enc P w base spare held n e cs = some y → ∃ x : α, cs = en x ∧ ok x)
  (hv : Value.okWide P w r b0 t v) (h : DataW.Trod enc P w base spare held t v d p) :
  ∃ (A : Option Addr) (l : List α) (c : Nat), v = .slice A l.length c ∧ l.length ≤ maxLen ∧ RdL w w.heap.size A C en l ∧ ∀ x ∈ l, ok x := by
 obtain ⟨a0, len, cap, rfl⟩ := okWide_slice ht hv
 obtain ⟨fuel, hf⟩ := h
 have hf' : DataW.trod enc P w base spare held fuel t [.slice a0 len cap] = some (d, p) := by simpa [Value.cells] using hf
 rcases open_slice ht hf' with ⟨h0, _⟩ | ⟨a, len', cap', m, n, D, Pl, hcs, _, hl, hm, hmm, _, hi⟩
 ·simp only [List.cons.injEq, Value.slice.injEq, and_true] at h0
  obtain ⟨rfl, rfl, rfl⟩ := h0
  exact ⟨none, [], 0, rfl, by simp, .inl rfl, by simp⟩
 ·simp only [List.cons.injEq, Value.slice.injEq, and_true] at hcs
  obtain ⟨rfl, rfl, rfl⟩ := hcs
  have hle : len ≤ m := by rw [hmm]; split <;> omega
  obtain ⟨l, hlen, hq⟩ := choose_list (fun i x => (∀ (j : Nat) (u : Value), (en x)[j]? = some u → w.cell? (a.add (i * C + j)) = some u) ∧ ok x) len (fun i hi' => by
   obtain ⟨cs', hc, ht'⟩ := hi i (by omega)
   obtain ⟨x, rfl, hok⟩ := hel _ _ _ ht'
   rw [hC] at hc
   obtain ⟨_, hcl, hat⟩ := World.cells?_some hc
   refine ⟨x, fun j u hu => ?_, hok⟩
   have hj : j < C := by rw [← hcl]; exact (List.getElem?_eq_some_iff.1 hu).1
   rw [← Go.Deep.add_add, hat j hj, hu])
  subst hlen
  refine ⟨some a, l, cap, rfl, by omega, ?_, fun x hx => ?_⟩
  ·rcases Nat.eq_zero_or_pos l.length with h0 | hpos
   ·exact .inl (List.eq_nil_of_length_eq_zero h0)
   ·-- the address has no spot
    obtain ⟨cs', hc, ht'⟩ := hi 0 (by omega)
    obtain ⟨x, rfl, _⟩ := hel _ _ _ ht'
    rw [hC] at hc
    obtain ⟨_, hcl, hat⟩ := World.cells?_some hc
    have h00 := hat 0 hC0
    have hadd : (a.add (0 * C)).add 0 = a := by rw [Nat.zero_mul]; unfold Addr.add; simp
    rw [hadd, List.getElem?_eq_getElem (by omega)] at h00
    have hlt := World.block_lt_of_cell? _ _ h00
    obtain ⟨g, off, sp⟩ := a
    have hsp : sp = none := by
     unfold World.cell? at h00
     split at h00
     ·cases sp with
      | none => rfl
      | some _ => simp at h00
     ·cases h00
    subst hsp
    refine .inr ⟨g, off, rfl, hlt, fun i hi' j u hu => ?_⟩
    have := (hq i hi').1 j u hu
    have e : (⟨g, off, none⟩ : Addr).add (i * C + j) = ⟨g, off + (i * C + j), none⟩ := by unfold Addr.add; split <;> simp_all
    rw [e] at this
    exact this
  ·obtain ⟨i, hi', rfl⟩ := List.getElem_of_mem hx
   exact (hq i hi').2
end
end Go.Proofs.YtkegbbndmfnolaaGreatDoor

/-
 Contracts of the helper functions that the laws use for lists of Int.
-/
namespace Go.Proofs.YtkegbbndmfnolaaGreatDoor
open Go.RowKit Go.ChangeShapes Go.WideShapes
set_option linter.unusedVariables false
set_option linter.unusedSimpArgs false
set_option maxRecDepth 100000


def encInt (x : Int) : List Value := [.int .i64 x]
theorem encInt_len (x : Int) : (encInt x).length = 1 := rfl
def Int_small (lim : Int) (x : Int) : Prop := True
theorem Int_info : (Tryz.prog.info? 3).map (fun i => (i.zero, i.size, i.bytes)) = some (some (.int .i64 0), 1, 8) := by kernel_rfl

/-- What the marks make of a list of so many elements. -/
def markIntL (m q : Nat) : List Int := (List.range m).map fun i : Nat => (((q + i : Nat) : Int) : Int)
end Go.Proofs.YtkegbbndmfnolaaGreatDoor
/-
 Contracts: valid changes (both sides).
-/
namespace Go.Proofs.YtkegbbndmfnolaaGreatDoor
open Go.RowKit
set_option linter.unusedVariables false
set_option linter.unusedSimpArgs false
set_option maxRecDepth 100000

def dash : ByteArray := ⟨#[45]⟩
/-- The place that byte i tells; the one ahead of it (none: 0). -/
def dg (c : ByteArray) (i : Nat) : Int := bat c i - 48
def dgP (c : ByteArray) : Nat → Int
 | 0 => 0
 | i + 1 => dg c i
def stepP (n : Int) (c : ByteArray) (i : Nat) : Prop := dgP c i < dg c i ∧ dg c i ≤ n ∧ (dg c i - dgP c i) % 2 ≠ 0
def chainP (n : Int) (c : ByteArray) : Prop := (∀ i, i < c.size → stepP n c i) ∧ (n - dgP c c.size) % 2 = 0
def changeP (n : Int) (c : ByteArray) : Prop := inB n 3 8 ∧ ((c = dash ∧ n % 2 = 0) ∨ (c ≠ dash ∧ 0 < c.size ∧ (c.size : Int) ≤ n - 2 ∧ chainP n c))
theorem dash_size : dash.size = 1 := rfl
theorem size_zero {c : ByteArray} (h : c.size = 0) : c = ⟨#[]⟩ := by
 apply ByteArray.ext
 exact Array.eq_empty_of_size_eq_zero h
theorem toList_len (c : ByteArray) : c.toList.length = c.size := by rw [ByteArray.toList_eq]; simp
theorem toList_ne {c : ByteArray} (h : 0 < c.size) : ¬ c.toList = [] := fun e => by have := toList_len c; rw [e] at this; simp at this; omega
theorem toList_isEmpty {c : ByteArray} (h : 0 < c.size) : c.toList.isEmpty = false := by
 have := toList_ne h
 cases hc : c.toList with
 | nil => exact absurd hc this
 | cons _ _ => rfl
theorem toList_dash {c : ByteArray} (h : ¬ c = dash) : (c.toList == [45]) = false := by
 rw [beq_eq_false_iff_ne]
 intro e
 apply h
 apply toList_inj.1
 rw [e, ByteArray.toList_eq]; rfl
theorem steps_bound {n : Int} {c : ByteArray} : ∀ k, (∀ j, j < k → stepP n c j) → 0 ≤ dgP c k ∧ (0 < k → dgP c k ≤ n)
 | 0, _ => by simp [dgP]
 | k + 1, h => by
  have ih := steps_bound k (fun j hj => h j (by omega))
  obtain ⟨h1, h2, _⟩ := h k (by omega)
  simp only [dgP]
  omega
set_option maxHeartbeats 1600000 in
theorem l2Change_any (n : Int) (c : ByteArray) (w : World) (hc : c.size ≤ 1048576) :
  Calls Tryz.prog 114 #[.int .i64 n, .string c] w fun e w' => e = .returned (.bool (B (changeP n c))) ∧ w = w' := by
 by_cases h1 : inB n 3 8
 ·have e1 := B_t h1
  obtain ⟨h11, h12⟩ := h1
  by_cases hz : c.size = 0
  ·obtain rfl := size_zero hz
   clear hz
   go_enter Tryz.func114, Tryz.ntmps114
   go_wp2_with (go_at_call 99; refine (l1In_any _ _ _ _).mono ?_; rintro e w' ⟨rfl, rfl⟩)
   go_ret
   exact ⟨ret_f (fun h => by
    rcases h.2 with ⟨h2, _⟩ | ⟨_, h2, _⟩
    ·exact absurd (congrArg ByteArray.size h2) (by decide)
    ·exact absurd h2 (by decide)), rfl⟩
  ·have hpos : 0 < c.size := by omega
   have hE1 := toList_ne hpos
   have hE2 := toList_isEmpty hpos
   by_cases hl : n - 2 < (c.size : Int)
   ·go_enter Tryz.func114, Tryz.ntmps114
    go_wp2_with (go_at_call 99; refine (l1In_any _ _ _ _).mono ?_; rintro e w' ⟨rfl, rfl⟩)
    go_ret
    exact ⟨ret_f (fun h => by
     rcases h.2 with ⟨h2, _⟩ | ⟨_, _, h2, _⟩
     ·rw [h2, dash_size] at hl; omega
     ·omega), rfl⟩
   ·by_cases hd : c = dash
    ·have hd2 : (c.toList == [45]) = true := by rw [hd, ByteArray.toList_eq]; rfl
     have Hd := Lib.hid hd
     clear hd
     by_cases hn : n % 2 = 0
     all_goals
      go_enter Tryz.func114, Tryz.ntmps114
      go_wp2_with (go_at_call 99; refine (l1In_any _ _ _ _).mono ?_; rintro e w' ⟨rfl, rfl⟩)
      go_ret
      first
       | exact ⟨by rw [B_t (show changeP n c from ⟨⟨h11, h12⟩, .inl ⟨Hd.out, hn⟩⟩)]; simp [hn], rfl⟩
       | exact ⟨by rw [B_f (show ¬ changeP n c from fun h => by
         rcases h.2 with ⟨_, h2⟩ | ⟨h2, _⟩
         ·exact hn h2
         ·exact h2 Hd.out)]; simp [hn], rfl⟩
    ·have hd2 := toList_dash hd
     have Hd := Lib.hid hd
     have hch : Hid (changeP n c ↔ chainP n c) := Lib.hid ⟨fun h => by
      rcases h.2 with ⟨h2, _⟩ | ⟨_, _, _, h2⟩
      ·exact absurd h2 hd
      ·exact h2, fun h => ⟨⟨h11, h12⟩, .inr ⟨hd, hpos, by omega, h⟩⟩⟩
     clear hd
     go_enter Tryz.func114, Tryz.ntmps114
     go_wp2_with (go_at_call 99; refine (l1In_any _ _ _ _).mono ?_; rintro e w' ⟨rfl, rfl⟩)
     go_loop [5, 6] (fun v i => ∃ k : Nat, k ≤ c.size ∧ i = .int .i64 k ∧ v = .int .i64 (dgP c k) ∧ (∀ j, j < k → stepP n c j)) (fun _ i => c.size - (intOf i).toNat)
     case atStart => exact ⟨0, by omega, by rfl, by rfl, fun j hj => by omega⟩
     case round =>
      obtain ⟨k, hk, rfl, rfl, hq⟩ := hrel
      obtain ⟨b0, b1⟩ := steps_bound k hq
      have Hq := Lib.hid hq
      clear hq
      obtain ⟨P, hP⟩ : ∃ P, Hid (dgP c k = P) := ⟨_, Lib.hid rfl⟩
      rw [hP.out] at b0 b1 ⊢
      have b2 : P ≤ 8 := by
       rcases Nat.eq_zero_or_pos k with h0 | h0
       ·rw [← hP.out, h0]; simp [dgP]
       ·have := b1 h0; omega
      have B1 := Lib.hid b1
      clear b1
      by_cases hlt : k < c.size
      ·have hb0 := bat_lo c k
       have hb1 := bat_hi c k
       have hst : Hid (stepP n c k ↔ P < bat c k - 48 ∧ bat c k - 48 ≤ n ∧ (bat c k - 48 - P) % 2 ≠ 0) := Lib.hid (by unfold stepP dg; rw [hP.out])
       by_cases c1 : inB (bat c k - 48) (P + 1) n
       ·have f1 := B_t c1
        obtain ⟨c11, c12⟩ := c1
        by_cases c2 : (bat c k - 48 - P) % 2 = 0
        ·have hno : Hid (¬ stepP n c k) := Lib.hid (fun h => (hst.out.1 h).2.2 c2)
         go_wp2_with (go_at_call 99; refine (l1In_any _ _ _ _).mono ?_; rintro e w' ⟨rfl, rfl⟩)
         go_ret
         exact ⟨ret_f (fun h => hno.out ((hch.out.1 h).1 k hlt)), rfl⟩
        ·have hye : Hid (stepP n c k) := Lib.hid (hst.out.2 ⟨by omega, c12, c2⟩)
         go_wp2_with (go_at_call 99; refine (l1In_any _ _ _ _).mono ?_; rintro e w' ⟨rfl, rfl⟩)
         go_round
         case rel =>
          refine ⟨k + 1, by omega, by go_num, by simp only [dgP, dg], fun j hj => ?_⟩
          rcases Nat.lt_or_eq_of_le (Nat.le_of_lt_succ hj) with h' | rfl
          ·exact Hq.out j h'
          ·exact hye.out
         case measure => simp [intOf]; omega
       ·have f1 := B_f c1
        have C1 := Lib.hid c1
        clear c1
        go_wp2_with (go_at_call 99; refine (l1In_any _ _ _ _).mono ?_; rintro e w' ⟨rfl, rfl⟩)
        go_ret
        exact ⟨ret_f (fun h => C1.out (by have := hst.out.1 ((hch.out.1 h).1 k hlt); exact ⟨by omega, this.2.1⟩)), rfl⟩
      ·obtain rfl : k = c.size := by omega
       have b3 : P ≤ n := B1.out hpos
       by_cases hn : (n - P) % 2 = 0
       all_goals
        go_wp2
        go_ret
        first
         | exact ⟨by rw [B_t (hch.out.2 ⟨Hq.out, by rw [hP.out]; exact hn⟩)]; simp [hn], rfl⟩
         | exact ⟨by rw [B_f (fun h => hn (by have := (hch.out.1 h).2; rw [hP.out] at this; exact this))]; simp [hn], rfl⟩
 ·have e1 := B_f h1
  have H1 := Lib.hid h1
  clear h1
  go_enter Tryz.func114, Tryz.ntmps114
  go_wp2_with (go_at_call 99; refine (l1In_any _ _ _ _).mono ?_; rintro e w' ⟨rfl, rfl⟩)
  go_ret
  exact ⟨ret_f (fun h => H1.out h.1), rfl⟩
/-- The places that a text tells. -/
def dgL (c : ByteArray) : List Int := (List.range c.size).map (dg c)
def digsP (c : ByteArray) : Prop := ∀ i : Nat, i < c.size → 49 ≤ bat c i ∧ bat c i ≤ 56
def dgTo (c : ByteArray) (k : Nat) : List Int := (List.range k).map (dg c)
theorem dgTo_succ (c : ByteArray) (k : Nat) : dgTo c (k + 1) = dgTo c k ++ [bat c k - 48] := by unfold dgTo; rw [List.range_succ, List.map_append]; rfl
theorem dgTo_len (c : ByteArray) (k : Nat) : (dgTo c k).length = k := by simp [dgTo]

set_option maxHeartbeats 1600000 in
theorem places_t (c : ByteArray) (w : World) (hc : c.size ≤ 1048576) (hp : digsP c) :
  Calls Tryz.prog 158 #[.string c] w fun e w' => ∃ A c2, e = .returned (.tuple #[.slice A (dgL c).length c2, .bool true]) ∧ OwnL w' w.heap.size w'.heap.size A 1 encInt (dgL c) ∧ Below w.heap.size w w' := by
 have HP := Lib.hid hp
 clear hp
 have hcs := hc
 go_enter Tryz.func158, Tryz.ntmps158
 go_wp2
 go_loopw [4, 9] (fun v i wr => ∃ k : Nat, k ≤ c.size ∧ i = .int .i64 k ∧ Grow wr w.heap.size 3 1 encInt v (dgTo c k) ∧ (∀ j : Nat, j < k → 49 ≤ bat c j ∧ bat c j ≤ 56) ∧ Below w.heap.size w wr) (fun _ i _ => c.size - (intOf i).toNat)
 case atStart => exact ⟨0, by omega, by rfl, Grow.empty (Nat.le_refl _), fun j hj => by omega, (Below.refl _ _).alloc (Nat.le_refl _) _⟩
 case round =>
  obtain ⟨k, hk, rfl, hg, hq, hbl⟩ := hrel
  have Hg := Lib.hid hg
  have Hq := Lib.hid hq
  have Hbl := Lib.hid hbl
  have hgs := hbl.size
  have hlen := Nat.le_of_eq (dgTo_len c k)
  clear hg hq hbl
  by_cases hlt : k < c.size
  ·have hb0 := bat_lo c k
   have hb1 := bat_hi c k
   by_cases h1 : bat c k < 49
   ·exact absurd (HP.out k hlt) (by omega)
   ·by_cases h2 : 56 < bat c k
    ·exact absurd (HP.out k hlt) (by omega)
    ·have hsu := Lib.hid (dgTo_succ c k)
     have hone : ∀ u ∈ [Value.int .i64 (bat c k - 48)], u.oneCell' = true := by simp [Value.oneCell']
     have Hone := Lib.hid hone
     clear hone
     go_wp2_with (at_builtin; refine wpList_push rfl (.tmp 22) (.tmp 28) 70 rfl w.heap.size 3 _ 1 8 encInt rfl Int_info rfl (by omega) u4 (dgTo c k) [bat c k - 48] 1 rfl rfl (by simp) Hg.out rfl encInt_len Hone.out (by first | omega | (simp; omega)) (by omega) (by first | omega | (simp; omega)) ?_; intro v' w2 hg2 hb2 _)
     go_roundw
     case rel =>
      refine ⟨k + 1, by omega, by go_num, by rw [hsu.out]; exact hg2, fun j hj => ?_, Hbl.out.trans hb2⟩
      rcases Nat.lt_or_eq_of_le (Nat.le_of_lt_succ hj) with h' | rfl
      ·exact Hq.out j h'
      ·omega
     case measure => simp [intOf]; omega
  ·obtain rfl : k = c.size := by omega
   go_wp2
   go_ret2
   obtain ⟨A, c2, hv, ho⟩ := Hg.out.own encInt_len
   exact ⟨A, c2, by rw [hv]; rfl, ho, Hbl.out⟩
set_option maxHeartbeats 1600000 in
theorem places_f (c : ByteArray) (w : World) (hc : c.size ≤ 1048576) (hp : ¬ digsP c) :
  Calls Tryz.prog 158 #[.string c] w fun e w' => e = .returned (.tuple #[.slice none 0 0, .bool false]) ∧ Below w.heap.size w w' := by
 have HP := Lib.hid hp
 clear hp
 have hcs := hc
 go_enter Tryz.func158, Tryz.ntmps158
 go_wp2
 go_loopw [4, 9] (fun v i wr => ∃ k : Nat, k ≤ c.size ∧ i = .int .i64 k ∧ Grow wr w.heap.size 3 1 encInt v (dgTo c k) ∧ (∀ j : Nat, j < k → 49 ≤ bat c j ∧ bat c j ≤ 56) ∧ Below w.heap.size w wr) (fun _ i _ => c.size - (intOf i).toNat)
 case atStart => exact ⟨0, by omega, by rfl, Grow.empty (Nat.le_refl _), fun j hj => by omega, (Below.refl _ _).alloc (Nat.le_refl _) _⟩
 case round =>
  obtain ⟨k, hk, rfl, hg, hq, hbl⟩ := hrel
  have Hg := Lib.hid hg
  have Hq := Lib.hid hq
  have Hbl := Lib.hid hbl
  have hgs := hbl.size
  have hlen := Nat.le_of_eq (dgTo_len c k)
  clear hg hq hbl
  by_cases hlt : k < c.size
  ·have hb0 := bat_lo c k
   have hb1 := bat_hi c k
   by_cases h1 : bat c k < 49
   ·(go_wp2 <;> (go_ret2; exact ⟨rfl, Hbl.out⟩))
   ·by_cases h2 : 56 < bat c k
    ·(go_wp2 <;> (go_ret2; exact ⟨rfl, Hbl.out⟩))
    ·have hsu := Lib.hid (dgTo_succ c k)
     have hone : ∀ u ∈ [Value.int .i64 (bat c k - 48)], u.oneCell' = true := by simp [Value.oneCell']
     have Hone := Lib.hid hone
     clear hone
     go_wp2_with (at_builtin; refine wpList_push rfl (.tmp 22) (.tmp 28) 70 rfl w.heap.size 3 _ 1 8 encInt rfl Int_info rfl (by omega) u4 (dgTo c k) [bat c k - 48] 1 rfl rfl (by simp) Hg.out rfl encInt_len Hone.out (by first | omega | (simp; omega)) (by omega) (by first | omega | (simp; omega)) ?_; intro v' w2 hg2 hb2 _)
     go_roundw
     case rel =>
      refine ⟨k + 1, by omega, by go_num, by rw [hsu.out]; exact hg2, fun j hj => ?_, Hbl.out.trans hb2⟩
      rcases Nat.lt_or_eq_of_le (Nat.le_of_lt_succ hj) with h' | rfl
      ·exact Hq.out j h'
      ·omega
     case measure => simp [intOf]; omega
  ·obtain rfl : k = c.size := by omega
   exact absurd (fun j hj => Hq.out j hj) HP.out
theorem ints_of {w : World} {b : Nat} {A : Option Addr} {l : List Int} (h : RdL w b A 1 encInt l) (hl : 0 < l.length) :
  ∃ g off, A = some ⟨g, off, none⟩ ∧ g < b ∧ ∀ (m : Nat) (hm : m < l.length), w.cell? ⟨g, off + m, none⟩ = some (.int .i64 l[m]) := by
 obtain ⟨g, off, hA, hg, _⟩ := h.at hl
 refine ⟨g, off, hA, hg, fun m hm => ?_⟩
 obtain ⟨g', off', hA', _, hcell⟩ := h.at hm
 rw [hA] at hA'
 simp only [Option.some.injEq, Addr.mk.injEq, and_true] at hA'
 obtain ⟨rfl, rfl⟩ := hA'
 have := hcell 0 _ rfl; rw [Nat.mul_one] at this; exact this
/-- Places that stay in a change. -/
def apP (n : Int) (l : List Int) : Prop := ∃ h : 0 < l.length, (l.length : Int) ≠ n ∧ l[0] % 2 ≠ 0 ∧ l[l.length - 1] % 2 = n % 2 ∧ l[l.length - 1] ≤ n ∧ ∀ (i : Nat) (hi : i + 1 < l.length), l[i] < l[i + 1] ∧ (l[i + 1] - l[i]) % 2 ≠ 0

set_option maxHeartbeats 3200000 in
theorem arePlaces_any (n : Int) (l : List Int) (A : Option Addr) (c : Nat) (w : World) (h : RdL w w.heap.size A 1 encInt l) (hl : l.length ≤ 1048576) (hn : 0 ≤ n ∧ n ≤ 8) (hb : ∀ x ∈ l, 1 ≤ x ∧ x ≤ 8) :
  Calls Tryz.prog 159 #[.int .i64 n, .slice A l.length c] w fun e w' => e = .returned (.bool (B (apP n l))) ∧ Below w.heap.size w w' := by
 obtain ⟨hn0, hn8⟩ := hn
 by_cases h0 : l.length = 0
 ·obtain rfl := List.eq_nil_of_length_eq_zero h0
  clear h0
  go_enter Tryz.func159, Tryz.ntmps159
  go_wp2
  all_goals
   go_ret
   exact ⟨ret_f (fun h => by have := h.1; simp at this), Below.refl _ _⟩
 ·have hpos : 0 < l.length := by omega
  obtain ⟨g, off, rfl, hg, hcw⟩ := ints_of h hpos
  have s0 := hcw 0 hpos
  rw [Nat.add_zero] at s0
  have s1 := hcw (l.length - 1) (by omega)
  obtain ⟨f1, f8⟩ := hb l[0] (List.getElem_mem _)
  obtain ⟨g1, g8⟩ := hb l[l.length - 1] (List.getElem_mem _)
  have hap : Hid (apP n l ↔ (l.length : Int) ≠ n ∧ l[0] % 2 ≠ 0 ∧ l[l.length - 1] % 2 = n % 2 ∧ l[l.length - 1] ≤ n ∧ ∀ (i : Nat) (hi : i + 1 < l.length), l[i] < l[i + 1] ∧ (l[i + 1] - l[i]) % 2 ≠ 0) := Lib.hid ⟨fun ⟨_, x⟩ => x, fun x => ⟨hpos, x⟩⟩
  have Hcw := Lib.hid hcw
  have Hb := Lib.hid hb
  clear h hb hcw
  generalize l[0] = F at s0 f1 f8 hap
  generalize l[l.length - 1] = G at s1 g1 g8 hap
  have z0 : ((l.length : Int) == 0) = false := by rw [beq_eq_false_iff_ne]; omega
  by_cases c1 : (l.length : Int) = n
  ·have z1 : ((l.length : Int) == n) = true := by rw [beq_iff_eq]; exact c1
   have C1 := Lib.hid c1
   clear c1
   go_enter Tryz.func159, Tryz.ntmps159
   go_wp2
   all_goals
    go_ret
    exact ⟨ret_f (fun h => (hap.out.1 h).1 C1.out), Below.refl _ _⟩
  ·have z1 : ((l.length : Int) == n) = false := by rw [beq_eq_false_iff_ne]; exact c1
   by_cases c2 : F % 2 = 0
   ·have z2 : (F % 2 == 0) = true := by rw [beq_iff_eq]; exact c2
    have C2 := Lib.hid c2
    clear c2
    go_enter Tryz.func159, Tryz.ntmps159
    go_wp2
    all_goals
     go_ret
     exact ⟨ret_f (fun h => (hap.out.1 h).2.1 C2.out), Below.refl _ _⟩
   ·have z2 : (F % 2 == 0) = false := by rw [beq_eq_false_iff_ne]; exact c2
    by_cases c3 : G % 2 = n % 2
    ·have z3 : (G % 2 == n % 2) = true := by rw [beq_iff_eq]; exact c3
     by_cases c4 : n < G
     ·have C4 := Lib.hid c4
      have z4 : decide (n < G) = true := decide_eq_true c4
      go_enter Tryz.func159, Tryz.ntmps159
      go_wp2
      all_goals
       go_ret
       exact ⟨ret_f (fun h => by have := (hap.out.1 h).2.2.2.1; have := C4.out; omega), Below.refl _ _⟩
     ·have z4 : decide (n < G) = false := decide_eq_false c4
      have hap2 : Hid (apP n l ↔ ∀ (i : Nat) (hi : i + 1 < l.length), l[i] < l[i + 1] ∧ (l[i + 1] - l[i]) % 2 ≠ 0) := Lib.hid ⟨fun h => (hap.out.1 h).2.2.2.2, fun h => hap.out.2 ⟨c1, c2, c3, by omega, h⟩⟩
      clear c1 c2 c4
      go_enter Tryz.func159, Tryz.ntmps159
      go_wp2
      go_loopw [5] (fun i wr => ∃ k : Nat, 1 ≤ k ∧ k ≤ l.length ∧ i = .int .i64 k ∧ (∀ (j : Nat) (hj : j + 1 < l.length), j + 1 < k → l[j] < l[j + 1] ∧ (l[j + 1] - l[j]) % 2 ≠ 0) ∧ Below w.heap.size w wr) (fun i _ => l.length - (intOf i).toNat)
      case atStart => exact ⟨1, by omega, by omega, by rfl, fun j _ hj => by omega, Below.refl _ _⟩
      case round =>
       obtain ⟨k, hk1, hk, rfl, hq, hbl⟩ := hrel
       have Hq := Lib.hid hq
       have Hbl := Lib.hid hbl
       clear hq hbl
       by_cases hlt : k < l.length
       ·obtain ⟨i, rfl⟩ : ∃ i, k = i + 1 := ⟨k - 1, by omega⟩
        have r0 := (Hbl.out.cell (p := ⟨g, off + i, none⟩) hg).trans (Hcw.out i (by omega))
        have r1 := (Hbl.out.cell (p := ⟨g, off + (i + 1), none⟩) hg).trans (Hcw.out (i + 1) hlt)
        have hst : Hid ((∀ (j : Nat) (hj : j + 1 < l.length), l[j] < l[j + 1] ∧ (l[j + 1] - l[j]) % 2 ≠ 0) → l[i] < l[i + 1] ∧ (l[i + 1] - l[i]) % 2 ≠ 0) := Lib.hid (fun h => h i hlt)
        obtain ⟨q1, q8⟩ := Hb.out l[i] (List.getElem_mem _)
        obtain ⟨p1, p8⟩ := Hb.out l[i + 1] (List.getElem_mem _)
        have hq2 : Hid (∀ (p : Int), (p = l[i] → True)) := Lib.hid (fun _ _ => trivial)
        generalize hpv : l[i] = pv at r0 q1 q8 hst
        generalize hqv : l[i + 1] = qv at r1 p1 p8 hst
        have Hpv := Lib.hid hpv
        have Hqv := Lib.hid hqv
        clear hpv hqv hq2
        by_cases d1 : qv ≤ pv
        ·have w1 : decide (qv ≤ pv) = true := decide_eq_true d1
         have hno : Hid (¬ apP n l) := Lib.hid (fun h => by have := (hst.out (hap2.out.1 h)).1; omega)
         go_wp2
         go_quiet (fail)
         go_wp2
         go_ret
         exact ⟨ret_f hno.out, below_drewN Hbl.out _⟩
        ·have w1 : decide (qv ≤ pv) = false := decide_eq_false d1
         by_cases d2 : (qv - pv) % 2 = 0
         ·have w2 : ((qv - pv) % 2 == 0) = true := by rw [beq_iff_eq]; exact d2
          have hno : Hid (¬ apP n l) := Lib.hid (fun h => (hst.out (hap2.out.1 h)).2 d2)
          clear d2
          go_wp2
          go_quiet (fail)
          go_wp2
          go_ret
          exact ⟨ret_f hno.out, below_drewN Hbl.out _⟩
         ·have w2 : ((qv - pv) % 2 == 0) = false := by rw [beq_eq_false_iff_ne]; exact d2
          have D1 := Lib.hid d1
          have D2 := Lib.hid d2
          clear d2
          go_wp2
          go_quiet (fail)
          go_wp2
          go_roundw
          case rel =>
           refine ⟨i + 1 + 1, by omega, by omega, by go_num, fun j hj h1 => ?_, below_drewN Hbl.out _⟩
           by_cases e : j = i
           ·subst e; rw [Hpv.out, Hqv.out]; exact ⟨by have := D1.out; omega, D2.out⟩
           ·exact Hq.out j hj (by omega)
          case measure => simp [intOf]; omega
       ·obtain rfl : k = l.length := by omega
        go_wp2
        go_ret
        exact ⟨ret_t (hap2.out.2 (fun j hj => Hq.out j hj hj)), Hbl.out⟩
    ·have z3 : (G % 2 == n % 2) = false := by rw [beq_eq_false_iff_ne]; exact c3
     have C3 := Lib.hid c3
     go_enter Tryz.func159, Tryz.ntmps159
     go_wp2
     all_goals
      go_ret
      exact ⟨ret_f (fun h => C3.out (hap.out.1 h).2.2.1), Below.refl _ _⟩
end Go.Proofs.YtkegbbndmfnolaaGreatDoor

/-
 All lists of places of a change, in plain words (no program).
-/
namespace Go.Proofs.YtkegbbndmfnolaaGreatDoor
open Go.RowKit
set_option linter.unusedVariables false
set_option linter.unusedSimpArgs false

/-- All ways to go on where k places are left. -/
def fromR (n : Nat) : Nat → List (List Int)
 | 0 => [[]]
 | 1 => [[(n : Int)]]
 | k + 2 => (fromR n (k + 1)).map (fun r => ((n : Int) - (k + 1)) :: r) ++ fromR n k
theorem fromR_succ (n k : Nat) : fromR n (k + 1) = (fromR n k).map (fun r => ((n : Int) - k) :: r) ++ (if k = 0 then [] else fromR n (k - 1)) := by
 cases k with
 | zero => simp [fromR]
 | succ k => simp [fromR]
theorem fromR_pos (n : Nat) : ∀ k, 0 < (fromR n k).length
 | 0 => by simp [fromR]
 | 1 => by simp [fromR]
 | k + 2 => by have := fromR_pos n k; simp [fromR]; omega
theorem fromR_len (n : Nat) : ∀ k, (fromR n k).length ≤ 2 ^ k
 | 0 => by simp [fromR]
 | 1 => by simp [fromR]
 | k + 2 => by
  have h1 := fromR_len n (k + 1)
  have h2 := fromR_len n k
  simp only [fromR, List.length_append, List.length_map]
  rw [show (2 : Nat) ^ (k + 2) = 2 ^ (k + 1) + 2 ^ (k + 1) by rw [Nat.pow_succ]; omega]
  have : (2 : Nat) ^ k ≤ 2 ^ (k + 1) := Nat.pow_le_pow_right (by omega) (by omega)
  omega
theorem fromR_in (n : Nat) : ∀ k, k ≤ n → ∀ r ∈ fromR n k, r.length ≤ k ∧ ∀ p ∈ r, 1 ≤ p ∧ p ≤ n
 | 0, _ => by simp [fromR]
 | 1, h => by simp [fromR]; omega
 | k + 2, h => by
  intro r hr
  simp only [fromR, List.mem_append, List.mem_map] at hr
  rcases hr with ⟨q, hq, rfl⟩ | hr
  ·have := fromR_in n (k + 1) (by omega) q hq
   refine ⟨by simp; omega, fun p hp => ?_⟩
   rcases List.mem_cons.1 hp with rfl | hp
   ·omega
   ·exact this.2 p hp
  ·have := fromR_in n k (by omega) r hr
   exact ⟨by omega, this.2⟩
/-- The last list of places: none, or the last place alone. -/
def lastR (n k : Nat) : List Int := if k % 2 = 0 then [] else [(n : Int)]
theorem fromR_last (n : Nat) : ∀ k, lastR n k ∈ fromR n k
 | 0 => by simp [fromR, lastR]
 | 1 => by simp [fromR, lastR]
 | k + 2 => by
  have := fromR_last n k
  have e : lastR n (k + 2) = lastR n k := by unfold lastR; rw [show (k + 2) % 2 = k % 2 by omega]
  rw [e]; simp only [fromR, List.mem_append]; exact .inr this
/-- The text of some places, each below ten. -/
def plcT (l : List Int) : ByteArray := mkS (l.map fun p => 48 + p)
def ofR (l : List Int) : ByteArray := if l = [] then dash else plcT l
theorem plcT_size (l : List Int) : (plcT l).size = l.length := by unfold plcT; rw [size_mkS]; simp
theorem ofR_nil : ofR [] = dash := if_pos rfl
theorem ofR_some {l : List Int} (h : l ≠ []) : ofR l = plcT l := if_neg h
/-- The last list of places makes a valid change. -/
theorem last_change {n : Nat} (h3 : 3 ≤ n) (h8 : n ≤ 8) : changeP (n : Int) (ofR (lastR n n)) := by
 by_cases e : n % 2 = 0
 ·have : lastR n n = [] := by unfold lastR; rw [if_pos e]
  rw [this, ofR_nil]
  exact ⟨⟨by omega, by omega⟩, .inl ⟨rfl, by omega⟩⟩
 ·have : lastR n n = [(n : Int)] := by unfold lastR; rw [if_neg e]
  rw [this, ofR_some (by simp)]
  have hs : (plcT [(n : Int)]).size = 1 := plcT_size _
  have hb : bat (plcT [(n : Int)]) ((0 : Nat) : Int) = 48 + (n : Int) := by
   unfold plcT
   rw [bat_mkS _ 0 (by simp) (by simp; omega) (by simp; omega)]; simp
  have hd : dg (plcT [(n : Int)]) 0 = (n : Int) := by unfold dg; rw [hb]; omega
  refine ⟨⟨by omega, by omega⟩, .inr ⟨fun h => ?_, by omega, by omega, fun i hi => ?_, ?_⟩⟩
  ·rw [h] at hb
   have : bat dash ((0 : Nat) : Int) = 45 := rfl
   omega
  ·obtain rfl : i = 0 := by omega
   unfold stepP
   rw [hd]
   show (0 : Int) < n ∧ (n : Int) ≤ n ∧ ((n : Int) - 0) % 2 ≠ 0
   omega
  ·rw [hs]
   show ((n : Int) - dg (plcT [(n : Int)]) 0) % 2 = 0
   rw [hd]; omega
end Go.Proofs.YtkegbbndmfnolaaGreatDoor

/-
 The cycles of a finite bijection, and its points set aside one by one: as many are moved as the cycles' lengths less one: plain.
-/
set_option linter.unusedVariables false
set_option linter.unusedSimpArgs false
namespace Go.Proofs.YtkegbbndmfnolaaGreatDoor.CycT
/-- From x through l to y: each is sent to the next. -/
def path (f : Nat → Nat) : Nat → List Nat → Nat → Prop
 | x, [], y => f x = y
 | x, z :: l, y => f x = z ∧ path f z l y
theorem path_app {f : Nat → Nat} {k : Nat} {v : List Nat} {y : Nat} : ∀ {u : List Nat} {x : Nat}, path f x (u ++ k :: v) y ↔ path f x u k ∧ path f k v y
 | [], x => by simp [path]
 | z :: u, x => by simp only [List.cons_append, path, path_app (u := u), and_assoc]
theorem path_congr {f g : Nat → Nat} : ∀ {l : List Nat} {x y : Nat}, (∀ z, z = x ∨ z ∈ l → f z = g z) → path f x l y → path g x l y
 | [], x, y, h, hp => by simp only [path] at *; rw [← h x (.inl rfl)]; exact hp
 | z :: l, x, y, h, hp => by
  simp only [path] at *
  refine ⟨by rw [← h x (.inl rfl)]; exact hp.1, path_congr (fun t ht => h t (.inr (by rcases ht with rfl | ht <;> simp [*]))) hp.2⟩
/-- The last of a path is sent to its end. -/
theorem path_last {f g : Nat → Nat} {k y : Nat} : ∀ {l : List Nat} {x : Nat}, (x :: l).Nodup → (∀ z, z ∈ x :: l → f z ≠ k → g z = f z) → (∀ z, z ∈ x :: l → f z = k → g z = y) → k ∉ l → path f x l k → path g x l y
 | [], x, _, h1, h2, _, hp => by simp only [path] at *; exact h2 x (by simp) hp
 | z :: l, x, hn, h1, h2, hk, hp => by
  simp only [path] at *
  have hz : z ≠ k := fun e => hk (by simp [e])
  have hx : f x ≠ k := by rw [hp.1]; exact hz
  refine ⟨by rw [h1 x (by simp) hx]; exact hp.1, path_last (List.nodup_cons.1 hn).2 (fun t ht => h1 t (List.mem_cons_of_mem _ ht)) (fun t ht => h2 t (List.mem_cons_of_mem _ ht)) (fun e => hk (List.mem_cons_of_mem _ e)) hp.2⟩
/-- A cycle: a point and what follows. -/
abbrev Cy := Nat × List Nat
def Cy.all (c : Cy) : List Nat := c.1 :: c.2
def Cy.ok (f : Nat → Nat) (c : Cy) : Prop := path f c.1 c.2 c.1
def flat (C : List Cy) : List Nat := C.flatMap Cy.all
def excess : List Cy → Nat
 | [] => 0
 | c :: C => c.2.length + excess C
structure Dec (n : Nat) (f : Nat → Nat) (C : List Cy) : Prop where
 ok : ∀ c ∈ C, c.ok f
 nd : (flat C).Nodup
 cov : ∀ i, i < n → f i ≠ i → i ∈ flat C
/-- One point set aside: what is sent to it is sent on. -/
def aside (f : Nat → Nat) (k : Nat) : Nat → Nat := fun i => if i = k then k else if f i = k then f k else f i
theorem excess_app (A B : List Cy) : excess (A ++ B) = excess A + excess B := by
 induction A with
 | nil => simp [excess]
 | cons c A ih => simp [excess, ih, Nat.add_assoc]
theorem flat_app (A B : List Cy) : flat (A ++ B) = flat A ++ flat B := by simp [flat]
theorem flat_cons (c : Cy) (B : List Cy) : flat (c :: B) = c.all ++ flat B := by simp [flat]
theorem Dec.aside {n : Nat} {f : Nat → Nat} {C : List Cy} (h : Dec n f C) (hf : ∀ i, i < n → f i < n) (hi : ∀ i j, i < n → j < n → f i = f j → i = j) (hb : ∀ x ∈ flat C, x < n) {k : Nat} (hk : k < n) (hne : f k ≠ k) :
  ∃ C', Dec n (aside f k) C' ∧ excess C = excess C' + 1 ∧ ∀ x ∈ flat C', x < n := by
 have hm := h.cov k hk hne
 obtain ⟨c, hc, hkc⟩ : ∃ c ∈ C, k ∈ c.all := by simpa [flat] using hm
 obtain ⟨A, B, rfl⟩ := List.append_of_mem hc
 -- rotated so that k stands first
 obtain ⟨l, hl, hlen, hperm⟩ : ∃ l, path f k l k ∧ l.length = c.2.length ∧ (k :: l).Perm c.all := by
  obtain ⟨x, m⟩ := c
  have ho := h.ok _ hc
  rcases List.mem_cons.1 hkc with e | e
  ·simp only at e; subst e; exact ⟨m, ho, rfl, List.Perm.refl _⟩
  ·simp only at e
   obtain ⟨u, v, rfl⟩ := List.append_of_mem e
   have hp := path_app.1 ho
   refine ⟨v ++ x :: u, path_app.2 ⟨hp.2, hp.1⟩, by simp; omega, ?_⟩
   show (k :: (v ++ x :: u)).Perm (x :: (u ++ k :: v))
   have e1 : (k :: v ++ x :: u).Perm (x :: u ++ k :: v) := List.perm_append_comm
   simpa using e1
 have hnd := h.nd
 rw [flat_app, flat_cons] at hnd
 have hnd2 : (flat A ++ ((k :: l) ++ flat B)).Nodup := (((hperm.append_right (flat B)).append_left (flat A)).nodup_iff).2 hnd
 cases l with
 | nil => exact absurd hl hne
 | cons x l =>
  have hpx : path f x l k := hl.2
  have hkx : f k = x := hl.1
  have hmid := (List.nodup_append.1 hnd2)
  have hmid2 := List.nodup_append.1 hmid.2.1
  have hkn : k ∉ x :: l := (List.nodup_cons.1 hmid2.1).1
  have hxl : (x :: l).Nodup := (List.nodup_cons.1 hmid2.1).2
  have hbx : ∀ z ∈ k :: x :: l, z < n := fun z hz => hb z (by rw [flat_app, flat_cons]; simp only [List.mem_append]; exact .inr (.inl (hperm.subset hz)))
  have hsub : ∀ z, z ∈ flat (A ++ (x, l) :: B) → z ∈ flat (A ++ c :: B) := by
   intro z hz
   rw [flat_app, flat_cons, List.mem_append, List.mem_append] at hz ⊢
   rcases hz with hz | hz | hz
   ·exact .inl hz
   ·exact .inr (.inl (hperm.subset (List.mem_cons_of_mem _ hz)))
   ·exact .inr (.inr hz)
  -- the point that is sent to k lies in the cycle
  have hpre : ∀ z, z < n → f z = k → z ∈ x :: l := by
   intro z hz e
   -- the last of the path
   have : ∀ {l : List Nat} {x : Nat}, path f x l k → ∃ t ∈ x :: l, f t = k := by
    intro l
    induction l with
    | nil => intro x hp; exact ⟨x, by simp, hp⟩
    | cons y l ih =>
     intro x hp
     obtain ⟨t, ht, he⟩ := ih hp.2
     exact ⟨t, List.mem_cons_of_mem _ ht, he⟩
   obtain ⟨t, ht, he⟩ := this hpx
   have := hi t z (hbx t (List.mem_cons_of_mem _ ht)) hz (by rw [he, e])
   rw [← this]; exact ht
  refine ⟨A ++ (x, l) :: B, ⟨?_, ?_, ?_⟩, ?_, ?_⟩
  ·intro c' hc'
   have other : ∀ c' ∈ A ++ B, c'.ok (CycT.aside f k) := by
    intro c' hc'
    have hok : c'.ok f := h.ok c' (by rcases List.mem_append.1 hc' with h1 | h1 <;> simp [h1])
    refine path_congr (fun z hz => ?_) hok
    have hz' : z ∈ c'.all := by rcases hz with rfl | hz; exact List.mem_cons_self; exact List.mem_cons_of_mem _ hz
    have hzf : z ∈ flat A ∨ z ∈ flat B := by
     rcases List.mem_append.1 hc' with h1 | h1
     ·exact .inl (List.mem_flatMap.2 ⟨c', h1, hz'⟩)
     ·exact .inr (List.mem_flatMap.2 ⟨c', h1, hz'⟩)
    have hnin : z ∉ k :: x :: l := by
     intro e
     rcases hzf with h1 | h1
     ·exact hmid.2.2 z h1 z (List.mem_append.2 (.inl e)) rfl
     ·exact hmid2.2.2 z e z h1 rfl
    have hzn : z < n := hb z (by rw [flat_app, flat_cons]; rcases hzf with h1 | h1 <;> simp [h1])
    unfold CycT.aside
    rw [if_neg (fun e => hnin (by simp [e])), if_neg (fun e => hnin (List.mem_cons_of_mem _ (hpre z hzn e)))]
   rcases List.mem_append.1 hc' with h1 | h1
   ·exact other c' (List.mem_append.2 (.inl h1))
   ·rcases List.mem_cons.1 h1 with rfl | h1
    ·refine path_last hxl (fun z hz hzk => ?_) (fun z hz hzk => ?_) (fun e => hkn (List.mem_cons_of_mem _ e)) hpx
     ·unfold CycT.aside; rw [if_neg (fun e => hkn (by rw [← e]; exact hz)), if_neg hzk]
     ·unfold CycT.aside; rw [if_neg (fun e => hkn (by rw [← e]; exact hz)), if_pos hzk]; exact hkx
    ·exact other c' (List.mem_append.2 (.inr h1))
  ·rw [flat_app, flat_cons]
   refine hnd2.sublist ?_
   exact List.Sublist.append (List.Sublist.refl _) (List.Sublist.append (List.sublist_cons_self _ _) (List.Sublist.refl _))
  ·intro i hin hne'
   unfold CycT.aside at hne'
   have hik : i ≠ k := fun e => by rw [if_pos e] at hne'; exact hne' e.symm
   rw [if_neg hik] at hne'
   have hfi : f i ≠ i := by
    intro e
    rw [if_neg (by rw [e]; exact hik)] at hne'
    exact hne' e
   have hmi := h.cov i hin hfi
   rw [flat_app, flat_cons, List.mem_append, List.mem_append] at hmi ⊢
   rcases hmi with h1 | h1 | h1
   ·exact .inl h1
   ·have := hperm.symm.subset h1
    rcases List.mem_cons.1 this with e | e
    ·exact absurd e hik
    ·exact .inr (.inl e)
   ·exact .inr (.inr h1)
  ·rw [excess_app, excess_app]
   simp only [excess]
   have : c.2.length = l.length + 1 := by rw [← hlen]; rfl
   omega
  ·intro z hz; exact hb z (hsub z hz)
/-- How many points are not at home when their turn comes, from k on. -/
def moved (n : Nat) : Nat → Nat → (Nat → Nat) → Nat
 | 0, _, _ => 0
 | m + 1, k, f => if f k = k then moved n m (k + 1) f else moved n m (k + 1) (aside f k) + 1
theorem aside_lt {n k : Nat} {f : Nat → Nat} (hf : ∀ i, i < n → f i < n) (hk : k < n) : ∀ i, i < n → aside f k i < n := by
 intro i hi; unfold aside; split
 ·exact hk
 ·split
  ·exact hf k hk
  ·exact hf i hi
theorem aside_inj {n k : Nat} {f : Nat → Nat} (hf : ∀ i, i < n → f i < n) (hi : ∀ i j, i < n → j < n → f i = f j → i = j) (hk : k < n) (hne : f k ≠ k) : ∀ i j, i < n → j < n → aside f k i = aside f k j → i = j := by
 intro i j h1 h2 e
 unfold aside at e
 by_cases a : i = k <;> by_cases b : j = k
 ·rw [a, b]
 ·rw [if_pos a, if_neg b] at e
  split at e
  ·exact absurd e.symm hne
  ·rename_i h; exact absurd e.symm h
 ·rw [if_neg a, if_pos b] at e
  split at e
  ·exact absurd e hne
  ·rename_i h; exact absurd e h
 ·rw [if_neg a, if_neg b] at e
  by_cases c : f i = k <;> by_cases d : f j = k
  ·exact hi i j h1 h2 (by rw [c, d])
  ·rw [if_pos c, if_neg d] at e; exact absurd (hi k j hk h2 e) (fun x => b x.symm)
  ·rw [if_neg c, if_pos d] at e; exact absurd (hi i k h1 hk e) a
  ·rw [if_neg c, if_neg d] at e; exact hi i j h1 h2 e
theorem Dec.moved {n : Nat} : ∀ (m k : Nat) (f : Nat → Nat) (C : List Cy), k + m = n → Dec n f C → (∀ i, i < n → f i < n) → (∀ i j, i < n → j < n → f i = f j → i = j) → (∀ x ∈ flat C, x < n) → (∀ i, i < k → f i = i) → moved n m k f = excess C
 | 0, k, f, C, hkm, h, hf, hi, hb, h0 => by
  have hk : k = n := by omega
  subst hk
  have : ∀ D : List Cy, (∀ c ∈ D, c.ok f) → (flat D).Nodup → (∀ x ∈ flat D, x < k) → excess D = 0 := by
   intro D
   induction D with
   | nil => intros; rfl
   | cons c D ih =>
    intro ok nd bd
    rw [flat_cons] at nd bd
    have := ih (fun c' hc' => ok c' (List.mem_cons_of_mem _ hc')) (List.nodup_append.1 nd).2.1 (fun x hx => bd x (by simp [hx]))
    simp only [excess]
    obtain ⟨x, l⟩ := c
    cases l with
    | nil => simpa using this
    | cons y l =>
     have hp := ok _ List.mem_cons_self
     have hxy : f x = y := hp.1
     rw [h0 x (bd x (by simp [Cy.all]))] at hxy
     have hn := (List.nodup_append.1 nd).1
     have := (List.nodup_cons.1 hn).1
     exact absurd (by rw [hxy]; simp) this
  rw [this C h.ok h.nd hb]; rfl
 | m + 1, k, f, C, hkm, h, hf, hi, hb, h0 => by
  simp only [CycT.moved]
  split
  ·rename_i e
   exact Dec.moved m (k + 1) f C (by omega) h hf hi hb (fun i hi => by rcases Nat.lt_or_eq_of_le (Nat.le_of_lt_succ hi) with x | rfl; exact h0 i x; exact e)
  ·rename_i e
   obtain ⟨C', hd, hex, hb'⟩ := h.aside hf hi hb (show k < n by omega) e
   rw [hex, Dec.moved m (k + 1) (CycT.aside f k) C' (by omega) hd (aside_lt hf (by omega)) (aside_inj hf hi (by omega) e) hb' (fun i hik => ?_)]
   unfold CycT.aside
   split
   ·rename_i x; exact x.symm
   ·rename_i x
    have hfi := h0 i (by omega)
    rw [if_neg (by rw [hfi]; exact x)]
    exact hfi
end Go.Proofs.YtkegbbndmfnolaaGreatDoor.CycT
