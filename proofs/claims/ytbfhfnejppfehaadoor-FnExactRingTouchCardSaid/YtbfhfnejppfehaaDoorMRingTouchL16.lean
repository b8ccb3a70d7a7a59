import Derived.Test.YtbfhfnejppfehaaDoorMRingTouchL15
import Derived.Test.YtbfhfnejppfehaaDoorMRingTouchL06
import Derived.Test.YtbfhfnejppfehaaDoorRows
import Derived.Test.YtbfhfnejppfehaaDoorMRingTouchL01
import Derived.Test.YtbfhfnejppfehaaDoorMRingTouchL02
import Derived.StillTailTactics
import Derived.Deep.RegionHeld3
import Derived.Test.YtbfhfnejppfehaaDoorMRingTouchL11
import Derived.Laws.StructEq
import Derived.Test.YtbfhfnejppfehaaDoorMRingTouchL14
import Derived.Test.YtbfhfnejppfehaaDoorMRingTouchL00
import Derived.Deep.RegionLaw
import Derived.Test.YtbfhfnejppfehaaDoorShelf
import Derived.Lib.LaidTab
import Derived.Deep.CutRange
import Derived.Lib.ItoaNum
import Derived.Shelf.Strconv.Itoa3
import Derived.Test.YtbfhfnejppfehaaDoorCards
import Derived.Test.YtbfhfnejppfehaaDoorTie
import Derived.ProofKit
import Derived.LaidMore
import Derived.OpenShut
import Derived.Stop.Joined
import Derived.Stop.LaidErr
import Derived.MakeChecks
import Derived.SevenTiedAt
/-
  StepBand: contracts of both sides.
-/
namespace Go.Proofs.YtbfhfnejppfehaaDoor
open Go.RowKit
set_option linter.unusedVariables false
set_option linter.unusedSimpArgs false
set_option maxRecDepth 100000

open Classical in
/-- What StepBand answers. -/
noncomputable def stepBD (b : Bnd) : Bd × Bool := if bandP b then (stepD b, true) else (Bd.zero, false)
theorem stepBD_small {b : Bnd} (h : b.m.x.length ≤ 1048576) (hr : b.rx.length ≤ 1048576) : (stepBD b).1.x.length ≤ 1048576 ∧ (stepBD b).1.rx.length ≤ 1048576 := by
  unfold stepBD
  split
  · exact ⟨h, by show (stepRs b).length ≤ _; rw [stepRs_len]; exact hr⟩
  · exact ⟨Nat.zero_le _, Nat.zero_le _⟩












theorem stepped_any (b : Bnd) (w : World) (h : RdL w w.heap.size b.m.A 1 encString b.m.x) (hr : RdL w w.heap.size b.RA 2 Rgr.enc b.rx) (hl : b.m.x.length ≤ 1048576) (hp : bandP b) : Calls Tryd.prog 107 #[.agg #[.string b.m.name, .int .i64 b.m.stage, .slice b.m.A b.m.x.length b.m.c, .string b.bob, .string b.sing, .int .i64 b.step, .string b.call, .string b.tru, .slice b.RA b.rx.length b.rc]] w fun e w' => BdOne (stepD b) w e w' := by
  obtain ⟨⟨nm, st, x, A, c⟩, bob, sing, sp, call, tru, rx, RA, rc⟩ := b
  have hF := stepF_of hp
  have hn : ((st.toNat : Nat) : Int) = st := by have := hp.1.1.2.stage.1; simp only at this; omega
  have hk : ((sp.toNat : Nat) : Int) = sp := by have := hp.2.1.1; simp only at this; omega
  have := steppedF st.toNat sp.toNat nm x A c bob sing call tru rx RA rc _ _ _ _ w (Lib.hid hF) h hr hl
  rw [hn, hk] at this
  exact this
theorem l24Step_any (b : Bnd) (w : World) (h : RdL w w.heap.size b.m.A 1 encString b.m.x) (hr : RdL w w.heap.size b.RA 2 Rgr.enc b.rx) (hl : b.m.x.length ≤ 1048576) (hp : bandP b) : Calls Tryd.prog 99 #[.agg #[.string b.m.name, .int .i64 b.m.stage, .slice b.m.A b.m.x.length b.m.c, .string b.bob, .string b.sing, .int .i64 b.step, .string b.call, .string b.tru, .slice b.RA b.rx.length b.rc]] w fun e w' => BdOne (stepD b) w e w' := by
  obtain ⟨⟨nm, st, x, A, c⟩, bob, sing, sp, call, tru, rx, RA, rc⟩ := b
  have hF := stepF_of hp
  have hn : ((st.toNat : Nat) : Int) = st := by have := hp.1.1.2.stage.1; simp only at this; omega
  have hk : ((sp.toNat : Nat) : Int) = sp := by have := hp.2.1.1; simp only at this; omega
  have := l24StepF st.toNat sp.toNat nm x A c bob sing call tru rx RA rc _ _ _ _ w (Lib.hid hF) h hr hl
  rw [hn, hk] at this
  exact this
end Go.Proofs.YtbfhfnejppfehaaDoor

/-
  Contracts of the helper functions that the laws use for lists of RingAct.
-/
namespace Go.Proofs.YtbfhfnejppfehaaDoor
open Go.RowKit Go.ChangeShapes Go.WideShapes
set_option linter.unusedVariables false
set_option linter.unusedSimpArgs false
set_option maxRecDepth 100000


structure Act_ where
  kind : Int
  bell : Int
  by_ : Int
  call : ByteArray

def Act_.enc (x : Act_) : List Value := [.int .i64 x.kind, .int .i64 x.bell, .int .i64 x.by_, .string x.call]
theorem Act__enc_len (x : Act_) : (Act_.enc x).length = 4 := rfl
def RingAct_small (lim : Int) (x : Act_) : Prop := (x.call.size : Int) ≤ lim
theorem RingAct_info : (Tryd.prog.info? 101).map (fun i => (i.zero, i.size, i.bytes)) = some (some (.agg #[.int .i64 0, .int .i64 0, .int .i64 0, .string ⟨#[]⟩]), 4, 40) := by kernel_rfl

/-- What the marks make of a list of so many elements. -/
def markRingActL (m q : Nat) : List Act_ := (List.range m).map fun i : Nat => (⟨((q + i * 4 : Nat) : Int), ((q + i * 4 + 1 : Nat) : Int), ((q + i * 4 + 2 : Nat) : Int), (markT (q + i * 4 + 3))⟩ : Act_)
theorem markRingActL_len (m q : Nat) : (markRingActL m q).length = m := by simp [markRingActL]
theorem markRingActL_at (m q i : Nat) (hi : i < (markRingActL m q).length) : (markRingActL m q)[i] = (⟨((q + i * 4 : Nat) : Int), ((q + i * 4 + 1 : Nat) : Int), ((q + i * 4 + 2 : Nat) : Int), (markT (q + i * 4 + 3))⟩ : Act_) := by simp [markRingActL]
end Go.Proofs.YtbfhfnejppfehaaDoor
/-
  DoBand: what an action makes of a band.
-/
namespace Go.Proofs.YtbfhfnejppfehaaDoor
open Go.RowKit
set_option linter.unusedVariables false
set_option linter.unusedSimpArgs false
set_option maxRecDepth 100000

theorem eqAct_any (k' b' y' : Int) (c' : ByteArray) (k b y : Int) (c : ByteArray) (w : World) : (binOp .eql 101 (.agg #[.int .i64 k', .int .i64 b', .int .i64 y', .string c']) (.agg #[.int .i64 k, .int .i64 b, .int .i64 y, .string c])).run Tryd.prog w = .ok (.bool (k' == k && (b' == b && (y' == y && c'.toList == c.toList)))) w := by
  have hs : (Tryd.prog).stoodInHeld 101 = false := by kernel_rfl
  rw [run_eql_struct, show (10000 : Nat) = 9999 + 1 from rfl, run_equalIn_struct w 9999 101 _ _ (by simp [Program.fieldsOf, Tryd.underlying101]) hs]
  simp only [Program.fieldsOf, Tryd.underlying101]
  by_cases h1 : k' = k <;> by_cases h2 : b' = b <;> by_cases h3 : y' = y <;> by_cases h4 : c'.toList = c.toList <;>
    simp [go_sem, h1, h2, h3, h4]
/-- An action is the one with these fields. -/
def actE (k' b' y' : Int) (c' : ByteArray) (k b y : Int) (c : ByteArray) : Prop := k' = k ∧ b' = b ∧ y' = y ∧ c'.toList = c.toList
theorem eqAct_t {k' b' y' : Int} {c' : ByteArray} {k b y : Int} {c : ByteArray} (h : actE k' b' y' c' k b y c) (w : World) : (binOp .eql 101 (.agg #[.int .i64 k', .int .i64 b', .int .i64 y', .string c']) (.agg #[.int .i64 k, .int .i64 b, .int .i64 y, .string c])).run Tryd.prog w = .ok (.bool true) w := by
  rw [eqAct_any]; simp [h.1, h.2.1, h.2.2.1, h.2.2.2]
theorem eqAct_f {k' b' y' : Int} {c' : ByteArray} {k b y : Int} {c : ByteArray} (h : ¬ actE k' b' y' c' k b y c) (w : World) : (binOp .eql 101 (.agg #[.int .i64 k', .int .i64 b', .int .i64 y', .string c']) (.agg #[.int .i64 k, .int .i64 b, .int .i64 y, .string c])).run Tryd.prog w = .ok (.bool false) w := by
  rw [eqAct_any]
  have : (k' == k && (b' == b && (y' == y && c'.toList == c.toList))) = false := by
    rw [Bool.eq_false_iff]; intro e; apply h; simpa [actE] using e
  rw [this]
/-- A ringer of the band, by the bell. -/
def Bnd.at_ (b : Bnd) (bl : Int) : Rgr := b.rx.getD (bl.toNat - 1) ⟨0, false⟩
def Bnd.put (b : Bnd) (bl : Int) (r : Rgr) : Bd := { b.bd with rx := b.rx.set (bl.toNat - 1) r }
open Classical in
/-- What an action makes of a valid band. -/
noncomputable def doR (b : Bnd) (kd bl yy : Int) (cl : ByteArray) : Bd × Bool :=
  if actE kd bl yy cl 1 0 0 ⟨#[]⟩ then (stepD b, true)
  else if actE kd bl yy cl 2 0 0 cl ∧ isCallP cl then ({ b.bd with call := cl }, true)
  else if ¬ inB bl 1 b.m.stage then (Bd.zero, false)
  else if actE kd bl yy cl 3 bl 0 ⟨#[]⟩ then (b.put bl ⟨(b.at_ bl).place, true⟩, true)
  else if actE kd bl yy cl 5 bl 0 ⟨#[]⟩ then (b.put bl ⟨placeS b.tru bl, (b.at_ bl).deaf⟩, true)
  else if actE kd bl yy cl 4 bl yy ⟨#[]⟩ ∧ (yy = 1 ∨ yy = -1) ∧ inB ((b.at_ bl).place + yy) 1 b.m.stage then (b.put bl ⟨(b.at_ bl).place + yy, (b.at_ bl).deaf⟩, true)
  else (Bd.zero, false)
open Classical in
/-- What DoBand answers. -/
noncomputable def doBD (b : Bnd) (kd bl yy : Int) (cl : ByteArray) : Bd × Bool := if bandP b then doR b kd bl yy cl else (Bd.zero, false)
theorem doR_small {b : Bnd} {kd bl yy : Int} {cl : ByteArray} (h : b.m.x.length ≤ 1048576) (hr : b.rx.length ≤ 1048576) : (doR b kd bl yy cl).1.x.length ≤ 1048576 ∧ (doR b kd bl yy cl).1.rx.length ≤ 1048576 := by
  have hp : ∀ r, (b.put bl r).x.length ≤ 1048576 ∧ (b.put bl r).rx.length ≤ 1048576 := fun r => ⟨h, by show (b.rx.set _ r).length ≤ _; rw [List.length_set]; exact hr⟩
  have hz : Bd.zero.x.length ≤ 1048576 ∧ Bd.zero.rx.length ≤ 1048576 := ⟨Nat.zero_le _, Nat.zero_le _⟩
  unfold doR
  split
  · exact ⟨h, by show (stepRs b).length ≤ _; rw [stepRs_len]; exact hr⟩
  · split
    · exact ⟨h, hr⟩
    · split
      · exact hz
      · split
        · exact hp _
        · split
          · exact hp _
          · split
            · exact hp _
            · exact hz
theorem doBD_small {b : Bnd} {kd bl yy : Int} {cl : ByteArray} (h : b.m.x.length ≤ 1048576) (hr : b.rx.length ≤ 1048576) : (doBD b kd bl yy cl).1.x.length ≤ 1048576 ∧ (doBD b kd bl yy cl).1.rx.length ≤ 1048576 := by
  unfold doBD
  split
  · exact doR_small h hr
  · exact ⟨Nat.zero_le _, Nat.zero_le _⟩
section
variable {b : Bnd} {kd bl yy : Int} {cl : ByteArray}
theorem doR_1 (h : actE kd bl yy cl 1 0 0 ⟨#[]⟩) : doR b kd bl yy cl = (stepD b, true) := by unfold doR; rw [if_pos h]
theorem doR_2 (h1 : ¬ actE kd bl yy cl 1 0 0 ⟨#[]⟩) (h : actE kd bl yy cl 2 0 0 cl ∧ isCallP cl) : doR b kd bl yy cl = ({ b.bd with call := cl }, true) := by unfold doR; rw [if_neg h1, if_pos h]
theorem doR_n (h1 : ¬ actE kd bl yy cl 1 0 0 ⟨#[]⟩) (h2 : ¬ (actE kd bl yy cl 2 0 0 cl ∧ isCallP cl)) (h : ¬ inB bl 1 b.m.stage) : doR b kd bl yy cl = (Bd.zero, false) := by unfold doR; rw [if_neg h1, if_neg h2, if_pos h]
theorem not1 (h : inB bl 1 b.m.stage) : ¬ actE kd bl yy cl 1 0 0 ⟨#[]⟩ := fun e => by have := e.2.1; have := h.1; omega
theorem not2 (h : inB bl 1 b.m.stage) : ¬ (actE kd bl yy cl 2 0 0 cl ∧ isCallP cl) := fun e => by have := e.1.2.1; have := h.1; omega
theorem doR_3 (h : inB bl 1 b.m.stage) (h3 : actE kd bl yy cl 3 bl 0 ⟨#[]⟩) : doR b kd bl yy cl = (b.put bl ⟨(b.at_ bl).place, true⟩, true) := by unfold doR; rw [if_neg (not1 h), if_neg (not2 h), if_neg (fun e => e h), if_pos h3]
theorem doR_5 (h : inB bl 1 b.m.stage) (h3 : actE kd bl yy cl 5 bl 0 ⟨#[]⟩) : doR b kd bl yy cl = (b.put bl ⟨placeS b.tru bl, (b.at_ bl).deaf⟩, true) := by unfold doR; rw [if_neg (not1 h), if_neg (not2 h), if_neg (fun e => e h), if_neg (fun e => by have := e.1; have := h3.1; omega), if_pos h3]
theorem doR_4 (h : inB bl 1 b.m.stage) (h3 : actE kd bl yy cl 4 bl yy ⟨#[]⟩ ∧ (yy = 1 ∨ yy = -1) ∧ inB ((b.at_ bl).place + yy) 1 b.m.stage) : doR b kd bl yy cl = (b.put bl ⟨(b.at_ bl).place + yy, (b.at_ bl).deaf⟩, true) := by unfold doR; rw [if_neg (not1 h), if_neg (not2 h), if_neg (fun e => e h), if_neg (fun e => by have := e.1; have := h3.1.1; omega), if_neg (fun e => by have := e.1; have := h3.1.1; omega), if_pos h3]
theorem doR_no (h : inB bl 1 b.m.stage) (h3 : ¬ actE kd bl yy cl 3 bl 0 ⟨#[]⟩) (h5 : ¬ actE kd bl yy cl 5 bl 0 ⟨#[]⟩) (h4 : ¬ (actE kd bl yy cl 4 bl yy ⟨#[]⟩ ∧ (yy = 1 ∨ yy = -1) ∧ inB ((b.at_ bl).place + yy) 1 b.m.stage)) : doR b kd bl yy cl = (Bd.zero, false) := by unfold doR; rw [if_neg (not1 h), if_neg (not2 h), if_neg (fun e => e h), if_neg h3, if_neg h5, if_neg h4]
end
end Go.Proofs.YtbfhfnejppfehaaDoor

/-
  Touches in plain words: rows behind changes one after the other, the heads of a touch.
-/
namespace Go.Proofs.YtbfhfnejppfehaaDoor
open Go.RowKit
set_option linter.unusedVariables false
set_option linter.unusedSimpArgs false

section
variable {α : Type} (f : ByteArray → α → ByteArray)
/-- What stands behind k steps. -/
def after (r : ByteArray) (l : List α) (k : Nat) : ByteArray := (l.take k).foldl f r
theorem after_zero (r : ByteArray) (l : List α) : after f r l 0 = r := by simp [after]
theorem after_succ (r : ByteArray) (l : List α) (k : Nat) (h : k < l.length) : after f r l (k + 1) = f (after f r l k) l[k] := by
  unfold after; rw [List.take_succ_eq_append_getElem h, List.foldl_append]; rfl
theorem after_congr {r : ByteArray} {l l' : List α} {k : Nat} (h : l.take k = l'.take k) : after f r l k = after f r l' k := by unfold after; rw [h]
/-- The first n of them. -/
def walkL (r : ByteArray) (l : List α) (n : Nat) : List ByteArray := (List.range n).map (after f r l)
theorem walkL_len (r : ByteArray) (l : List α) (n : Nat) : (walkL f r l n).length = n := by simp [walkL]
theorem walkL_zero (r : ByteArray) (l : List α) : walkL f r l 0 = [] := rfl
theorem walkL_one (r : ByteArray) (l : List α) : walkL f r l 1 = [r] := by simp [walkL, after_zero]
theorem walkL_succ (r : ByteArray) (l : List α) (n : Nat) : walkL f r l (n + 1) = walkL f r l n ++ [after f r l n] := by simp [walkL, List.range_succ]
theorem walkL_at (r : ByteArray) (l : List α) (n k : Nat) (h : k < (walkL f r l n).length) : (walkL f r l n)[k] = after f r l k := by simp [walkL]
theorem walkL_take (r : ByteArray) (l : List α) (n k : Nat) (h : k ≤ n) : (walkL f r l n).take k = walkL f r l k := by
  unfold walkL; rw [← List.map_take, List.take_range, Nat.min_eq_left h]
end
/-- A row behind a change of stage n. -/
noncomputable def chF (n : Nat) (r c : ByteArray) : ByteArray := timesS r (chgS n c)
theorem row_times {a b : ByteArray} (ha : isRow a) (hb : isRow b) (h : a.size = b.size) : isRow (timesS a b) := by
  have h1 := hb.1
  have h2 := hb.2.1
  have key : ∀ i : Nat, i < b.size → ∃ k : Nat, k < a.size ∧ bat b i - 49 = (k : Int) ∧ bat (timesS a b) i = bat a k := fun i hi => by
    have := hb.2.2.1 i hi
    refine ⟨(bat b i - 49).toNat, by omega, by omega, ?_⟩
    rw [bat_times a b i hi]
    congr 1
    omega
  refine ⟨by rw [size_times]; exact h1, by rw [size_times]; exact h2, fun i hi => ?_, fun i j hij hj => ?_⟩
  · rw [size_times] at hi ⊢
    obtain ⟨k, hk, _, e⟩ := key i hi
    rw [e]
    have := ha.2.2.1 k hk
    omega
  · rw [size_times] at hj
    obtain ⟨k, hk, ek, e⟩ := key i (by omega)
    obtain ⟨m, hm, em, e2⟩ := key j hj
    rw [e, e2]
    intro hc
    have hkm := ha.inj hk hm hc
    subst hkm
    exact hb.2.2.2 i j hij hj (by omega)
theorem row_chg {n : Nat} (h3 : 3 ≤ n) (h8 : n ≤ 8) (c : ByteArray) : isRow (chgS n c) ∧ (chgS n c).size = n :=
  ⟨ptS_row (swL_bd c n) (swL_sep c n) h3 h8, ptS_size _ _⟩
theorem row_rounds {n : Nat} (h3 : 3 ≤ n) (h8 : n ≤ 8) : isRow (roundsS n) ∧ (roundsS n).size = n := by
  have hs : (roundsS (n : Int)).size = n := by rw [roundsS_size (by omega) (by omega)]; omega
  refine ⟨⟨by omega, by omega, fun i hi => ?_, fun i j hij hj => ?_⟩, hs⟩
  · rw [hs] at hi ⊢; rw [rounds_bat hi h8]; omega
  · rw [hs] at hj; rw [rounds_bat (by omega) h8, rounds_bat hj h8]; omega
def rowN (n : Nat) (r : ByteArray) : Prop := isRow r ∧ r.size = n
theorem chF_row {n : Nat} (h3 : 3 ≤ n) (h8 : n ≤ 8) {r : ByteArray} (hr : rowN n r) (c : ByteArray) : rowN n (chF n r c) := by
  obtain ⟨h1, h2⟩ := row_chg h3 h8 c
  exact ⟨row_times hr.1 h1 (by rw [hr.2, h2]), by unfold chF; rw [size_times, h2]⟩
theorem after_rowN {α : Type} {n : Nat} {f : ByteArray → α → ByteArray} {l : List α} (hf : ∀ r, rowN n r → ∀ x ∈ l, rowN n (f r x)) {r : ByteArray} (hr : rowN n r) : ∀ k, rowN n (after f r l k) := by
  intro k
  induction k with
  | zero => rw [after_zero]; exact hr
  | succ k ih =>
    by_cases h : k < l.length
    · rw [after_succ f r l k h]; exact hf _ ih _ (List.getElem_mem h)
    · have e : after f r l (k + 1) = after f r l k := by
        unfold after; rw [List.take_of_length_le (show l.length ≤ k + 1 by omega), List.take_of_length_le (show l.length ≤ k by omega)]
      rw [e]; exact ih
/-- The lead head of a lead with a call. -/
noncomputable def hdS (n : Nat) (x : List ByteArray) (b s call : ByteArray) : ByteArray := after (chF n) (roundsS n) (calledX x b s call) x.length
/-- The change that a call makes of the last one. -/
def lastC (x : List ByteArray) (b s call : ByteArray) : ByteArray := if call.toList = [98] then b else if call.toList = [115] then s else x.getD (x.length - 1) ByteArray.empty
theorem calledX_last {x : List ByteArray} {b s call : ByteArray} (h : 0 < x.length) : (calledX x b s call)[x.length - 1]'(by rw [calledX_len]; omega) = lastC x b s call := by
  have hg : ∀ (i : Nat) (hi : i < (calledX x b s call).length), (calledX x b s call)[i] = (calledX x b s call).getD i ByteArray.empty := fun i hi => by rw [List.getD_eq_getElem?_getD, List.getElem?_eq_getElem hi]; rfl
  rw [hg]
  unfold calledX lastC
  split
  · rw [List.getD_eq_getElem?_getD, List.getElem?_set_self (by omega)]; rfl
  · split
    · rw [List.getD_eq_getElem?_getD, List.getElem?_set_self (by omega)]; rfl
    · rfl
theorem calledX_take {x : List ByteArray} {b s call : ByteArray} : (calledX x b s call).take (x.length - 1) = x.take (x.length - 1) := by
  unfold calledX
  split
  · rw [List.take_set_of_le (Nat.le_refl _)]
  · split
    · rw [List.take_set_of_le (Nat.le_refl _)]
    · rfl
/-- The head, by the changes up to the last one and the last one. -/
theorem hdS_last {n : Nat} {x : List ByteArray} {b s call : ByteArray} (h : 0 < x.length) : hdS n x b s call = chF n (after (chF n) (roundsS n) x (x.length - 1)) (lastC x b s call) := by
  unfold hdS
  obtain ⟨k, hk⟩ : ∃ k, x.length = k + 1 := ⟨x.length - 1, by omega⟩
  have e := after_succ (chF n) (roundsS n) (calledX x b s call) (x.length - 1) (by rw [calledX_len]; omega)
  rw [show x.length - 1 + 1 = x.length by omega] at e
  rw [e, calledX_last h]
  congr 1
  exact after_congr _ calledX_take
theorem hdS_row {n : Nat} (h3 : 3 ≤ n) (h8 : n ≤ 8) (x : List ByteArray) (b s call : ByteArray) : rowN n (hdS n x b s call) :=
  after_rowN (fun r hr c _ => chF_row h3 h8 hr c) (row_rounds h3 h8) _
/-- The call that a byte stands for. -/
def callOf (v : Int) : ByteArray := mkS [v]
noncomputable def hdF (n : Nat) (x : List ByteArray) (b s : ByteArray) (r : ByteArray) (v : Int) : ByteArray := timesS r (hdS n x b s (callOf v))
/-- The bytes of a string. -/
def batL (t : ByteArray) : List Int := (List.range t.size).map fun i : Nat => bat t i
theorem batL_len (t : ByteArray) : (batL t).length = t.size := by simp [batL]
theorem batL_at (t : ByteArray) (k : Nat) (h : k < (batL t).length) : (batL t)[k] = bat t k := by simp [batL]
theorem hdF_row {n : Nat} (h3 : 3 ≤ n) (h8 : n ≤ 8) (x : List ByteArray) (b s : ByteArray) {r : ByteArray} (hr : rowN n r) (v : Int) : rowN n (hdF n x b s r v) := by
  obtain ⟨h1, h2⟩ := hdS_row h3 h8 x b s (callOf v)
  exact ⟨row_times hr.1 h1 (by rw [hr.2, h2]), by unfold hdF; rw [size_times, h2]⟩
/-- The head behind k leads of a touch. -/
noncomputable def headS (n : Nat) (x : List ByteArray) (b s t : ByteArray) (k : Nat) : ByteArray := after (hdF n x b s) (roundsS n) (batL t) k
noncomputable def headsL (n : Nat) (x : List ByteArray) (b s t : ByteArray) (k : Nat) : List ByteArray := walkL (hdF n x b s) (roundsS n) (batL t) k
theorem headS_succ (n : Nat) (x : List ByteArray) (b s t : ByteArray) (k : Nat) (h : k < t.size) : headS n x b s t (k + 1) = timesS (headS n x b s t k) (hdS n x b s (callOf (bat t k))) := by
  unfold headS
  rw [after_succ _ _ _ k (by rw [batL_len]; exact h), batL_at]; rfl
theorem headS_row {n : Nat} (h3 : 3 ≤ n) (h8 : n ≤ 8) (x : List ByteArray) (b s t : ByteArray) (k : Nat) : rowN n (headS n x b s t k) :=
  after_rowN (fun r hr v _ => hdF_row h3 h8 x b s hr v) (row_rounds h3 h8) _
/-- The touch comes round. -/
def roundP (n : Nat) (x : List ByteArray) (b s t : ByteArray) : Prop := headS n x b s t t.size = roundsS n
theorem callOf_ext {t : ByteArray} {k : Nat} (h : k < t.size) : t.extract k (k + 1) = callOf (bat t k) := by
  refine (str_ext (by unfold callOf; rw [size_mkS, size_ext]; simp; omega) fun i hi => ?_)
  rw [size_ext] at hi
  obtain rfl : i = 0 := by omega
  rw [bat_ext t k (k + 1) 0 (by omega)]
  unfold callOf
  rw [bat_mkS [bat t k] 0 (by simp) (by simpa using bat_lo _ _) (by simpa using bat_hi _ _)]
  rfl
end Go.Proofs.YtbfhfnejppfehaaDoor

/-
  Words of our own that know no program: a call inside a region that draws.
-/
namespace Go.Proofs.YtbfhfnejppfehaaDoor
open Go.RowKit
set_option linter.unusedVariables false
set_option linter.unusedSimpArgs false

section
variable {P : Program} {ops : Array Oper} {o : Oper} {a : Act} {K : Act → World → Prop} {Q : Exit → Act → World → Prop} {w : World} {E : Prop}
/-- A call inside a region that draws, by a contract that names its result only so far. -/
theorem step_callsX (hg : o.guard = none) (f : FuncId) {xs : Array Operand} {ts : Array TypeId} (ho : o.op = .call { callee := .value (.func f), args := xs, argTypes := ts }) (vals : Array Value) {R : Value → World → Prop} (henter : (execOp a.eval o).run P w = .ok (.enter f vals) w)
    (h : Calls P f vals w fun e w' => ∃ v, e = .returned v ∧ R v w') (hK : ∀ v w', R v w' → K (a.put o.dst v) w') : if Region.wanted o (yielded ops a.tmps) = true then Oper.wp P o a w K Q else E := by
  rw [if_pos (by simp [Region.wanted, hg])]
  unfold Oper.wp
  rw [henter, Oper.upon_enter]
  exact h.mono fun e w' ⟨v, he, hr⟩ => by subst he; exact hK v w' hr
end
end Go.Proofs.YtbfhfnejppfehaaDoor

/-
  Decimal numbers: contracts of both sides (the library's Itoa by the shelf).
-/
namespace Go.Proofs.YtbfhfnejppfehaaDoor
open Go.RowKit
set_option linter.unusedVariables false
set_option linter.unusedSimpArgs false
set_option maxRecDepth 100000

/-- The library's table of powers lies as its text lays it. -/
def Tab (w : World) : Prop := Lib.TabIs Tryd.prog w "internal/strconv.uint64pow10" .u64 Lib.pow10Tab
theorem Tab.later {w w' : World} (h : Tab w) (hb : Below w.heap.size w w') : Tab w' := by
  unfold Tab Lib.TabIs World.var? at *
  cases hg : (Tryd.prog).globalNamed "internal/strconv.uint64pow10" with
  | none => rw [hg] at h; simp at h
  | some g =>
    rw [hg] at h
    simp only [Option.bind_some] at h ⊢
    have hlt : g < w.heap.size := by
      rcases Nat.lt_or_ge g w.heap.size with x | x
      · exact x
      · rw [Array.getElem?_eq_none x] at h; simp at h
    rw [hb.block g hlt]; exact h
/-- A number in decimal. -/
def numS (n : Nat) : ByteArray := ⟨(Lib.decDigits n).toArray⟩
theorem numS_small {n : Nat} (h : n < 10) : numS n = ⟨#[UInt8.ofNat (48 + n)]⟩ := by unfold numS; rw [Lib.decDigits_one h]
theorem numS_big {n : Nat} (h : ¬ n < 10) : numS n = numS (n / 10) ++ ⟨#[UInt8.ofNat (48 + n % 10)]⟩ := by
  unfold numS
  rw [Lib.decDigits, dif_neg h]
  apply ByteArray.ext
  simp [ByteArray.data_append]
theorem numS_size (n : Nat) : (numS n).size = Lib.nDigits n := by
  unfold numS
  have := Lib.decDigits_length n
  simpa [ByteArray.size] using this
theorem nDigits_le : ∀ (k n : Nat), n < 10 ^ k → Lib.nDigits n ≤ k + 1
  | 0, n, h => by
    have : n = 0 := by simpa using h
    subst this; unfold Lib.nDigits; rw [dif_pos (by omega)]; omega
  | k + 1, n, h => by
    unfold Lib.nDigits
    split
    · omega
    · have := nDigits_le k (n / 10) (by rw [Nat.pow_succ] at h; omega)
      omega
theorem numS_bd {n : Nat} (h : n < 1000000000) : (numS n).size ≤ 10 := by rw [numS_size]; exact nDigits_le 9 n h
theorem mkS_dig (d : Nat) (h : d < 10) : mkS [48 + (d : Int)] = ⟨#[UInt8.ofNat (48 + d)]⟩ := by
  unfold mkS
  have : ((48 : Int) + (d : Int)).toNat = 48 + d := by omega
  simp [this]
theorem decimal_any (n : Nat) (w : World) (h : n ≤ 1000000000000) (ht : Tab w) : Calls Tryd.prog 52 #[.int .i64 (n : Int)] w fun e w' => e = .returned (.string (numS n)) ∧ Below w.heap.size w w' := by
  have hcon := Tryd.strconv_Itoa (n : Int) (by omega) (by omega) w ht
  have he : Lib.itoa (n : Int) = Lib.decDigits n := by unfold Lib.itoa; rw [if_neg (by omega)]; simp
  rw [he] at hcon
  change Calls Tryd.prog 88 _ _ _ at hcon
  have Hcon := Lib.hid hcon
  clear hcon ht he
  go_enter Tryd.func52, Tryd.ntmps52
  go_wp2_with (go_at_call 88; refine Hcon.out.mono ?_; rintro e w' ⟨rfl, k, os, rfl⟩)
  go_ret
  refine ⟨rfl, ⟨rfl, rfl, rfl, ?_, fun i hi => ?_⟩⟩
  · show w.heap.size ≤ (Sort.grow (w.drewN k) os).heap.size
    unfold Sort.grow; simp
  · show (Sort.grow (w.drewN k) os).heap[i]? = w.heap[i]?
    unfold Sort.grow
    rw [Array.getElem?_append_left (by simpa using hi)]; rfl
theorem l1Num_any : ∀ (f n : Nat) (w : World), n ≤ f → n ≤ 1000000000000 → Calls Tryd.prog 90 #[.int .i64 (n : Int)] w fun e w' => e = .returned (.string (numS n)) ∧ Below w.heap.size w w' := by
  intro f
  induction f with
  | zero =>
    intro n w h h9
    obtain rfl : n = 0 := by omega
    have e := Lib.hid (numS_small (n := 0) (by omega))
    go_enter Tryd.func90, Tryd.ntmps90
    go_wp2
    go_ret
    exact ⟨ret_str (by rw [e.out]; rfl), (Below.refl _ _).alloc (Nat.le_refl _) _⟩
  | succ f ih =>
    intro n w h h9
    by_cases hs : n < 10
    · have e := Lib.hid (numS_small hs)
      have e2 := Lib.hid (mkS_dig n hs)
      go_enter Tryd.func90, Tryd.ntmps90
      go_wp2
      go_ret
      exact ⟨ret_str (by rw [e.out, ← e2.out]), (Below.refl _ _).alloc (Nat.le_refl _) _⟩
    · have e := Lib.hid (numS_big hs)
      have e2 := Lib.hid (mkS_dig (n % 10) (by omega))
      have hih : Hid (∀ W, Calls Tryd.prog 90 #[.int .i64 ((n : Int) / 10)] W fun e w' => ∃ v, e = .returned v ∧ (v = .string (numS (n / 10)) ∧ Below W.heap.size W w')) := Lib.hid (fun W => by have := ih (n / 10) W (by omega) (by omega); rw [show ((n / 10 : Nat) : Int) = (n : Int) / 10 by omega] at this; exact this.mono fun e w' h => ⟨_, h.1, rfl, h.2⟩)
      have hsz : (numS (n / 10)).size ≤ 20 := by rw [numS_size]; exact Nat.le_trans (nDigits_le 12 _ (by omega)) (by omega)
      have hsz2 : (mkS [48 + (n : Int) % 10]).size ≤ 1 := by simp [mkS, ByteArray.size]
      have e3 : Hid (numS (n / 10) ++ mkS [48 + (n : Int) % 10] = numS n) := Lib.hid (by rw [e.out, ← e2.out, show ((n % 10 : Nat) : Int) = (n : Int) % 10 by omega])
      have hsum : ¬ 9223372036854775807 < (numS (n / 10)).size + (mkS [48 + (n : Int) % 10]).size := by omega
      have a1 : IntKind.i64.wrap ((n : Int) / 10) = (n : Int) / 10 := IntWalk.i64_in _ (by omega)
      have a2 : (n : Int).tmod 10 = (n : Int) % 10 := Int.tmod_eq_emod_of_nonneg (by omega)
      have a3 : IntKind.i64.wrap (48 + (n : Int) % 10) = 48 + (n : Int) % 10 := IntWalk.i64_in _ (by omega)
      have a4 : IntKind.u8.wrap (48 + (n : Int) % 10) = 48 + (n : Int) % 10 := IntWalk.u8_in _ (by omega)
      clear ih
      go_enter Tryd.func90, Tryd.ntmps90
      have hc1 : (convert 40 9 (.slice (some ⟨w.heap.size, 0, none⟩) 1 1)).run Tryd.prog (w.alloc (.cells #[.int .u8 (48 + (n : Int) % 10)] 5)).drew = .ok (.string (mkS [48 + (n : Int) % 10])) (w.alloc (.cells #[.int .u8 (48 + (n : Int) % 10)] 5)).drew := run_convert_bytes_arg (P := Tryd.prog) _ 40 5 (by rfl) (by rfl) w.heap.size 0 1 1 [48 + (n : Int) % 10] rfl (fun i hi => by
        obtain rfl : i = 0 := by simp at hi; omega
        show (w.alloc (.cells #[.int .u8 (48 + (n : Int) % 10)] 5)).cell? _ = _
        rw [World.cell?_alloc_new]; rfl) 9 (by rfl)
      go_upto_region 3 with fail
      go_region_law (refine step_callsX (by rfl) 90 (by rfl) #[.int .i64 ((n : Int) / 10)] (by go_simp) (hih.out _) ?_; rintro v w2 ⟨rfl, hb2⟩; (first | (have hq : (convert 40 9 (.slice (some ⟨w.heap.size, 0, none⟩) 1 1)).run Tryd.prog w2 = .ok (.string (mkS [48 + (n : Int) % 10])) w2 := run_convert_bytes_arg (P := Tryd.prog) w2 40 5 (by rfl) (by rfl) w.heap.size 0 1 1 [48 + (n : Int) % 10] rfl (fun i hi => by obtain rfl : i = 0 := (by simp at hi; omega); refine (hb2.cell (p := ⟨w.heap.size, 0 + 0, none⟩) (by simp)).trans ?_; first | (show (w.alloc (.cells #[.int .u8 (48 + (n : Int) % 10)] 5)).cell? _ = _; rw [World.cell?_alloc_new]; rfl) | (show (w.drew.alloc (.cells #[.int .u8 (48 + (n : Int) % 10)] 5)).cell? _ = _; rw [World.cell?_alloc_new]; rfl)) 9 (by rfl)) | (have hq := True.intro)))
      all_goals
        go_wp2
        go_ret
        refine ⟨ret_str e3.out, ?_⟩
        first
          | exact ((Below.refl _ _).drew.trans hb2).alloc (by have := hb2.size; simpa using this) _
          | exact (((Below.refl _ w).alloc (Nat.le_refl _) _).drew).trans (hb2.mono (by simp))
          | exact ((Below.refl _ w).drew.alloc (Nat.le_refl _) _).trans (hb2.mono (by simp))
end Go.Proofs.YtbfhfnejppfehaaDoor

/-
  What a tied card wants beyond a plain row: the library's table of powers out of the row's condition.
-/
namespace Go.Proofs.YtbfhfnejppfehaaDoor
open Go.RowKit
set_option linter.unusedVariables false
set_option linter.unusedSimpArgs false
set_option maxRecDepth 100000

theorem tab_data : (Rows.laid_internal_strconv_uint64pow10 : DataW Unit) = Lib.tabData .u64 Lib.pow10Tab := by kernel_rfl
theorem tab_of {x y : String × DataW Unit} {r : List (String × DataW Unit)} {W : World} (h : laidMet Tryd.prog (x :: y :: ("internal/strconv.uint64pow10", Rows.laid_internal_strconv_uint64pow10) :: r) W) : Tab W := by
  have h1 := h.tail.tail
  rw [tab_data] at h1
  exact Lib.tabIs_of_head (g := 1) (t := 167) (e := 74) (n := 20) (by kernel_rfl) (by kernel_rfl) (by rfl) (by rfl) (by kernel_rfl) (by kernel_rfl) h1
end Go.Proofs.YtbfhfnejppfehaaDoor
