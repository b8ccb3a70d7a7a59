/-
  DoBand: what an action makes of a band.
-/
import Derived.Test.YtdecjijldcbnjaaStepBd
import Derived.Test.YtdecjijldcbnjaaTyRingAct
import Derived.Test.YtdecjijldcbnjaaPlace
import Derived.Laws.StructEq
namespace Go.Proofs.Ytdecjijldcbnjaa
open Go.RowKit
set_option linter.unusedVariables false
set_option linter.unusedSimpArgs false
set_option maxRecDepth 100000

theorem eqAct_any (k' b' y' : Int) (c' : ByteArray) (k b y : Int) (c : ByteArray) (w : World) : (binOp .eql 110 (.agg #[.int .i64 k', .int .i64 b', .int .i64 y', .string c']) (.agg #[.int .i64 k, .int .i64 b, .int .i64 y, .string c])).run Try.prog w = .ok (.bool (k' == k && (b' == b && (y' == y && c'.toList == c.toList)))) w := by
  have hs : (Try.prog).stoodInHeld 110 = false := by kernel_rfl
  rw [run_eql_struct, show (10000 : Nat) = 9999 + 1 from rfl, run_equalIn_struct w 9999 110 _ _ (by simp [Program.fieldsOf, Try.underlying110]) hs]
  simp only [Program.fieldsOf, Try.underlying110]
  by_cases h1 : k' = k <;> by_cases h2 : b' = b <;> by_cases h3 : y' = y <;> by_cases h4 : c'.toList = c.toList <;>
    simp [go_sem, h1, h2, h3, h4]
/-- An action is the one with these fields. -/
def actE (k' b' y' : Int) (c' : ByteArray) (k b y : Int) (c : ByteArray) : Prop := k' = k ∧ b' = b ∧ y' = y ∧ c'.toList = c.toList
theorem eqAct_t {k' b' y' : Int} {c' : ByteArray} {k b y : Int} {c : ByteArray} (h : actE k' b' y' c' k b y c) (w : World) : (binOp .eql 110 (.agg #[.int .i64 k', .int .i64 b', .int .i64 y', .string c']) (.agg #[.int .i64 k, .int .i64 b, .int .i64 y, .string c])).run Try.prog w = .ok (.bool true) w := by
  rw [eqAct_any]; simp [h.1, h.2.1, h.2.2.1, h.2.2.2]
theorem eqAct_f {k' b' y' : Int} {c' : ByteArray} {k b y : Int} {c : ByteArray} (h : ¬ actE k' b' y' c' k b y c) (w : World) : (binOp .eql 110 (.agg #[.int .i64 k', .int .i64 b', .int .i64 y', .string c']) (.agg #[.int .i64 k, .int .i64 b, .int .i64 y, .string c])).run Try.prog w = .ok (.bool false) w := by
  rw [eqAct_any]
  have : (k' == k && (b' == b && (y' == y && c'.toList == c.toList))) = false := by
    rw [Bool.eq_false_iff]; intro e; apply h; simpa [actE] using e
  rw [this]
/-- A ringer of the band, by the bell. -/
def Bnd.at_ (b : Bnd) (bl : Int) : Rgr := b.rx.getD (bl.toNat - 1) ⟨0, false⟩
def Bnd.put (b : Bnd) (bl : Int) (r : Rgr) : Bd := { b.bd with rx := b.rx.set (bl.toNat - 1) r }
open Classical in
/-- What an action makes of a valid band. -/
noncomputable def doR (b : Bnd) (kd bl yy : Int) (cl : ByteArray) : Bd × Bool :=
  if actE kd bl yy cl 1 0 0 ⟨#[]⟩ then (stepD b, true)
  else if actE kd bl yy cl 2 0 0 cl ∧ isCallP cl then ({ b.bd with call := cl }, true)
  else if ¬ inB bl 1 b.m.stage then (Bd.zero, false)
  else if actE kd bl yy cl 3 bl 0 ⟨#[]⟩ then (b.put bl ⟨(b.at_ bl).place, true⟩, true)
  else if actE kd bl yy cl 5 bl 0 ⟨#[]⟩ then (b.put bl ⟨placeS b.tru bl, (b.at_ bl).deaf⟩, true)
  else if actE kd bl yy cl 4 bl yy ⟨#[]⟩ ∧ (yy = 1 ∨ yy = -1) ∧ inB ((b.at_ bl).place + yy) 1 b.m.stage then (b.put bl ⟨(b.at_ bl).place + yy, (b.at_ bl).deaf⟩, true)
  else (Bd.zero, false)
open Classical in
/-- What DoBand answers. -/
noncomputable def doBD (b : Bnd) (kd bl yy : Int) (cl : ByteArray) : Bd × Bool := if bandP b then doR b kd bl yy cl else (Bd.zero, false)
theorem doR_small {b : Bnd} {kd bl yy : Int} {cl : ByteArray} (h : b.m.x.length ≤ 1048576) (hr : b.rx.length ≤ 1048576) : (doR b kd bl yy cl).1.x.length ≤ 1048576 ∧ (doR b kd bl yy cl).1.rx.length ≤ 1048576 := by
  have hp : ∀ r, (b.put bl r).x.length ≤ 1048576 ∧ (b.put bl r).rx.length ≤ 1048576 := fun r => ⟨h, by show (b.rx.set _ r).length ≤ _; rw [List.length_set]; exact hr⟩
  have hz : Bd.zero.x.length ≤ 1048576 ∧ Bd.zero.rx.length ≤ 1048576 := ⟨Nat.zero_le _, Nat.zero_le _⟩
  unfold doR
  split
  · exact ⟨h, by show (stepRs b).length ≤ _; rw [stepRs_len]; exact hr⟩
  · split
    · exact ⟨h, hr⟩
    · split
      · exact hz
      · split
        · exact hp _
        · split
          · exact hp _
          · split
            · exact hp _
            · exact hz
theorem doBD_small {b : Bnd} {kd bl yy : Int} {cl : ByteArray} (h : b.m.x.length ≤ 1048576) (hr : b.rx.length ≤ 1048576) : (doBD b kd bl yy cl).1.x.length ≤ 1048576 ∧ (doBD b kd bl yy cl).1.rx.length ≤ 1048576 := by
  unfold doBD
  split
  · exact doR_small h hr
  · exact ⟨Nat.zero_le _, Nat.zero_le _⟩
section
variable {b : Bnd} {kd bl yy : Int} {cl : ByteArray}
theorem doR_1 (h : actE kd bl yy cl 1 0 0 ⟨#[]⟩) : doR b kd bl yy cl = (stepD b, true) := by unfold doR; rw [if_pos h]
theorem doR_2 (h1 : ¬ actE kd bl yy cl 1 0 0 ⟨#[]⟩) (h : actE kd bl yy cl 2 0 0 cl ∧ isCallP cl) : doR b kd bl yy cl = ({ b.bd with call := cl }, true) := by unfold doR; rw [if_neg h1, if_pos h]
theorem doR_n (h1 : ¬ actE kd bl yy cl 1 0 0 ⟨#[]⟩) (h2 : ¬ (actE kd bl yy cl 2 0 0 cl ∧ isCallP cl)) (h : ¬ inB bl 1 b.m.stage) : doR b kd bl yy cl = (Bd.zero, false) := by unfold doR; rw [if_neg h1, if_neg h2, if_pos h]
theorem not1 (h : inB bl 1 b.m.stage) : ¬ actE kd bl yy cl 1 0 0 ⟨#[]⟩ := fun e => by have := e.2.1; have := h.1; omega
theorem not2 (h : inB bl 1 b.m.stage) : ¬ (actE kd bl yy cl 2 0 0 cl ∧ isCallP cl) := fun e => by have := e.1.2.1; have := h.1; omega
theorem doR_3 (h : inB bl 1 b.m.stage) (h3 : actE kd bl yy cl 3 bl 0 ⟨#[]⟩) : doR b kd bl yy cl = (b.put bl ⟨(b.at_ bl).place, true⟩, true) := by unfold doR; rw [if_neg (not1 h), if_neg (not2 h), if_neg (fun e => e h), if_pos h3]
theorem doR_5 (h : inB bl 1 b.m.stage) (h3 : actE kd bl yy cl 5 bl 0 ⟨#[]⟩) : doR b kd bl yy cl = (b.put bl ⟨placeS b.tru bl, (b.at_ bl).deaf⟩, true) := by unfold doR; rw [if_neg (not1 h), if_neg (not2 h), if_neg (fun e => e h), if_neg (fun e => by have := e.1; have := h3.1; omega), if_pos h3]
theorem doR_4 (h : inB bl 1 b.m.stage) (h3 : actE kd bl yy cl 4 bl yy ⟨#[]⟩ ∧ (yy = 1 ∨ yy = -1) ∧ inB ((b.at_ bl).place + yy) 1 b.m.stage) : doR b kd bl yy cl = (b.put bl ⟨(b.at_ bl).place + yy, (b.at_ bl).deaf⟩, true) := by unfold doR; rw [if_neg (not1 h), if_neg (not2 h), if_neg (fun e => e h), if_neg (fun e => by have := e.1; have := h3.1.1; omega), if_neg (fun e => by have := e.1; have := h3.1.1; omega), if_pos h3]
theorem doR_no (h : inB bl 1 b.m.stage) (h3 : ¬ actE kd bl yy cl 3 bl 0 ⟨#[]⟩) (h5 : ¬ actE kd bl yy cl 5 bl 0 ⟨#[]⟩) (h4 : ¬ (actE kd bl yy cl 4 bl yy ⟨#[]⟩ ∧ (yy = 1 ∨ yy = -1) ∧ inB ((b.at_ bl).place + yy) 1 b.m.stage)) : doR b kd bl yy cl = (Bd.zero, false) := by unfold doR; rw [if_neg (not1 h), if_neg (not2 h), if_neg (fun e => e h), if_neg h3, if_neg h5, if_neg h4]
end
end Go.Proofs.Ytdecjijldcbnjaa
