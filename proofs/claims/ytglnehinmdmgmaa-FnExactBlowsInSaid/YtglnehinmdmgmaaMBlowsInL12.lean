import Derived.Test.YtglnehinmdmgmaaMBlowsInL00
import Derived.Deep.RegionLaw
/-
  Words of our own that know no program: a call inside a region that draws.
-/
namespace Go.Proofs.Ytglnehinmdmgmaa
open Go.RowKit
set_option linter.unusedVariables false
set_option linter.unusedSimpArgs false

section
variable {P : Program} {ops : Array Oper} {o : Oper} {a : Act} {K : Act → World → Prop} {Q : Exit → Act → World → Prop} {w : World} {E : Prop}
/-- A call inside a region that draws, by a contract that names its result only so far. -/
theorem step_callsX (hg : o.guard = none) (f : FuncId) {xs : Array Operand} {ts : Array TypeId} (ho : o.op = .call { callee := .value (.func f), args := xs, argTypes := ts }) (vals : Array Value) {R : Value → World → Prop} (henter : (execOp a.eval o).run P w = .ok (.enter f vals) w)
    (h : Calls P f vals w fun e w' => ∃ v, e = .returned v ∧ R v w') (hK : ∀ v w', R v w' → K (a.put o.dst v) w') : if Region.wanted o (yielded ops a.tmps) = true then Oper.wp P o a w K Q else E := by
  rw [if_pos (by simp [Region.wanted, hg])]
  unfold Oper.wp
  rw [henter, Oper.upon_enter]
  exact h.mono fun e w' ⟨v, he, hr⟩ => by subst he; exact hK v w' hr
end
end Go.Proofs.Ytglnehinmdmgmaa
