/-
  StepBand: contracts of both sides.
-/
import Derived.Test.YtdecjijldcbnjaaStepB
import Derived.Test.YtdecjijldcbnjaaBand
namespace Go.Proofs.Ytdecjijldcbnjaa
open Go.RowKit
set_option linter.unusedVariables false
set_option linter.unusedSimpArgs false
set_option maxRecDepth 100000

open Classical in
/-- What StepBand answers. -/
noncomputable def stepBD (b : Bnd) : Bd × Bool := if bandP b then (stepD b, true) else (Bd.zero, false)
theorem stepBD_small {b : Bnd} (h : b.m.x.length ≤ 1048576) (hr : b.rx.length ≤ 1048576) : (stepBD b).1.x.length ≤ 1048576 ∧ (stepBD b).1.rx.length ≤ 1048576 := by
  unfold stepBD
  split
  · exact ⟨h, by show (stepRs b).length ≤ _; rw [stepRs_len]; exact hr⟩
  · exact ⟨Nat.zero_le _, Nat.zero_le _⟩












theorem stepped_any (b : Bnd) (w : World) (h : RdL w w.heap.size b.m.A 1 encString b.m.x) (hr : RdL w w.heap.size b.RA 2 Rgr.enc b.rx) (hl : b.m.x.length ≤ 1048576) (hp : bandP b) : Calls Try.prog 210 #[.agg #[.string b.m.name, .int .i64 b.m.stage, .slice b.m.A b.m.x.length b.m.c, .string b.bob, .string b.sing, .int .i64 b.step, .string b.call, .string b.tru, .slice b.RA b.rx.length b.rc]] w fun e w' => BdOne (stepD b) w e w' := by
  obtain ⟨⟨nm, st, x, A, c⟩, bob, sing, sp, call, tru, rx, RA, rc⟩ := b
  have hF := stepF_of hp
  have hn : ((st.toNat : Nat) : Int) = st := by have := hp.1.1.2.stage.1; simp only at this; omega
  have hk : ((sp.toNat : Nat) : Int) = sp := by have := hp.2.1.1; simp only at this; omega
  have := steppedF st.toNat sp.toNat nm x A c bob sing call tru rx RA rc _ _ _ _ w (Lib.hid hF) h hr hl
  rw [hn, hk] at this
  exact this
theorem l24Step_any (b : Bnd) (w : World) (h : RdL w w.heap.size b.m.A 1 encString b.m.x) (hr : RdL w w.heap.size b.RA 2 Rgr.enc b.rx) (hl : b.m.x.length ≤ 1048576) (hp : bandP b) : Calls Try.prog 206 #[.agg #[.string b.m.name, .int .i64 b.m.stage, .slice b.m.A b.m.x.length b.m.c, .string b.bob, .string b.sing, .int .i64 b.step, .string b.call, .string b.tru, .slice b.RA b.rx.length b.rc]] w fun e w' => BdOne (stepD b) w e w' := by
  obtain ⟨⟨nm, st, x, A, c⟩, bob, sing, sp, call, tru, rx, RA, rc⟩ := b
  have hF := stepF_of hp
  have hn : ((st.toNat : Nat) : Int) = st := by have := hp.1.1.2.stage.1; simp only at this; omega
  have hk : ((sp.toNat : Nat) : Int) = sp := by have := hp.2.1.1; simp only at this; omega
  have := l24StepF st.toNat sp.toNat nm x A c bob sing call tru rx RA rc _ _ _ _ w (Lib.hid hF) h hr hl
  rw [hn, hk] at this
  exact this
end Go.Proofs.Ytdecjijldcbnjaa
