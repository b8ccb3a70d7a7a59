import Derived.Test.YtkegbbndmfnolaaGreatDoorMBandsL00
import Derived.Test.YtkegbbndmfnolaaGreatDoorMBandsL02
import Derived.Deep.Quiet
/-
 A region that draws its order and holds calls that make memory: one walk in the order of the text, the results known by what is said of them. Words of our own that know no program.
-/
namespace Go.Proofs.YtkegbbndmfnolaaGreatDoor
open Go.RowKit
set_option linter.unusedVariables false
set_option linter.unusedSimpArgs false

section
variable {P : Program} {ops : Array Oper} {md : Region.Mode}
/-- What an operation waits for. -/
def gWaits (md : Region.Mode) (ops : Array Oper) (j : Nat) : List Nat :=
 match ops[j]? with
 | none => []
 | some o => (o.after.toList.filter (Region.binds md)).map (fun e => e.on)
/-- What an operation waits for, and what that waits for, and so on. -/
def gDeps (md : Region.Mode) (ops : Array Oper) : Nat → Nat → List Nat
 | 0, j => gWaits md ops j
 | f + 1, j => gWaits md ops j ++ (gWaits md ops j).flatMap (gDeps md ops f)
def gClosed (md : Region.Mode) (ops : Array Oper) (listed : Array Bool) : Prop := ∀ k, listed.getD k false = true → ∀ e ∈ gWaits md ops k, listed.getD e false = true
theorem ready_waits {listed : Array Bool} {j : Nat} (h : j ∈ Region.ready md ops listed) : ∀ e ∈ gWaits md ops j, listed.getD e false = true := by
 obtain ⟨_, o, ho, hall⟩ := mem_ready.1 h
 intro e he
 unfold gWaits at he
 rw [ho] at he
 obtain ⟨x, hx, rfl⟩ := List.mem_map.1 he
 obtain ⟨hx, hb⟩ := List.mem_filter.1 hx
 exact hall x (by simpa using hx) hb
theorem deps_listed {listed : Array Bool} (hc : gClosed md ops listed) : ∀ (f j : Nat), (∀ e ∈ gWaits md ops j, listed.getD e false = true) → ∀ d ∈ gDeps md ops f j, listed.getD d false = true
 | 0, j, h, d, hd => h d hd
 | f + 1, j, h, d, hd => by
  rcases List.mem_append.1 hd with hd | hd
  ·exact h d hd
  ·obtain ⟨e, he, hd⟩ := List.mem_flatMap.1 hd
   exact deps_listed hc f e (hc e (h e he)) d hd
theorem closed_set {listed : Array Bool} (hc : gClosed md ops listed) {j : Nat} (hj : j ∈ Region.ready md ops listed) : gClosed md ops (listed.setIfInBounds j true) := by
 intro k hk e he
 by_cases hkj : j = k
 ·subst hkj; exact getD_set_true (ready_waits hj e he)
 ·rw [getD_set_ne false hkj] at hk; exact getD_set_true (hc k hk e he)
theorem not_both {listed : Array Bool} {i : Nat} (h1 : listed.getD i true = false) (h2 : listed.getD i false = true) : False := by
 rcases Nat.lt_or_ge i listed.size with h' | h'
 ·simp [h'] at h1 h2; rw [h1] at h2; cases h2
 ·simp [Array.getElem?_eq_none h'] at h2
end

/-- What is known of one result: the blocks that it has made, and a statement on them. -/
structure GRec where
 lo : Nat
 hi : Nat
 φ : World → Prop
 on : Bool
def GRec.zero : GRec := ⟨0, 0, fun _ => True, false⟩
/-- The statement hangs on those blocks alone. -/
def GLoc (r : GRec) : Prop := ∀ w w' : World, w.heap.size ≤ w'.heap.size → (∀ k, r.lo ≤ k → k < r.hi → w'.heap[k]? = w.heap[k]?) → r.hi ≤ w.heap.size → r.φ w → r.φ w'
structure GEnv where
 at_ : Nat → GRec
 top : Option (World → Prop)
def GEnv.upd (E : GEnv) (i : Nat) (r : GRec) : GEnv := { E with at_ := fun k => if k = i then r else E.at_ k }
def GEnv.zero : GEnv := ⟨fun _ => GRec.zero, none⟩
theorem GEnv.upd_same (E : GEnv) (i : Nat) (r : GRec) : (E.upd i r).at_ i = r := if_pos rfl
theorem GEnv.upd_other (E : GEnv) {i k : Nat} (r : GRec) (h : k ≠ i) : (E.upd i r).at_ k = E.at_ k := if_neg h
theorem GEnv.upd_comm (E : GEnv) {i j : Nat} (r s : GRec) (h : i ≠ j) : (E.upd i r).upd j s = (E.upd j s).upd i r := by
 unfold GEnv.upd
 congr 1
 funext k
 by_cases h1 : k = i
 ·subst h1; simp [h]
 ·by_cases h2 : k = j
  ·subst h2; simp [h1]
  ·simp [h1, h2]
/-- What may happen to memory at a step: blocks from b0 on stay. -/
def GEff (b0 : Nat) (w w' : World) : Prop := w.heap.size ≤ w'.heap.size ∧ ∀ k, b0 ≤ k → k < w.heap.size → w'.heap[k]? = w.heap[k]?
def GRecs (b0 : Nat) (E : GEnv) (w : World) : Prop :=
 (∀ i, (E.at_ i).hi ≤ w.heap.size ∧ (((E.at_ i).on = true ∧ b0 ≤ (E.at_ i).lo ∧ (E.at_ i).lo ≤ (E.at_ i).hi) ∨ ((E.at_ i).hi = 0 ∧ (E.at_ i).on = false)) ∧ (E.at_ i).φ w) ∧ ∀ i j, i ≠ j → (E.at_ i).hi ≤ (E.at_ j).lo ∨ (E.at_ j).hi ≤ (E.at_ i).lo
def GHolds (C : World → Prop) (b0 : Nat) (E : GEnv) (w : World) : Prop := match E.top with
 | none => C w ∧ GRecs b0 E w
 | some F => F w
def GSat (C : World → Prop) (b0 : Nat) (E : GEnv) : Prop := ∃ w, GHolds C b0 E w

inductive GKind where
 | q
 | s (Ψ : List Value → Value → Nat → Nat → World → Prop)
 | t
 | u
def GKind.code : GKind → Nat
 | .q => 0
 | .s _ => 1
 | .t => 2
 | .u => 3
/-- Operations that hand a value on and enter no function. -/
def qOpB : Op → Bool
 | .move _ => true
 | .assign _ => true
 | .build _ _ => true
 | .load _ _ => true
 | .binOp _ _ _ _ _ => true
 | .unOp _ _ _ => true
 | .fieldAddr _ _ _ => true
 | .field _ _ _ => true
 | .indexAddr _ _ _ => true
 | .index _ _ _ => true
 | .extract _ _ => true
 | .convert _ _ _ => true
 | .slice _ _ _ _ _ => true
 | .pick _ _ _ => true
 | _ => false

def gRun (P : Program) (R : Value → World → Prop) : Result Next → Prop
 | .ok (.value u) w' => R u w'
 | .ok (.enter f args) w' => Calls P f args w' fun e w'' => ∃ u, e = .returned u ∧ R u w''
 | _ => False
theorem gRun_ex {P : Program} {R : Value → World → Prop} : ∀ r, gRun P R r → ∃ u w', R u w' := by
 intro r hr
 cases r with
 | ok n w' =>
  cases n <;> simp only [gRun] at hr
  case value u => exact ⟨u, w', hr⟩
  case enter f args =>
   obtain ⟨e, w'', fr, ⟨u, _, hu⟩, _⟩ := hr []
   exact ⟨u, w'', hu⟩
 | halt x w' => simp only [gRun] at hr

section
variable {P : Program} {ops : Array Oper} {md : Region.Mode} {C : World → Prop} {b0 fu : Nat} {kind : Nat → GKind}

theorem enter_not {P : Program} {ρ : Operand → Value} {o : Oper} {w w' : World} {f : FuncId} {args : Array Value} (hq : qOpB o.op = true) : (execOp ρ o).run P w ≠ .ok (.enter f args) w' := by
 have key : ∀ s : Sem Value, (do let x ← s; pure (Next.value x) : Sem Next).run P w ≠ .ok (.enter f args) w' := by
  intro s h
  rw [Sem.run_bind] at h
  cases hs : s.run P w with
  | ok v w2 => rw [hs] at h; simp [Sem.run_pure] at h
  | halt x w2 => rw [hs] at h; simp at h
 obtain ⟨dst, op, type, pos, after, guard⟩ := o
 cases op <;> simp only [qOpB] at hq <;> first | (cases hq; done) | (unfold execOp; first | exact key _ | (intro h; simp [Sem.run_pure] at h; done) | (intro h; simp [Sem.run_pure] at h; revert h; generalize Sem.run P (asBool _) w = r; intro h; cases r <;> simp [Result.andThen] at h))

/-- The step of a call, of an allocation. -/
def gGives (P : Program) (md : Region.Mode) (ops : Array Oper) (C : World → Prop) (b0 fu : Nat) (i : Nat) (o : Oper) (Ψ : Value → Nat → Nat → World → Prop) (a : Act) (E : GEnv) : Prop :=
 ∀ w, C w → (∀ d ∈ gDeps md ops fu i, (E.at_ d).hi ≤ w.heap.size ∧ (E.at_ d).φ w) →
  gRun P (fun u w' => C w' ∧ GEff b0 w w' ∧ Ψ u w.heap.size w'.heap.size w') ((execOp a.eval o).run P w)
def gTop (P : Program) (C : World → Prop) (b0 : Nat) (o : Oper) (a : Act) (E : GEnv) : World → Prop := fun w' => ∃ w, GHolds C b0 E w ∧ (execOp a.eval o).run P w = .ok .skip w'

/-- The values that an operation is handed. -/
def gArgs (o : Oper) (a : Act) : List Value :=
 match o.op with
 | .call c => c.args.toList.map a.eval
 | .load _ x => [a.eval x]
 | _ => []
theorem gArgs_put {ops : Array Oper} (o : Oper) (a : Act) (dst : Option Tmp) (v : Value) (h : ∀ d, dst = some d → d ∉ o.looksAt ops) : gArgs o (a.put dst v) = gArgs o a := by
 have key : ∀ x ∈ o.op.operands, (a.put dst v).eval x = a.eval x := fun x hx => Act.eval_put fun d hd hxd => h d hd (by
  subst hxd
  exact List.mem_append_left _ (List.mem_filterMap.2 ⟨.tmp d, by simpa using hx, rfl⟩))
 unfold gArgs
 split
 ·rename_i c hc
  refine List.map_congr_left fun x hx => key x ?_
  rw [hc]
  simp [Op.operands, Call.operands]
  exact .inr (by simpa using hx)
 ·rename_i t x hx
  rw [key x (by rw [hx]; simp [Op.operands])]
 ·rfl
/-- A call that answers one value and leaves the world as it is; there is no call in the region that makes memory. -/
def gPure (P : Program) (C : World → Prop) (kind : Nat → GKind) (o : Oper) (a : Act) (v : Value) : Prop :=
 (∀ k, (kind k).code ≠ 1) ∧ ∃ f vals, (∀ w, (execOp a.eval o).run P w = .ok (.enter f vals) w) ∧ ∀ w, C w → Calls P f vals w fun e w' => e = .returned v ∧ w' = w
theorem gPure_of {P : Program} {C : World → Prop} {kind : Nat → GKind} {o : Oper} {a a' : Act} {v : Value} (e : execOp a'.eval o = execOp a.eval o) (h : gPure P C kind o a v) : gPure P C kind o a' v := by
 obtain ⟨h1, f, vals, h2, h3⟩ := h
 exact ⟨h1, f, vals, fun w => by rw [e]; exact h2 w, h3⟩

/-- .. or it hands a value on in every world of the class. -/
def gStay (P : Program) (C : World → Prop) (o : Oper) (a : Act) : Prop := qOpB o.op = true ∨ ∀ w, C w → ∃ v, (execOp a.eval o).run P w = .ok (.value v) w
theorem gStay_of {P : Program} {C : World → Prop} {o : Oper} {a a' : Act} (e : execOp a'.eval o = execOp a.eval o) (h : gStay P C o a) : gStay P C o a' := h.imp id (fun h w hw => by rw [e]; exact h w hw)
theorem stay_not {P : Program} {C : World → Prop} {o : Oper} {a : Act} {w w' : World} {f : FuncId} {args : Array Value} (h : gStay P C o a) (hw : C w) : (execOp a.eval o).run P w ≠ .ok (.enter f args) w' := by
 rcases h with h | h
 ·exact enter_not h
 ·obtain ⟨v, hv⟩ := h w hw
  rw [hv]
  intro e
  injection e with e _
  cases e
def gQuiet (P : Program) (C : World → Prop) (ops : Array Oper) (kind : Nat → GKind) (o : Oper) (a : Act) (v : Value) : Prop := gStay P C o a ∨ gPure P C kind o a v ∨ Region.wanted o (yielded ops a.tmps) = false
theorem gQuiet_of {P : Program} {C : World → Prop} {ops : Array Oper} {kind : Nat → GKind} {o : Oper} {a a' : Act} {v : Value} (e : execOp a'.eval o = execOp a.eval o) (ew : Region.wanted o (yielded ops a'.tmps) = Region.wanted o (yielded ops a.tmps)) (h : gQuiet P C ops kind o a v) : gQuiet P C ops kind o a' v := by
 rcases h with h | h | h
 ·exact .inl (gStay_of e h)
 ·exact .inr (.inl (gPure_of e h))
 ·exact .inr (.inr (by rw [ew]; exact h))
def opG (P : Program) (md : Region.Mode) (ops : Array Oper) (C : World → Prop) (b0 fu : Nat) (kind : Nat → GKind) (i : Nat) (K : Act → GEnv → Prop) (a : Act) (E : GEnv) : Prop :=
 ∃ o, ops[i]? = some o ∧ match kind i with
 | .q => (∀ w, GHolds C b0 E w → C w) ∧ ∃ v, gQuiet P C ops kind o a v ∧ YieldsIn P ops C o v a ∧ K (a.put o.dst v) E
 | .s Ψ => o.guard = none ∧ E.top = none ∧ (∀ u lo hi, GLoc ⟨lo, hi, Ψ (gArgs o a) u lo hi, true⟩) ∧ gGives P md ops C b0 fu i o (Ψ (gArgs o a)) a E ∧ ∀ u lo hi, GSat C b0 (E.upd i ⟨lo, hi, Ψ (gArgs o a) u lo hi, true⟩) → K (a.put o.dst u) (E.upd i ⟨lo, hi, Ψ (gArgs o a) u lo hi, true⟩)
 | .t => o.guard = none ∧ E.top = none ∧ (∀ w, GHolds C b0 E w → ∃ w', (execOp a.eval o).run P w = .ok .skip w' ∧ C w') ∧ K (a.put o.dst undef) { E with top := some (fun w' => C w' ∧ gTop P C b0 o a E w') }
 | .u => o.guard = none ∧ E.top = none ∧ (∀ w, GHolds C b0 E w → ∃ w', (execOp a.eval o).run P w = .ok .skip w') ∧ K (a.put o.dst undef) { E with top := some (gTop P C b0 o a E) }

theorem holds_recs {E : GEnv} {w : World} (h : GHolds C b0 E w) (ht : E.top = none) : GRecs b0 E w := by
 unfold GHolds at h; rw [ht] at h; exact h.2
theorem GHolds.cls {E : GEnv} {w : World} (h : GHolds C b0 E w) (ht : E.top = none) : C w := by
 unfold GHolds at h; rw [ht] at h; exact h.1
theorem holds_of {E : GEnv} {w : World} (hC : C w) (ht : E.top = none) (h : GRecs b0 E w) : GHolds C b0 E w := by
 unfold GHolds; rw [ht]; exact ⟨hC, h⟩
theorem wanted_none {o : Oper} (h : o.guard = none) (y : Nat → Option Bool) : Region.wanted o y = true := by unfold Region.wanted; rw [h]

/-- Behind a step all that was known is known still, and the new result. -/
theorem holds_upd (hb : ∀ w, C w → b0 ≤ w.heap.size) {E : GEnv} {w w' : World} {i : Nat} {Ψ : Value → Nat → Nat → World → Prop} {u : Value} (hh : GHolds C b0 E w) (ht : E.top = none)
  (hloc : ∀ k, GLoc (E.at_ k)) (hz : E.at_ i = GRec.zero) (hC : C w') (he : GEff b0 w w') (hΨ : Ψ u w.heap.size w'.heap.size w') :
  GHolds C b0 (E.upd i ⟨w.heap.size, w'.heap.size, Ψ u w.heap.size w'.heap.size, true⟩) w' := by
 have hr := holds_recs hh ht
 refine holds_of hC ht ⟨fun k => ?_, fun k l hkl => ?_⟩
 ·by_cases e : k = i
  ·subst e; rw [GEnv.upd_same]; exact ⟨Nat.le_refl _, .inl ⟨rfl, hb _ (hh.cls ht), he.1⟩, hΨ⟩
  ·rw [GEnv.upd_other _ _ e]
   obtain ⟨h1, h2, h3⟩ := hr.1 k
   refine ⟨Nat.le_trans h1 he.1, h2, hloc k w w' he.1 (fun m hm1 hm2 => he.2 m ?_ (by omega)) h1 h3⟩
   rcases h2 with h2 | h2
   ·exact Nat.le_trans h2.2.1 hm1
   ·exfalso; have := h2.1; omega
 ·by_cases e : k = i
  ·subst e
   rw [GEnv.upd_same, GEnv.upd_other _ _ (fun h => hkl h.symm)]
   exact .inr (hr.1 l).1
  ·by_cases e2 : l = i
   ·subst e2
    rw [GEnv.upd_same, GEnv.upd_other _ _ e]
    exact .inl (hr.1 k).1
   ·rw [GEnv.upd_other _ _ e, GEnv.upd_other _ _ e2]; exact hr.2 k l hkl

/-- The records of an environment are each on their own blocks. -/
def GLocs (E : GEnv) : Prop := ∀ k, GLoc (E.at_ k)
theorem GLocs.upd {E : GEnv} (h : GLocs E) {i : Nat} {r : GRec} (hr : GLoc r) : GLocs (E.upd i r) := fun k => by
 by_cases e : k = i
 ·subst e; rw [GEnv.upd_same]; exact hr
 ·rw [GEnv.upd_other _ _ e]; exact h k
theorem GLocs.zero : GLocs GEnv.zero := fun k w w' _ _ _ _ => trivial

theorem sat_s (hb : ∀ w, C w → b0 ≤ w.heap.size) {E : GEnv} (hs : GSat C b0 E) (ht : E.top = none) (hloc : GLocs E) {i : Nat} (hz : E.at_ i = GRec.zero) {o : Oper} {a : Act} {Ψ : Value → Nat → Nat → World → Prop}
  (hg : gGives P md ops C b0 fu i o Ψ a E) : ∃ u lo hi, GSat C b0 (E.upd i ⟨lo, hi, Ψ u lo hi, true⟩) := by
 obtain ⟨w, hw⟩ := hs
 have hr := holds_recs hw ht
 obtain ⟨u, w', h1, h2, h3⟩ := gRun_ex _ (hg w (hw.cls ht) (fun d _ => ⟨(hr.1 d).1, (hr.1 d).2.2⟩))
 exact ⟨u, _, _, w', holds_upd hb hw ht hloc hz h1 h2 h3⟩

theorem opG_mono (hb : ∀ w, C w → b0 ≤ w.heap.size) {i : Nat} {a : Act} {E : GEnv} {K K' : Act → GEnv → Prop} (hs : GSat C b0 E) (hloc : GLocs E)
  (h : ∀ a' E', GSat C b0 E' → GLocs E' → (∀ k, k ≠ i → E'.at_ k = E.at_ k) → K a' E' → K' a' E') (hh : opG P md ops C b0 fu kind i K a E) : opG P md ops C b0 fu kind i K' a E := by
 obtain ⟨o, ho, hh⟩ := hh
 refine ⟨o, ho, ?_⟩
 cases hk : kind i with
 | q =>
  rw [hk] at hh
  obtain ⟨hc, v, h1, hy, hK⟩ := hh
  exact ⟨hc, v, h1, hy, h _ _ hs hloc (fun _ _ => rfl) hK⟩
 | s Ψ =>
  rw [hk] at hh
  obtain ⟨h1, h2, h3, h4, hK⟩ := hh
  exact ⟨h1, h2, h3, h4, fun u lo hi hs' => h _ _ hs' (hloc.upd (h3 u lo hi)) (fun k hk => GEnv.upd_other _ _ hk) (hK u lo hi hs')⟩
 | t =>
  rw [hk] at hh
  obtain ⟨h1, h2, h3, hK⟩ := hh
  refine ⟨h1, h2, h3, h _ _ ?_ hloc (fun _ _ => rfl) hK⟩
  obtain ⟨w, hw⟩ := hs
  obtain ⟨w', hr, hC⟩ := h3 w hw
  exact ⟨w', hC, w, hw, hr⟩
 | u =>
  rw [hk] at hh
  obtain ⟨h1, h2, h3, hK⟩ := hh
  refine ⟨h1, h2, h3, h _ _ ?_ hloc (fun _ _ => rfl) hK⟩
  obtain ⟨w, hw⟩ := hs
  obtain ⟨w', hr⟩ := h3 w hw
  exact ⟨w', w, hw, hr⟩
theorem opG_ex (hb : ∀ w, C w → b0 ≤ w.heap.size) {i : Nat} {a : Act} {E : GEnv} {K : Act → GEnv → Prop} (hs : GSat C b0 E) (hloc : GLocs E) (hz : E.at_ i = GRec.zero) (hh : opG P md ops C b0 fu kind i K a E) : ∃ a' E', K a' E' := by
 obtain ⟨o, ho, hh⟩ := hh
 cases hk : kind i with
 | q => rw [hk] at hh; obtain ⟨_, v, h1, hy, hK⟩ := hh; exact ⟨_, _, hK⟩
 | s Ψ =>
  rw [hk] at hh
  obtain ⟨h1, h2, h3, h4, hK⟩ := hh
  obtain ⟨u, lo, hi, hs'⟩ := sat_s hb hs h2 hloc hz h4
  exact ⟨_, _, hK u lo hi hs'⟩
 | t => rw [hk] at hh; obtain ⟨h1, h2, h3, hK⟩ := hh; exact ⟨_, _, hK⟩
 | u => rw [hk] at hh; obtain ⟨h1, h2, h3, hK⟩ := hh; exact ⟨_, _, hK⟩

theorem yields_unique {o : Oper} {v v' : Value} {a : Act} {w : World} (hq' : gStay P C o a ∨ Region.wanted o (yielded ops a.tmps) = false) (hw : C w) (h : YieldsIn P ops C o v a) (h' : YieldsIn P ops C o v' a) : v = v' := by
 rcases h with ⟨h1, h2⟩ | ⟨h1, rfl⟩ <;> rcases h' with ⟨h1', h2'⟩ | ⟨h1', rfl⟩
 ·have hq : gStay P C o a := hq'.resolve_right (fun h => by rw [h1] at h; cases h)
  have e1 := h2 w hw
  have e2 := h2' w hw
  unfold Oper.quietAt at e1 e2
  cases hr : (execOp a.eval o).run P w with
  | ok n w' =>
   rw [hr] at e1 e2
   cases n <;> simp only [Oper.quietUpon] at e1 e2
   case value u => rw [← e1.2, ← e2.2]
   case skip => rw [e1.2, e2.2]
   case enter f args => exact absurd hr (stay_not hq hw)
  | halt x w' => rw [hr] at e1; simp only [Oper.quietUpon] at e1
 ·rw [h1] at h1'; cases h1'
 ·rw [h1] at h1'; cases h1'
 ·rfl

theorem sat_less {E : GEnv} {j : Nat} {r : GRec} (hz : E.at_ j = GRec.zero) {i : Nat} {s : GRec} (hij : i ≠ j) (ht : E.top = none) (h : GSat C b0 ((E.upd j r).upd i s)) : GSat C b0 (E.upd i s) := by
 obtain ⟨w, hw⟩ := h
 have hr := holds_recs hw ht
 refine ⟨w, holds_of (hw.cls ht) ht ⟨fun k => ?_, fun k l hkl => ?_⟩⟩
 ·by_cases e : k = j
  ·subst e
   rw [GEnv.upd_other _ _ (fun h => hij h.symm), hz]
   exact ⟨Nat.zero_le _, .inr ⟨rfl, rfl⟩, trivial⟩
  ·have := hr.1 k
   by_cases e2 : k = i
   ·subst e2; rw [GEnv.upd_same] at this ⊢; exact this
   ·rw [GEnv.upd_other _ _ e2, GEnv.upd_other _ _ e] at this; rw [GEnv.upd_other _ _ e2]; exact this
 ·have key : ∀ k, k ≠ j → ((E.upd j r).upd i s).at_ k = (E.upd i s).at_ k := fun k hk => by
   by_cases e2 : k = i
   ·subst e2; rw [GEnv.upd_same, GEnv.upd_same]
   ·rw [GEnv.upd_other _ _ e2, GEnv.upd_other _ _ hk, GEnv.upd_other _ _ e2]
  have kj : (E.upd i s).at_ j = GRec.zero := by rw [GEnv.upd_other _ _ (fun h => hij h.symm), hz]
  by_cases e : k = j
  ·subst e; rw [kj]; exact .inl (Nat.zero_le _)
  ·by_cases e2 : l = j
   ·subst e2; rw [kj]; exact .inr (Nat.zero_le _)
   ·rw [← key k e, ← key l e2]; exact hr.2 k l hkl

def gCompat : Nat → Nat → Bool
 | 0, 0 => true
 | 0, 1 => true
 | 0, 2 => true
 | 1, 0 => true
 | 2, 0 => true
 | 1, 1 => true
 | _, _ => false

theorem gives_put {i : Nat} {o : Oper} {Ψ : Value → Nat → Nat → World → Prop} {a a' : Act} {E E' : GEnv} (he : execOp a'.eval o = execOp a.eval o) (hE : ∀ d ∈ gDeps md ops fu i, E'.at_ d = E.at_ d)
  (h : gGives P md ops C b0 fu i o Ψ a E) : gGives P md ops C b0 fu i o Ψ a' E' := by
 intro w hw hd
 rw [he]
 exact h w hw (fun d hdd => by rw [← hE d hdd]; exact hd d hdd)

/-- Two operations that are apart come up in either order. -/
theorem opG_swap (hb : ∀ w, C w → b0 ≤ w.heap.size) {i j : Nat} {oi oj : Oper} (hoi : ops[i]? = some oi) (hoj : ops[j]? = some oj) (hne : i ≠ j) (hap : oi.apart ops oj = true)
  (hsi : ∀ cs b, oi.op ≠ .select cs b) (hsj : ∀ cs b, oj.op ≠ .select cs b) (hij : i ∉ gDeps md ops fu j) (hji : j ∉ gDeps md ops fu i) (hcm : gCompat (kind i).code (kind j).code = true)
  {a : Act} {E : GEnv} {K : Act → GEnv → Prop} (hs : GSat C b0 E) (hloc : GLocs E) (hzi : E.at_ i = GRec.zero) (hzj : E.at_ j = GRec.zero)
  (H : opG P md ops C b0 fu kind i (fun a' E' => opG P md ops C b0 fu kind j K a' E') a E) : opG P md ops C b0 fu kind j (fun a' E' => opG P md ops C b0 fu kind i K a' E') a E := by
 obtain ⟨h1, h2, h3⟩ := Oper.apart_spec hap
 have ej : ∀ (a : Act) v, execOp (a.put oi.dst v).eval oj = execOp a.eval oj := fun a v => execOp_put oj hsj a oi.dst v h1
 have ei : ∀ (a : Act) v, execOp (a.put oj.dst v).eval oi = execOp a.eval oi := fun a v => execOp_put oi hsi a oj.dst v h3
 have wj : ∀ (a : Act) v, Region.wanted oj (yielded ops (a.put oi.dst v).tmps) = Region.wanted oj (yielded ops a.tmps) := fun a v => wanted_put oj a oi.dst v h1
 have wi : ∀ (a : Act) v, Region.wanted oi (yielded ops (a.put oj.dst v).tmps) = Region.wanted oi (yielded ops a.tmps) := fun a v => wanted_put oi a oj.dst v h3
 have gj : ∀ (a : Act) v, gArgs oj (a.put oi.dst v) = gArgs oj a := fun a v => gArgs_put oj a oi.dst v h1
 have gi : ∀ (a : Act) v, gArgs oi (a.put oj.dst v) = gArgs oi a := fun a v => gArgs_put oi a oj.dst v h3
 have pc : ∀ (a : Act) v u, (a.put oi.dst v).put oj.dst u = (a.put oj.dst u).put oi.dst v := fun a v u => Act.put_comm a v u h2
 obtain ⟨o, ho, H⟩ := H
 obtain rfl : o = oi := by rw [hoi] at ho; injection ho with ho; exact ho.symm
 refine ⟨oj, hoj, ?_⟩
 cases hki : kind i with
 | q =>
  rw [hki] at H
  obtain ⟨ci, v, qi, yi, o', ho', H⟩ := H
  obtain rfl : o' = oj := by rw [hoj] at ho'; injection ho' with ho'; exact ho'.symm
  cases hkj : kind j with
  | q =>
   rw [hkj] at H
   obtain ⟨cj, u, qj, yj, hK⟩ := H
   refine ⟨cj, u, gQuiet_of (ej a v).symm (wj a v).symm qj, yj.of_same (ej a v).symm (wj a v).symm, o, hoi, ?_⟩
   rw [hki]
   exact ⟨ci, v, gQuiet_of (ei a u) (wi a u) qi, yi.of_same (ei a u) (wi a u), by rw [← pc]; exact hK⟩
  | s Ψ =>
   rw [hkj] at H
   simp only [gj] at H
   obtain ⟨g1, g2, g3, g4, hK⟩ := H
   refine ⟨g1, g2, g3, gives_put (ej a v).symm (fun _ _ => rfl) g4, fun u lo hi hs' => ⟨o, hoi, ?_⟩⟩
   rw [hki]
   exact ⟨fun w hw => hw.cls g2, v, gQuiet_of (ei a u) (wi a u) qi, yi.of_same (ei a u) (wi a u), by rw [← pc]; exact hK u lo hi hs'⟩
  | t =>
   rw [hkj] at H
   obtain ⟨g1, g2, g3, hK⟩ := H
   rw [ej a v] at g3
   refine ⟨g1, g2, g3, o, hoi, ?_⟩
   rw [hki]
   refine ⟨fun w hw => hw.1, v, gQuiet_of (ei a undef) (wi a undef) qi, yi.of_same (ei a undef) (wi a undef), ?_⟩
   rw [← pc]
   have e : gTop P C b0 o' (a.put o.dst v) E = gTop P C b0 o' a E := by unfold gTop; rw [ej a v]
   rw [e] at hK
   exact hK
  | u => rw [hki, hkj] at hcm; cases hcm
 | s Ψ =>
  rw [hki] at H
  obtain ⟨g1, g2, g3, g4, H⟩ := H
  obtain ⟨u0, lo0, hi0, hs0⟩ := sat_s hb hs g2 hloc hzi g4
  have H0 := H u0 lo0 hi0 hs0
  obtain ⟨o', ho', H0⟩ := H0
  obtain rfl : o' = oj := by rw [hoj] at ho'; injection ho' with ho'; exact ho'.symm
  cases hkj : kind j with
  | q =>
   rw [hkj] at H0
   obtain ⟨cj, u, qj0, yj, _⟩ := H0
   have yj' : YieldsIn P ops C o' u a := yj.of_same (ej a u0).symm (wj a u0).symm
   have qj : gStay P C o' a ∨ Region.wanted o' (yielded ops a.tmps) = false := by
    rcases qj0 with h | h | h
    ·exact .inl (gStay_of (ej a u0).symm h)
    ·exact absurd (by rw [hki]; rfl) (h.1 i)
    ·exact .inr (by rw [← wj a u0]; exact h)
   refine ⟨fun w hw => hw.cls g2, u, qj.imp id (fun h => .inr h), yj', o, hoi, ?_⟩
   rw [hki]
   simp only [gi]
   refine ⟨g1, g2, g3, gives_put (ei a u) (fun _ _ => rfl) g4, fun v lo hi hs' => ?_⟩
   obtain ⟨o'', ho'', H1⟩ := H v lo hi hs'
   obtain rfl : o'' = o' := by rw [hoj] at ho''; injection ho'' with ho''; exact ho''.symm
   rw [hkj] at H1
   obtain ⟨_, u1, _, yj1, hK⟩ := H1
   obtain ⟨w, hw⟩ := hs
   have : u1 = u := yields_unique qj (hw.cls g2) (yj1.of_same (ej a v).symm (wj a v).symm) yj'
   subst this
   rw [← pc]; exact hK
  | s Ψ2 =>
   rw [hkj] at H0
   simp only [gj] at H0
   obtain ⟨k1, k2, k3, k4, _⟩ := H0
   refine ⟨k1, g2, k3, gives_put (ej a u0).symm (fun d hd => by rw [GEnv.upd_other _ _ (fun e => hij (by rw [← e]; exact hd))]) k4, fun u lo hi hs' => ⟨o, hoi, ?_⟩⟩
   rw [hki]
   simp only [gi]
   refine ⟨g1, g2, g3, gives_put (ei a u) (fun d hd => by rw [GEnv.upd_other _ _ (fun e => hji (by rw [← e]; exact hd))]) g4, fun v lo' hi' hs2 => ?_⟩
   obtain ⟨o'', ho'', H1⟩ := H v lo' hi' (sat_less hzj hne g2 hs2)
   obtain rfl : o'' = o' := by rw [hoj] at ho''; injection ho'' with ho''; exact ho''.symm
   rw [hkj] at H1
   simp only [gj] at H1
   obtain ⟨_, _, _, _, hK⟩ := H1
   rw [← pc, ← GEnv.upd_comm E _ _ hne]
   exact hK u lo hi (by rw [GEnv.upd_comm E _ _ hne]; exact hs2)
  | t => rw [hki, hkj] at hcm; cases hcm
  | u => rw [hki, hkj] at hcm; cases hcm
 | u => rw [hki] at hcm; cases hkj : kind j <;> (rw [hkj] at hcm; cases hcm)
 | t =>
  rw [hki] at H
  obtain ⟨g1, g2, g3, o', ho', H⟩ := H
  obtain rfl : o' = oj := by rw [hoj] at ho'; injection ho' with ho'; exact ho'.symm
  cases hkj : kind j with
  | q =>
   rw [hkj] at H
   obtain ⟨cj, u, qj, yj, hK⟩ := H
   refine ⟨fun w hw => hw.cls g2, u, gQuiet_of (ej a undef).symm (wj a undef).symm qj, yj.of_same (ej a undef).symm (wj a undef).symm, o, hoi, ?_⟩
   rw [hki]
   rw [ei a u]
   refine ⟨g1, g2, g3, ?_⟩
   rw [← pc]
   have e : gTop P C b0 o (a.put o'.dst u) E = gTop P C b0 o a E := by unfold gTop; rw [ei a u]
   rw [e]
   exact hK
  | s Ψ2 => rw [hki, hkj] at hcm; cases hcm
  | t => rw [hki, hkj] at hcm; cases hcm
  | u => rw [hki, hkj] at hcm; cases hcm

/-- Whatever order is picked from here on. -/
def wpAnyG (P : Program) (md : Region.Mode) (ops : Array Oper) (C : World → Prop) (b0 fu : Nat) (kind : Nat → GKind) (Q : Act → GEnv → Prop) : Nat → Array Bool → Act → GEnv → Prop
 | 0, listed, a, E => Region.ready md ops listed = [] ∧ Q a E
 | fuel + 1, listed, a, E =>
  (Region.ready md ops listed = [] → Q a E) ∧
  ∀ i ∈ Region.ready md ops listed, opG P md ops C b0 fu kind i (wpAnyG P md ops C b0 fu kind Q fuel (listed.setIfInBounds i true)) a E

def GFresh (E : GEnv) (listed : Array Bool) : Prop := ∀ k, listed.getD k false = false → E.at_ k = GRec.zero
theorem fresh_of {E : GEnv} {listed : Array Bool} (h : GFresh E listed) {k : Nat} (hk : listed.getD k true = false) : E.at_ k = GRec.zero := h k (by
 rcases Nat.lt_or_ge k listed.size with h' | h'
 ·simp [h'] at hk ⊢; exact hk
 ·simp [Array.getElem?_eq_none h'])

theorem wpAnyG_first (hb : ∀ w, C w → b0 ≤ w.heap.size) {Q : Act → GEnv → Prop} {i : Nat} {oi : Oper} (hi : ops[i]? = some oi) (hsel : ∀ (j : Nat) (o : Oper) cs b, ops[j]? = some o → o.op ≠ .select cs b) :
  ∀ (fuel : Nat) (listed : Array Bool) (a : Act) (E : GEnv), gClosed md ops listed → GSat C b0 E → GLocs E → GFresh E listed →
   (∀ j oj, ops[j]? = some oj → j ≠ i → listed.getD j true = false → i ∈ gDeps md ops fu j ∨ (oi.apart ops oj = true ∧ gCompat (kind i).code (kind j).code = true)) →
   i ∈ Region.ready md ops listed → opG P md ops C b0 fu kind i (wpAnyG P md ops C b0 fu kind Q fuel (listed.setIfInBounds i true)) a E → wpAnyG P md ops C b0 fu kind Q (fuel + 1) listed a E := by
 intro fuel
 induction fuel with
 | zero =>
  intro listed a E hcl hs hl hf hfree hr H
  refine ⟨fun h => (by rw [h] at hr; cases hr), fun j hj => ?_⟩
  by_cases hji : j = i
  ·subst hji; exact H
  ·obtain ⟨a', E', h0, _⟩ := opG_ex hb hs hl (fresh_of hf (mem_ready.1 hr).1) H
   have := ready_mono hj hji
   rw [h0] at this
   cases this
 | succ fuel ih =>
  intro listed a E hcl hs hl hf hfree hr H
  refine ⟨fun h => (by rw [h] at hr; cases hr), fun j hj => ?_⟩
  by_cases hji : j = i
  ·subst hji; exact H
  ·obtain ⟨hjun, oj, hoj, hall⟩ := mem_ready.1 hj
   have hiun := (mem_ready.1 hr).1
   have nij : i ∉ gDeps md ops fu j := fun hd => not_both hiun (deps_listed hcl fu j (ready_waits hj) i hd)
   have nji : j ∉ gDeps md ops fu i := fun hd => not_both hjun (deps_listed hcl fu i (ready_waits hr) j hd)
   obtain ⟨hap, hcm⟩ := (hfree j oj hoj hji hjun).resolve_left nij
   have H1 : opG P md ops C b0 fu kind i (fun a' E' => opG P md ops C b0 fu kind j (wpAnyG P md ops C b0 fu kind Q fuel ((listed.setIfInBounds i true).setIfInBounds j true)) a' E') a E :=
    opG_mono hb hs hl (fun a' E' _ _ _ hK => hK.2 j (ready_mono hj hji)) H
   have H2 := opG_swap hb hi hoj (fun h => hji h.symm) hap (fun cs b => hsel i oi cs b hi) (fun cs b => hsel j oj cs b hoj) nij nji hcm hs hl (fresh_of hf hiun) (fresh_of hf hjun) H1
   refine opG_mono hb hs hl (fun a' E' hs' hl' hE' h3 => ih (listed.setIfInBounds j true) a' E' (closed_set hcl hj) hs' hl' (fun k hk => ?_) (fun k ok hok hki hun => hfree k ok hok hki ?_) (ready_mono hr (Ne.symm hji)) ?_) H2
   ·have hjk : j ≠ k := fun e => by
     subst e
     have hlt : j < listed.size := by
      rcases Nat.lt_or_ge j listed.size with h' | h'
      ·exact h'
      ·simp [Array.getElem?_eq_none h'] at hjun
     simp [hlt] at hk
    rw [hE' k (fun e => hjk e.symm)]
    rw [getD_set_ne false hjk] at hk
    exact hf k hk
   ·by_cases hjk : j = k
    ·subst hjk; exact hjun
    ·rw [getD_set_ne true hjk] at hun; exact hun
   ·rw [Array.setIfInBounds_comm _ _ hji]
    exact h3

/-- The walk in the order of the text. -/
def wpG (P : Program) (md : Region.Mode) (ops : Array Oper) (C : World → Prop) (b0 fu : Nat) (kind : Nat → GKind) (Q : Act → GEnv → Prop) : List Oper → Nat → Act → GEnv → Prop
 | [], _, a, E => Q a E
 | _ :: rest, k, a, E => opG P md ops C b0 fu kind k (wpG P md ops C b0 fu kind Q rest (k + 1)) a E

def gFree (md : Region.Mode) (ops : Array Oper) (fu : Nat) (cs : List Nat) (listed : Array Bool) (i : Nat) : Bool :=
 (List.range ops.size).all fun j => j == i || listed.getD j true || (gDeps md ops fu j).contains i ||
  (match ops[i]?, ops[j]? with
   | some oi, some oj => oi.apart ops oj
   | _, _ => false) && gCompat (cs.getD i 0) (cs.getD j 0)
theorem gFree_spec {cs : List Nat} {listed : Array Bool} {i : Nat} {oi : Oper} (hoi : ops[i]? = some oi) (hcs : ∀ k, (kind k).code = cs.getD k 0) (h : gFree md ops fu cs listed i = true) :
  ∀ j oj, ops[j]? = some oj → j ≠ i → listed.getD j true = false → i ∈ gDeps md ops fu j ∨ (oi.apart ops oj = true ∧ gCompat (kind i).code (kind j).code = true) := by
 intro j oj hoj hji hun
 unfold gFree at h
 have hlt : j < ops.size := (Array.getElem?_eq_some_iff.1 hoj).1
 have := List.all_eq_true.1 h j (List.mem_range.2 hlt)
 rw [hoi, hoj] at this
 simp only [Bool.or_eq_true, Bool.and_eq_true, beq_iff_eq] at this
 rcases this with ((h0 | h0) | h0) | ⟨h0, h1⟩
 ·exact absurd h0 hji
 ·rw [h0] at hun; cases hun
 ·exact .inl (by simpa using h0)
 ·exact .inr ⟨h0, by rw [hcs, hcs]; exact h1⟩
def gLexFrom (md : Region.Mode) (ops : Array Oper) (fu : Nat) (cs : List Nat) : Nat → Nat → Array Bool → Bool
 | 0, _, listed => (Region.ready md ops listed).isEmpty
 | fuel + 1, k, listed => (Region.ready md ops listed).contains k && gFree md ops fu cs listed k && gLexFrom md ops fu cs fuel (k + 1) (listed.setIfInBounds k true)
def gLexB (md : Region.Mode) (ops : Array Oper) (fu : Nat) (cs : List Nat) : Bool := Region.noSelect ops && gLexFrom md ops fu cs ops.size 0 (Array.replicate ops.size false)

theorem wpAnyG_lex (hb : ∀ w, C w → b0 ≤ w.heap.size) {Q : Act → GEnv → Prop} {cs : List Nat} (hcs : ∀ k, (kind k).code = cs.getD k 0) (hs : Region.noSelect ops = true) : ∀ (l : List Oper) (k : Nat) (listed : Array Bool) (a : Act) (E : GEnv), (∀ j, l[j]? = ops[k + j]?) →
  gClosed md ops listed → GSat C b0 E → GLocs E → GFresh E listed → gLexFrom md ops fu cs l.length k listed = true → wpG P md ops C b0 fu kind Q l k a E → wpAnyG P md ops C b0 fu kind Q l.length listed a E
 | [], _, _, _, _, _, _, _, _, _, hB, h => ⟨by simpa [gLexFrom] using hB, h⟩
 | o :: l, k, listed, a, E, hl, hcl, hst, hlc, hf, hB, h => by
  have h0 : ops[k]? = some o := by simpa using (hl 0).symm
  simp only [List.length_cons, gLexFrom, Bool.and_eq_true] at hB
  obtain ⟨⟨hr, hfr⟩, hB'⟩ := hB
  have hr' : k ∈ Region.ready md ops listed := by simpa using hr
  refine wpAnyG_first hb h0 (Region.noSelect_spec hs) l.length listed a E hcl hst hlc hf (gFree_spec h0 hcs hfr) hr' ?_
  refine opG_mono hb hst hlc (fun a' E' hs' hl' hE' h3 => wpAnyG_lex hb hcs hs l (k + 1) _ a' E' (fun j => by have := hl (j + 1); simpa [Nat.add_assoc, Nat.add_comm 1 j] using this) (closed_set hcl hr') hs' hl' (fun m hm => ?_) hB' h3) h
  have hkm : k ≠ m := fun e => by
   subst e
   have hun := (mem_ready.1 hr').1
   have hlt : k < listed.size := by
    rcases Nat.lt_or_ge k listed.size with h' | h'
    ·exact h'
    ·simp [Array.getElem?_eq_none h'] at hun
   simp [hlt] at hm
  rw [hE' m (fun e => hkm e.symm)]
  rw [getD_set_ne false hkm] at hm
  exact hf m hm

theorem wpOp_of_opG (hb : ∀ w, C w → b0 ≤ w.heap.size) {i : Nat} {a : Act} {E : GEnv} {K : Act → GEnv → Prop} {K' : Act → World → Prop} {Q' : Exit → Act → World → Prop} {w : World} (hw : GHolds C b0 E w) (hloc : GLocs E) (hz : E.at_ i = GRec.zero)
  (h : ∀ a' E' w', GHolds C b0 E' w' → GLocs E' → (∀ k, k ≠ i → E'.at_ k = E.at_ k) → K a' E' → K' a' w') (hh : opG P md ops C b0 fu kind i K a E) : wpOp P ops Q' i K' a w := by
 obtain ⟨o, ho, hh⟩ := hh
 unfold wpOp
 rw [ho]
 dsimp only
 cases hk : kind i with
 | q =>
  rw [hk] at hh
  obtain ⟨hc, v, hq, hy, hK⟩ := hh
  rcases hy with ⟨h1, h2⟩ | ⟨h1, rfl⟩
  ·rw [if_pos h1]
   refine .inl ?_
   have h3 := h2 w (hc w hw)
   unfold Oper.quietAt at h3
   unfold Oper.wp
   cases hr : (execOp a.eval o).run P w with
   | ok n w' =>
    rw [hr] at h3
    cases n <;> simp only [Oper.quietUpon] at h3 <;> simp only [Oper.upon]
    case value u => obtain ⟨e1, e2⟩ := h3; rw [e1, e2]; exact h _ _ _ hw hloc (fun _ _ => rfl) hK
    case skip => obtain ⟨e1, e2⟩ := h3; rw [e1, ← e2]; exact h _ _ _ hw hloc (fun _ _ => rfl) hK
    case enter f args =>
     rcases hq with hq | ⟨_, f', vals', hrun, hcl⟩ | hq
     ·exact absurd hr (stay_not hq (hc w hw))
     ·rw [hrun w] at hr
      injection hr with hr hrw
      injection hr with hf hv
      subst hf hv hrw
      exact (hcl w (hc w hw)).mono fun e w'' ⟨e1, e2⟩ => by subst e1 e2; exact h _ _ _ hw hloc (fun _ _ => rfl) hK
     ·rw [h1] at hq; cases hq
   | halt x w' => rw [hr] at h3; simp only [Oper.quietUpon] at h3
  ·rw [if_neg (by rw [h1]; exact Bool.false_ne_true)]
   exact h _ _ _ hw hloc (fun _ _ => rfl) hK
 | s Ψ =>
  rw [hk] at hh
  obtain ⟨g1, g2, g3, g4, hK⟩ := hh
  rw [if_pos (wanted_none g1 _)]
  refine .inl ?_
  have hr := holds_recs hw g2
  have h3 := g4 w (hw.cls g2) (fun d _ => ⟨(hr.1 d).1, (hr.1 d).2.2⟩)
  have fin : ∀ u w', (C w' ∧ GEff b0 w w' ∧ Ψ (gArgs o a) u w.heap.size w'.heap.size w') → K' (a.put o.dst u) w' := fun u w' ⟨c1, c2, c3⟩ => by
   have hh := holds_upd hb hw g2 hloc hz c1 c2 c3
   exact h _ _ _ hh (hloc.upd (g3 _ _ _)) (fun k hk => GEnv.upd_other _ _ hk) (hK u _ _ ⟨w', hh⟩)
  unfold Oper.wp
  cases hrr : (execOp a.eval o).run P w with
  | ok n w' =>
   rw [hrr] at h3
   cases n <;> simp only [gRun] at h3 <;> simp only [Oper.upon]
   case value u => exact fin u w' h3
   case enter f args => exact h3.mono fun e w'' ⟨u, he, hu⟩ => by subst he; exact fin u w'' hu
  | halt x w' => rw [hrr] at h3; simp only [gRun] at h3
 | t =>
  rw [hk] at hh
  obtain ⟨g1, g2, g3, hK⟩ := hh
  rw [if_pos (wanted_none g1 _)]
  refine .inl ?_
  obtain ⟨w', hr, hC⟩ := g3 w hw
  unfold Oper.wp
  rw [hr]
  simp only [Oper.upon]
  exact h _ { E with top := some (fun w' => C w' ∧ gTop P C b0 o a E w') } w' (show GHolds C b0 { E with top := some (fun w' => C w' ∧ gTop P C b0 o a E w') } w' from ⟨hC, w, hw, hr⟩) hloc (fun _ _ => rfl) hK
 | u =>
  rw [hk] at hh
  obtain ⟨g1, g2, g3, hK⟩ := hh
  rw [if_pos (wanted_none g1 _)]
  refine .inl ?_
  obtain ⟨w', hr⟩ := g3 w hw
  unfold Oper.wp
  rw [hr]
  simp only [Oper.upon]
  exact h _ { E with top := some (gTop P C b0 o a E) } w' (show GHolds C b0 { E with top := some (gTop P C b0 o a E) } w' from ⟨w, hw, hr⟩) hloc (fun _ _ => rfl) hK

theorem wpAny_of_G (hb : ∀ w, C w → b0 ≤ w.heap.size) {Q : Act → GEnv → Prop} {Q' : Exit → Act → World → Prop} (hQ : ∀ a E w, GHolds C b0 E w → Q a E → Q' .normal a w) : ∀ (fuel : Nat) (listed : Array Bool) (a : Act) (E : GEnv) (w : World), GHolds C b0 E w → GLocs E → GFresh E listed →
  wpAnyG P md ops C b0 fu kind Q fuel listed a E → wpAny P md ops Q' fuel listed a w
 | 0, _, _, _, _, hw, _, _, h => ⟨h.1, hQ _ _ _ hw h.2⟩
 | fuel + 1, listed, a, E, w, hw, hl, hf, h => ⟨fun h0 => hQ _ _ _ hw (h.1 h0), fun i hi => wpOp_of_opG hb hw hl (fresh_of hf (mem_ready.1 hi).1) (fun a' E' w' hw' hl' hE' hK => wpAny_of_G hb hQ fuel _ a' E' w' hw' hl' (fun m hm => by
   have hun := (mem_ready.1 hi).1
   have hkm : i ≠ m := fun e => by
    subst e
    have hlt : i < listed.size := by
     rcases Nat.lt_or_ge i listed.size with h' | h'
     ·exact h'
     ·simp [Array.getElem?_eq_none h'] at hun
    simp [hlt] at hm
   rw [hE' m (fun e => hkm e.symm)]
   rw [getD_set_ne false hkm] at hm
   exact hf m hm) hK) (h.2 i hi)⟩

/-- **One walk in the order of the text.** -/
theorem wp_region_G {id : Nat} {Q : Exit → Act → World → Prop} {a : Act} {w : World} {l : List Oper} (hm : P.follows .mixedOrders = true) (ks : List GKind) (cs : List Nat) (hcs : ks.map GKind.code = cs) (fu : Nat)
  (hB : gLexB .any l.toArray fu cs = true) (C : World → Prop) (b0 : Nat) (hb : ∀ w, C w → b0 ≤ w.heap.size) (hC : C w.drew)
  (h : wpG P .any l.toArray C b0 fu (fun i => ks.getD i .q) (fun a' E => ∀ w', GHolds C b0 E w' → Q .normal a' w') l 0 a GEnv.zero) : (Code.region id l.toArray true).wp P Q a w := by
 simp only [gLexB, Bool.and_eq_true] at hB
 have hcs' : ∀ k, ((fun i => ks.getD i GKind.q) k).code = cs.getD k 0 := fun k => by
  subst hcs
  show (ks.getD k .q).code = _
  rw [List.getD_eq_getElem?_getD, List.getD_eq_getElem?_getD, List.getElem?_map]
  cases ks[k]? <;> rfl
 have hz : GHolds C b0 GEnv.zero w.drew := ⟨hC, fun i => ⟨Nat.zero_le _, .inr ⟨rfl, rfl⟩, trivial⟩, fun i j _ => .inl (Nat.zero_le _)⟩
 have hnone : ∀ k, (Array.replicate l.toArray.size false).getD k false = false := fun k => by
  simp only [Array.getD_eq_getD_getElem?, Array.getElem?_replicate]
  split <;> rfl
 have hf : GFresh GEnv.zero (Array.replicate l.toArray.size false) := fun k _ => rfl
 have hcl : gClosed .any l.toArray (Array.replicate l.toArray.size false) := fun k hk => by rw [hnone k] at hk; cases hk
 refine wp_region_any hm (wpAny_of_G (kind := fun i => ks.getD i GKind.q) (fu := fu) hb (Q := fun a' E => ∀ w', GHolds C b0 E w' → Q .normal a' w') (fun _ _ w' hw' h => h w' hw') _ _ _ _ _ hz GLocs.zero hf ?_)
 have := wpAnyG_lex (P := P) (C := C) (md := .any) (kind := fun i => ks.getD i GKind.q) (ops := l.toArray) (fu := fu) hb hcs' hB.1 l 0 (Array.replicate l.toArray.size false) a GEnv.zero (by simp) hcl ⟨_, hz⟩ GLocs.zero hf (by simpa using hB.2) h
 simpa using this
end
end Go.Proofs.YtkegbbndmfnolaaGreatDoor
