import Derived.Test.YtglnehinmdmgmaaGreatMErrorsL01
import Derived.Test.YtglnehinmdmgmaaGreatMErrorsL03
import Derived.Deep.Quiet
import Derived.Test.YtglnehinmdmgmaaGreatMErrorsL05
import Derived.ArgAppend
import Derived.Test.YtglnehinmdmgmaaGreatMErrorsL04
/-
  A region that draws its order and holds calls that make memory: one walk in the order of the text, the results known by what is said of them. Words of our own that know no program.
-/
namespace Go.Proofs.YtglnehinmdmgmaaGreat
open Go.RowKit
set_option linter.unusedVariables false
set_option linter.unusedSimpArgs false

section
variable {P : Program} {ops : Array Oper} {md : Region.Mode}
/-- What an operation waits for. -/
def gWaits (md : Region.Mode) (ops : Array Oper) (j : Nat) : List Nat :=
  match ops[j]? with
  | none => []
  | some o => (o.after.toList.filter (Region.binds md)).map (fun e => e.on)
/-- What an operation waits for, and what that waits for, and so on. -/
def gDeps (md : Region.Mode) (ops : Array Oper) : Nat → Nat → List Nat
  | 0, j => gWaits md ops j
  | f + 1, j => gWaits md ops j ++ (gWaits md ops j).flatMap (gDeps md ops f)
def gClosed (md : Region.Mode) (ops : Array Oper) (listed : Array Bool) : Prop := ∀ k, listed.getD k false = true → ∀ e ∈ gWaits md ops k, listed.getD e false = true
end

/-- What is known of one result: the blocks that it has made, and a statement on them. -/
structure GRec where
  lo : Nat
  hi : Nat
  φ : World → Prop
  on : Bool
def GRec.zero : GRec := ⟨0, 0, fun _ => True, false⟩
/-- The statement hangs on those blocks alone. -/
def GLoc (r : GRec) : Prop := ∀ w w' : World, w.heap.size ≤ w'.heap.size → (∀ k, r.lo ≤ k → k < r.hi → w'.heap[k]? = w.heap[k]?) → r.hi ≤ w.heap.size → r.φ w → r.φ w'
structure GEnv where
  at_ : Nat → GRec
  top : Option (World → Prop)
def GEnv.upd (E : GEnv) (i : Nat) (r : GRec) : GEnv := { E with at_ := fun k => if k = i then r else E.at_ k }
def GEnv.zero : GEnv := ⟨fun _ => GRec.zero, none⟩
theorem GEnv.upd_same (E : GEnv) (i : Nat) (r : GRec) : (E.upd i r).at_ i = r := if_pos rfl
theorem GEnv.upd_other (E : GEnv) {i k : Nat} (r : GRec) (h : k ≠ i) : (E.upd i r).at_ k = E.at_ k := if_neg h
/-- What may happen to memory at a step: blocks from b0 on stay. -/
def GEff (b0 : Nat) (w w' : World) : Prop := w.heap.size ≤ w'.heap.size ∧ ∀ k, b0 ≤ k → k < w.heap.size → w'.heap[k]? = w.heap[k]?
def GRecs (b0 : Nat) (E : GEnv) (w : World) : Prop :=
  (∀ i, (E.at_ i).hi ≤ w.heap.size ∧ (((E.at_ i).on = true ∧ b0 ≤ (E.at_ i).lo ∧ (E.at_ i).lo ≤ (E.at_ i).hi) ∨ ((E.at_ i).hi = 0 ∧ (E.at_ i).on = false)) ∧ (E.at_ i).φ w) ∧ ∀ i j, i ≠ j → (E.at_ i).hi ≤ (E.at_ j).lo ∨ (E.at_ j).hi ≤ (E.at_ i).lo
def GHolds (C : World → Prop) (b0 : Nat) (E : GEnv) (w : World) : Prop := match E.top with
  | none => C w ∧ GRecs b0 E w
  | some F => F w
def GSat (C : World → Prop) (b0 : Nat) (E : GEnv) : Prop := ∃ w, GHolds C b0 E w

inductive GKind where
  | q
  | s (Ψ : List Value → Value → Nat → Nat → World → Prop)
  | t
  | u
def GKind.code : GKind → Nat
  | .q => 0
  | .s _ => 1
  | .t => 2
  | .u => 3
/-- Operations that hand a value on and enter no function. -/
def qOpB : Op → Bool
  | .move _ => true
  | .assign _ => true
  | .build _ _ => true
  | .load _ _ => true
  | .binOp _ _ _ _ _ => true
  | .unOp _ _ _ => true
  | .fieldAddr _ _ _ => true
  | .field _ _ _ => true
  | .indexAddr _ _ _ => true
  | .index _ _ _ => true
  | .extract _ _ => true
  | .convert _ _ _ => true
  | .slice _ _ _ _ _ => true
  | .pick _ _ _ => true
  | _ => false

def gRun (P : Program) (R : Value → World → Prop) : Result Next → Prop
  | .ok (.value u) w' => R u w'
  | .ok (.enter f args) w' => Calls P f args w' fun e w'' => ∃ u, e = .returned u ∧ R u w''
  | _ => False
section
variable {P : Program} {ops : Array Oper} {md : Region.Mode} {C : World → Prop} {b0 fu : Nat} {kind : Nat → GKind}

/-- The step of a call, of an allocation. -/
def gGives (P : Program) (md : Region.Mode) (ops : Array Oper) (C : World → Prop) (b0 fu : Nat) (i : Nat) (o : Oper) (Ψ : Value → Nat → Nat → World → Prop) (a : Act) (E : GEnv) : Prop :=
  ∀ w, C w → (∀ d ∈ gDeps md ops fu i, (E.at_ d).hi ≤ w.heap.size ∧ (E.at_ d).φ w) →
    gRun P (fun u w' => C w' ∧ GEff b0 w w' ∧ Ψ u w.heap.size w'.heap.size w') ((execOp a.eval o).run P w)
def gTop (P : Program) (C : World → Prop) (b0 : Nat) (o : Oper) (a : Act) (E : GEnv) : World → Prop := fun w' => ∃ w, GHolds C b0 E w ∧ (execOp a.eval o).run P w = .ok .skip w'

/-- The values that an operation is handed. -/
def gArgs (o : Oper) (a : Act) : List Value :=
  match o.op with
  | .call c => c.args.toList.map a.eval
  | .load _ x => [a.eval x]
  | _ => []
/-- A call that answers one value and leaves the world as it is; there is no call in the region that makes memory. -/
def gPure (P : Program) (C : World → Prop) (kind : Nat → GKind) (o : Oper) (a : Act) (v : Value) : Prop :=
  (∀ k, (kind k).code ≠ 1) ∧ ∃ f vals, (∀ w, (execOp a.eval o).run P w = .ok (.enter f vals) w) ∧ ∀ w, C w → Calls P f vals w fun e w' => e = .returned v ∧ w' = w
/-- .. or it hands a value on in every world of the class. -/
def gStay (P : Program) (C : World → Prop) (o : Oper) (a : Act) : Prop := qOpB o.op = true ∨ ∀ w, C w → ∃ v, (execOp a.eval o).run P w = .ok (.value v) w
def gQuiet (P : Program) (C : World → Prop) (ops : Array Oper) (kind : Nat → GKind) (o : Oper) (a : Act) (v : Value) : Prop := gStay P C o a ∨ gPure P C kind o a v ∨ Region.wanted o (yielded ops a.tmps) = false
def opG (P : Program) (md : Region.Mode) (ops : Array Oper) (C : World → Prop) (b0 fu : Nat) (kind : Nat → GKind) (i : Nat) (K : Act → GEnv → Prop) (a : Act) (E : GEnv) : Prop :=
  ∃ o, ops[i]? = some o ∧ match kind i with
  | .q => (∀ w, GHolds C b0 E w → C w) ∧ ∃ v, gQuiet P C ops kind o a v ∧ YieldsIn P ops C o v a ∧ K (a.put o.dst v) E
  | .s Ψ => o.guard = none ∧ E.top = none ∧ (∀ u lo hi, GLoc ⟨lo, hi, Ψ (gArgs o a) u lo hi, true⟩) ∧ gGives P md ops C b0 fu i o (Ψ (gArgs o a)) a E ∧ ∀ u lo hi, GSat C b0 (E.upd i ⟨lo, hi, Ψ (gArgs o a) u lo hi, true⟩) → K (a.put o.dst u) (E.upd i ⟨lo, hi, Ψ (gArgs o a) u lo hi, true⟩)
  | .t => o.guard = none ∧ E.top = none ∧ (∀ w, GHolds C b0 E w → ∃ w', (execOp a.eval o).run P w = .ok .skip w' ∧ C w') ∧ K (a.put o.dst undef) { E with top := some (fun w' => C w' ∧ gTop P C b0 o a E w') }
  | .u => o.guard = none ∧ E.top = none ∧ (∀ w, GHolds C b0 E w → ∃ w', (execOp a.eval o).run P w = .ok .skip w') ∧ K (a.put o.dst undef) { E with top := some (gTop P C b0 o a E) }

theorem holds_recs {E : GEnv} {w : World} (h : GHolds C b0 E w) (ht : E.top = none) : GRecs b0 E w := by
  unfold GHolds at h; rw [ht] at h; exact h.2
/-- The records of an environment are each on their own blocks. -/
def GLocs (E : GEnv) : Prop := ∀ k, GLoc (E.at_ k)
theorem GLocs.upd {E : GEnv} (h : GLocs E) {i : Nat} {r : GRec} (hr : GLoc r) : GLocs (E.upd i r) := fun k => by
  by_cases e : k = i
  · subst e; rw [GEnv.upd_same]; exact hr
  · rw [GEnv.upd_other _ _ e]; exact h k
theorem GLocs.zero : GLocs GEnv.zero := fun k w w' _ _ _ _ => trivial

def gCompat : Nat → Nat → Bool
  | 0, 0 => true
  | 0, 1 => true
  | 0, 2 => true
  | 1, 0 => true
  | 2, 0 => true
  | 1, 1 => true
  | _, _ => false

/-- Whatever order is picked from here on. -/
def wpAnyG (P : Program) (md : Region.Mode) (ops : Array Oper) (C : World → Prop) (b0 fu : Nat) (kind : Nat → GKind) (Q : Act → GEnv → Prop) : Nat → Array Bool → Act → GEnv → Prop
  | 0, listed, a, E => Region.ready md ops listed = [] ∧ Q a E
  | fuel + 1, listed, a, E =>
    (Region.ready md ops listed = [] → Q a E) ∧
    ∀ i ∈ Region.ready md ops listed, opG P md ops C b0 fu kind i (wpAnyG P md ops C b0 fu kind Q fuel (listed.setIfInBounds i true)) a E

def GFresh (E : GEnv) (listed : Array Bool) : Prop := ∀ k, listed.getD k false = false → E.at_ k = GRec.zero
/-- The walk in the order of the text. -/
def wpG (P : Program) (md : Region.Mode) (ops : Array Oper) (C : World → Prop) (b0 fu : Nat) (kind : Nat → GKind) (Q : Act → GEnv → Prop) : List Oper → Nat → Act → GEnv → Prop
  | [], _, a, E => Q a E
  | _ :: rest, k, a, E => opG P md ops C b0 fu kind k (wpG P md ops C b0 fu kind Q rest (k + 1)) a E

def gFree (md : Region.Mode) (ops : Array Oper) (fu : Nat) (cs : List Nat) (listed : Array Bool) (i : Nat) : Bool :=
  (List.range ops.size).all fun j => j == i || listed.getD j true || (gDeps md ops fu j).contains i ||
    (match ops[i]?, ops[j]? with
      | some oi, some oj => oi.apart ops oj
      | _, _ => false) && gCompat (cs.getD i 0) (cs.getD j 0)
def gLexFrom (md : Region.Mode) (ops : Array Oper) (fu : Nat) (cs : List Nat) : Nat → Nat → Array Bool → Bool
  | 0, _, listed => (Region.ready md ops listed).isEmpty
  | fuel + 1, k, listed => (Region.ready md ops listed).contains k && gFree md ops fu cs listed k && gLexFrom md ops fu cs fuel (k + 1) (listed.setIfInBounds k true)
def gLexB (md : Region.Mode) (ops : Array Oper) (fu : Nat) (cs : List Nat) : Bool := Region.noSelect ops && gLexFrom md ops fu cs ops.size 0 (Array.replicate ops.size false)

end
end Go.Proofs.YtglnehinmdmgmaaGreat

/-
  Steps of the one walk through a region that draws its order and makes memory. Words of our own that know no program.
-/
namespace Go.Proofs.YtglnehinmdmgmaaGreat
open Go.RowKit
set_option linter.unusedVariables false
set_option linter.unusedSimpArgs false

section
variable {lo hi : Nat}
end
/-- A box of n cells that the region itself makes. -/
def gBox (n : Nat) : Value → Nat → Nat → World → Prop := fun u lo hi w => u = .pointer (some ⟨lo, 0, none⟩) ∧ hi = lo + 1 ∧ ∃ f, Cells w lo n f
theorem Later.cell {w : World} {p : Addr} {v : Value} (h : w.cell? p = some v) (hp : p.block < w.heap.size) (x : Later w) : x.W.cell? p = some v := (x.hb.cell hp).trans h
theorem Later.frozen {w : World} {p : Addr} {b : Bool} (h : w.frozen? p = b) (hp : p.block < w.heap.size) (x : Later w) : x.W.frozen? p = b := (x.hb.frozen hp).trans h
def inC (w : World) : World → Prop := fun w' => ∃ x : Later w, w' = x.W
theorem inC.below {w w' : World} (h : inC w w') : Below w.heap.size w w' := by obtain ⟨x, rfl⟩ := h; exact x.hb
theorem inC.of {w w' : World} (h : Below w.heap.size w w') : inC w w' := ⟨⟨w', h⟩, rfl⟩
theorem inC.size (w : World) : ∀ w', inC w w' → w.heap.size ≤ w'.heap.size := fun w' h => h.below.size
theorem inC.step {w w' w'' : World} (h : inC w w') (hb : Below w'.heap.size w' w'') : inC w w'' := inC.of (h.below.trans (hb.mono h.below.size))
section
variable {P : Program} {ops : Array Oper} {md : Region.Mode} {C : World → Prop} {b0 fu : Nat} {kind : Nat → GKind} {Q : Act → GEnv → Prop}
variable {o : Oper} {rest : List Oper} {k : Nat} {a : Act} {E : GEnv}
/-- An empty slice is made. -/
def gNil : Value → Nat → Nat → World → Prop := fun u lo hi w => u = .slice (some ⟨lo, 0, none⟩) 0 0
end
theorem Cells.newD (w : World) (c : Array Value) (t : TypeId) : Cells (w.alloc (.cells c t)) w.heap.size c.size (fun i => c.getD i undef) := Cells.new w c t _ _ fun i hi => by simp [Array.getD, hi]
theorem GHolds.apart {C : World → Prop} {b0 : Nat} {E : GEnv} {w : World} (h : GHolds C b0 E w) (ht : E.top = none) (i j : Nat) (hij : i ≠ j) : (E.at_ i).hi ≤ (E.at_ j).lo ∨ (E.at_ j).hi ≤ (E.at_ i).lo := (holds_recs h ht).2 i j hij
theorem Chg.setN {b c g : Nat} {a : World} (h1 : b ≤ g) (h2 : g < c) : ∀ (vs : List Value) {w : World} {p : Nat}, Chg b c a w → Chg b c a (setN w g p vs)
  | [], w, p, h => h
  | v :: vs, w, p, h => Chg.setN h1 h2 vs (h.setCell (p := ⟨g, p, none⟩) h1 h2 v)
theorem setN_size (g : Nat) : ∀ (vs : List Value) (w : World) (p : Nat), (setN w g p vs).heap.size = w.heap.size
  | [], w, p => rfl
  | v :: vs, w, p => by rw [setN, setN_size g vs]; simp
theorem updN_zero (f : Nat → Value) (vs : List Value) (i : Nat) (hi : i < vs.length) : updN f 0 vs i = vs.getD i undef := by
  unfold updN; rw [if_pos ⟨Nat.zero_le _, by omega⟩, Nat.sub_zero]
theorem Cells.boxed {w : World} {g n : Nat} {f : Nat → Value} (h : Cells w g n f) (vs : List Value) (hn : vs.length = n) : Cells (Go.Proofs.YtglnehinmdmgmaaGreat.setN w g 0 vs) g n (fun i => vs.getD i undef) :=
  (h.setN vs (b := 0) (by omega)).congr fun i hi => updN_zero f vs i (by omega)
/-- A world that is w but for one block of n cells, and but for draws. -/
structure LaterX (w : World) (r n : Nat) where
  W : World
  ho : W.os = w.os
  hp : W.output = w.output
  ht : W.tape = w.tape
  hs : W.heap.size = w.heap.size
  hb : ∀ k, k ≠ r → W.heap[k]? = w.heap[k]?
  hc : ∃ f, Cells W r n f
def inX (w : World) (r n : Nat) : World → Prop := fun w' => ∃ x : LaterX w r n, w' = x.W
theorem LaterX.cell {w : World} {r n : Nat} {p : Addr} {v : Value} (h : w.cell? p = some v) (hp : p.block ≠ r) (x : LaterX w r n) : x.W.cell? p = some v := (World.cell?_of_block (a := p) (x.hb p.block hp)).trans h
theorem inX.size (w : World) (r n : Nat) : ∀ w', inX w r n w' → w.heap.size ≤ w'.heap.size := fun w' h => by obtain ⟨x, rfl⟩ := h; exact Nat.le_of_eq x.hs.symm
theorem inX.drew {w : World} {r n : Nat} {f : Nat → Value} (h : Cells w r n f) : inX w r n w.drew := ⟨⟨w.drew, rfl, rfl, rfl, rfl, fun _ _ => rfl, f, h⟩, rfl⟩
theorem inX.set {w w' : World} {r n : Nat} (h : inX w r n w') (vs : List Value) (hn : vs.length = n) : inX w r n (setN w' r 0 vs) := by
  obtain ⟨x, rfl⟩ := h
  obtain ⟨f, hf⟩ := x.hc
  have kk : Chg r (r + 1) x.W (setN x.W r 0 vs) := Chg.setN (Nat.le_refl _) (Nat.lt_succ_self _) vs (Chg.refl _ _ x.W)
  refine ⟨⟨_, kk.os.trans x.ho, kk.output.trans x.hp, kk.tape.trans x.ht, (setN_size _ _ _ _).trans x.hs, fun k hk => ?_, _, hf.boxed vs hn⟩, rfl⟩
  rcases Nat.lt_or_ge k x.W.heap.size with h | h
  · exact (kk.block k h (by omega)).trans (x.hb k hk)
  · rw [Array.getElem?_eq_none (by rw [setN_size]; exact h), Array.getElem?_eq_none (by rw [← x.hs]; exact h)]
theorem inX.chg {w w' : World} {r n : Nat} (h : inX w r n w') : Chg r (r + 1) w w' := by
  obtain ⟨x, rfl⟩ := h
  exact ⟨x.ho, x.ht, x.hp, Nat.le_of_eq x.hs.symm, fun k hk hr => x.hb k (by omega)⟩
theorem inX.cells {w w' : World} {r n : Nat} (h : inX w r n w') : ∃ f, Cells w' r n f := by obtain ⟨x, rfl⟩ := h; exact x.hc
end Go.Proofs.YtglnehinmdmgmaaGreat

/-
  New bands: contracts of both sides.
-/
namespace Go.Proofs.YtglnehinmdmgmaaGreat
open Go.RowKit
set_option linter.unusedVariables false
set_option linter.unusedSimpArgs false
set_option maxRecDepth 100000

/-- The ringers of a new band. -/
def newRs (n : Nat) : List Rgr := (List.range n).map fun i : Nat => ⟨(i : Int) + 1, false⟩
def pS : ByteArray := ⟨#[112]⟩
/-- A band's cells. -/
def bdV (nm : ByteArray) (st : Int) (A1 : Option Addr) (n1 c1 : Nat) (b s : ByteArray) (stp : Int) (cal tru : ByteArray) (A3 : Option Addr) (n3 c3 : Nat) : Array Value :=
  #[.string nm, .int .i64 st, .slice A1 n1 c1, .string b, .string s, .int .i64 stp, .string cal, .string tru, .slice A3 n3 c3]
/-- A new band is handed back; its two slices' blocks lie apart. -/
def BdOut (nm : ByteArray) (st : Int) (x : List ByteArray) (b s : ByteArray) (stp : Int) (cal tru : ByteArray) (rx : List Rgr) (w : World) (e : Ending) (w' : World) : Prop :=
  ∃ A1 c1 A3 c3 gs, e = .returned (.agg #[.string nm, .int .i64 st, .slice A1 x.length c1, .string b, .string s, .int .i64 stp, .string cal, .string tru, .slice A3 rx.length c3]) ∧ w.heap.size ≤ gs ∧ gs ≤ w'.heap.size ∧ OwnL w' w.heap.size gs A1 1 encString x ∧ OwnL w' gs w'.heap.size A3 2 Rgr.enc rx ∧ Below w.heap.size w w'













end Go.Proofs.YtglnehinmdmgmaaGreat

/-
  A band as a result: what it holds, where its slices lie; marks on it; NewBand of both sides.
-/
namespace Go.Proofs.YtglnehinmdmgmaaGreat
open Go.RowKit
set_option linter.unusedVariables false
set_option linter.unusedSimpArgs false
set_option maxRecDepth 100000

/-- What a band holds. -/
structure Bd where
  name : ByteArray
  stage : Int
  x : List ByteArray
  bob : ByteArray
  sing : ByteArray
  step : Int
  call : ByteArray
  tru : ByteArray
  rx : List Rgr
def Bd.zero : Bd := ⟨⟨#[]⟩, 0, [], ⟨#[]⟩, ⟨#[]⟩, 0, ⟨#[]⟩, ⟨#[]⟩, []⟩
/-- The value is that band; its slices lie in two ranges of blocks. -/
def BdAt (d : Bd) (v : Value) (lo hi : Nat) (w : World) : Prop :=
  ∃ A1 c1 A3 c3 gs, v = .agg #[.string d.name, .int .i64 d.stage, .slice A1 d.x.length c1, .string d.bob, .string d.sing, .int .i64 d.step, .string d.call, .string d.tru, .slice A3 d.rx.length c3] ∧ lo ≤ gs ∧ gs ≤ hi ∧ OwnL w lo gs A1 1 encString d.x ∧ OwnL w gs hi A3 2 Rgr.enc d.rx
theorem BdAt.later {d : Bd} {v : Value} {lo hi : Nat} {w w' : World} (h : BdAt d v lo hi w) (hb : Below w.heap.size w w') : BdAt d v lo hi w' := by
  obtain ⟨A1, c1, A3, c3, gs, hv, h1, h2, o1, o3⟩ := h
  exact ⟨A1, c1, A3, c3, gs, hv, h1, h2, o1.later hb, o3.later hb⟩
theorem BdAt.chg {d : Bd} {v : Value} {lo hi b c : Nat} {w w' : World} (h : BdAt d v lo hi w) (k : Chg b c w w') (hr : hi ≤ b ∨ c ≤ lo) : BdAt d v lo hi w' := by
  obtain ⟨A1, c1, A3, c3, gs, hv, h1, h2, o1, o3⟩ := h
  exact ⟨A1, c1, A3, c3, gs, hv, h1, h2, o1.chg k (by omega), o3.chg k (by omega)⟩
theorem BdAt.open {d : Bd} {A1 A3 : Option Addr} {c1 c3 lo hi : Nat} {w : World} (h : BdAt d (.agg #[.string d.name, .int .i64 d.stage, .slice A1 d.x.length c1, .string d.bob, .string d.sing, .int .i64 d.step, .string d.call, .string d.tru, .slice A3 d.rx.length c3]) lo hi w) : ∃ gs, lo ≤ gs ∧ gs ≤ hi ∧ OwnL w lo gs A1 1 encString d.x ∧ OwnL w gs hi A3 2 Rgr.enc d.rx := by
  obtain ⟨A1', c1', A3', c3', gs, hv, h1, h2, o1, o3⟩ := h
  obtain ⟨⟨rfl, rfl⟩, rfl, rfl⟩ : (A1 = A1' ∧ c1 = c1') ∧ A3 = A3' ∧ c3 = c3' := by simpa using hv
  exact ⟨gs, h1, h2, o1, o3⟩
def BdRet (d : Bd) (ok : Bool) (w : World) (e : Ending) (w' : World) : Prop := ∃ v, e = .returned (.tuple #[v, .bool ok]) ∧ BdAt d v w.heap.size w'.heap.size w' ∧ Below w.heap.size w w'
def BdOne (d : Bd) (w : World) (e : Ending) (w' : World) : Prop := ∃ v, e = .returned v ∧ BdAt d v w.heap.size w'.heap.size w' ∧ Below w.heap.size w w'
theorem BdAt.zero (lo hi : Nat) (w : World) (h : lo ≤ hi) : BdAt Bd.zero (.agg #[.string ⟨#[]⟩, .int .i64 0, .slice none 0 0, .string ⟨#[]⟩, .string ⟨#[]⟩, .int .i64 0, .string ⟨#[]⟩, .string ⟨#[]⟩, .slice none 0 0]) lo hi w :=
  ⟨none, 0, none, 0, lo, rfl, Nat.le_refl _, h, .inl rfl, .inl rfl⟩


end Go.Proofs.YtglnehinmdmgmaaGreat

/-
  The row that a change makes of rounds, in plain words: pairs of neighbours that exchange.
-/
namespace Go.Proofs.YtglnehinmdmgmaaGreat
open Go.RowKit
set_option linter.unusedVariables false
set_option linter.unusedSimpArgs false

theorem nodupN_le : ∀ (l : List Nat) (n : Nat), l.Nodup → (∀ x ∈ l, x < n) → l.length ≤ n
  | l, 0, _, h => by
    cases l with
    | nil => simp
    | cons x l => have := h x (by simp); omega
  | l, n + 1, hn, h => by
    have h1 := nodupN_le (l.erase n) n (hn.erase n) (fun x hx => by
      have := (hn.mem_erase_iff).1 hx
      have := h x this.2; omega)
    have := List.length_erase (a := n) (l := l)
    split at this <;> omega
/-- A change lets a place stay. -/
def stays (c : ByteArray) (p : Nat) : Prop := ∃ i : Nat, i < c.size ∧ bat c i - 48 = (p : Int)
open Classical in
/-- The lower places of the pairs that exchange, from place p on. -/
noncomputable def swF (c : ByteArray) (n : Nat) : Nat → Nat → List Nat
  | 0, _ => []
  | f + 1, p => if p < n then (if stays c p then swF c n f (p + 1) else p :: swF c n f (p + 2)) else []
theorem swF_fuel (c : ByteArray) (n : Nat) : ∀ (f g p : Nat), n ≤ p + f → n ≤ p + g → swF c n f p = swF c n g p
  | 0, 0, p, _, _ => rfl
  | 0, g + 1, p, h, _ => by simp only [swF]; rw [if_neg (by omega)]
  | f + 1, 0, p, _, h => by simp only [swF]; rw [if_neg (by omega)]
  | f + 1, g + 1, p, h1, h2 => by
    simp only [swF]
    rw [swF_fuel c n f g (p + 1) (by omega) (by omega), swF_fuel c n f g (p + 2) (by omega) (by omega)]
noncomputable def swFrom (c : ByteArray) (n p : Nat) : List Nat := swF c n (n - p) p
noncomputable def swL (c : ByteArray) (n : Nat) : List Nat := swFrom c n 1
theorem swFrom_end {c : ByteArray} {n p : Nat} (h : n ≤ p) : swFrom c n p = [] := by
  unfold swFrom; rw [show n - p = 0 by omega]; rfl
theorem swFrom_stay {c : ByteArray} {n p : Nat} (h : p < n) (hs : stays c p) : swFrom c n p = swFrom c n (p + 1) := by
  unfold swFrom
  obtain ⟨f, hf⟩ : ∃ f, n - p = f + 1 := ⟨n - p - 1, by omega⟩
  rw [hf]; simp only [swF]; rw [if_pos h, if_pos hs]
  exact swF_fuel c n _ _ _ (by omega) (by omega)
theorem swFrom_swap {c : ByteArray} {n p : Nat} (h : p < n) (hs : ¬ stays c p) : swFrom c n p = p :: swFrom c n (p + 2) := by
  unfold swFrom
  obtain ⟨f, hf⟩ : ∃ f, n - p = f + 1 := ⟨n - p - 1, by omega⟩
  rw [hf]; simp only [swF]; rw [if_pos h, if_neg hs]
  rw [swF_fuel c n _ (n - (p + 2)) _ (by omega) (by omega)]
def Sep (L : List Nat) : Prop := L.Pairwise fun a b => a + 1 < b
theorem swFrom_ge (c : ByteArray) (n : Nat) : ∀ (f p : Nat), n ≤ p + f → ∀ q ∈ swFrom c n p, p ≤ q ∧ q < n
  | 0, p, h, q, hq => by rw [swFrom_end (by omega)] at hq; simp at hq
  | f + 1, p, h, q, hq => by
    by_cases hp : p < n
    · by_cases hs : stays c p
      · rw [swFrom_stay hp hs] at hq; have := swFrom_ge c n f (p + 1) (by omega) q hq; omega
      · rw [swFrom_swap hp hs] at hq
        rcases List.mem_cons.1 hq with rfl | hq
        · omega
        · have := swFrom_ge c n f (p + 2) (by omega) q hq; omega
    · rw [swFrom_end (by omega)] at hq; simp at hq
theorem swFrom_sep (c : ByteArray) (n : Nat) : ∀ (f p : Nat), n ≤ p + f → Sep (swFrom c n p)
  | 0, p, h => by rw [swFrom_end (by omega)]; exact List.Pairwise.nil
  | f + 1, p, h => by
    by_cases hp : p < n
    · by_cases hs : stays c p
      · rw [swFrom_stay hp hs]; exact swFrom_sep c n f (p + 1) (by omega)
      · rw [swFrom_swap hp hs]
        exact List.Pairwise.cons (fun q hq => by have := (swFrom_ge c n f (p + 2) (by omega) q hq).1; omega) (swFrom_sep c n f (p + 2) (by omega))
    · rw [swFrom_end (by omega)]; exact List.Pairwise.nil
theorem sep_no : ∀ {L : List Nat}, Sep L → ∀ {a : Nat}, a ∈ L → a + 1 ∈ L → False
  | [], _, a, h, _ => by simp at h
  | x :: L, hs, a, h1, h2 => by
    obtain ⟨hx, hL⟩ := List.pairwise_cons.1 hs
    rcases List.mem_cons.1 h1 with rfl | h1 <;> rcases List.mem_cons.1 h2 with h2 | h2
    · omega
    · have := hx _ h2; omega
    · have := hx _ h1; omega
    · exact sep_no hL h1 h2
/-- Where a place's bell goes. -/
def pt (L : List Nat) (p : Nat) : Nat := if p ∈ L then p + 1 else if 1 ≤ p ∧ p - 1 ∈ L then p - 1 else p
theorem pt_nil (p : Nat) : pt [] p = p := by simp [pt]
theorem pt_snoc {L : List Nat} {q : Nat} (h : ∀ r ∈ L, r + 1 < q) (p : Nat) (hp : 1 ≤ p) : pt (L ++ [q]) p = if p = q then q + 1 else if p = q + 1 then q else pt L p := by
  unfold pt
  simp only [List.mem_append, List.mem_singleton]
  by_cases e1 : p = q
  · subst e1; simp
  · rw [if_neg e1]
    by_cases e2 : p = q + 1
    · subst e2
      have : ¬ (q + 1 ∈ L) := fun hm => by have := h _ hm; omega
      rw [if_pos rfl, if_neg (by simp [this]), if_pos ⟨by omega, by right; omega⟩]; omega
    · rw [if_neg e2]
      have : ¬ p - 1 = q ∨ p = 0 := by omega
      by_cases m1 : p ∈ L
      · rw [if_pos (.inl m1), if_pos m1]
      · rw [if_neg (by simp [m1, e1]), if_neg m1]
        by_cases m2 : p - 1 ∈ L
        · rw [if_pos ⟨hp, .inl m2⟩, if_pos ⟨hp, m2⟩]
        · rw [if_neg (by rintro ⟨_, h | h⟩; exact m2 h; omega), if_neg (fun x => m2 x.2)]
theorem pt_invol {L : List Nat} (hs : Sep L) (p : Nat) : pt L (pt L p) = p := by
  unfold pt
  by_cases m1 : p ∈ L
  · rw [if_pos m1, if_neg (fun h => sep_no hs m1 h), if_pos ⟨by omega, by simpa using m1⟩]; omega
  · rw [if_neg m1]
    by_cases m2 : 1 ≤ p ∧ p - 1 ∈ L
    · rw [if_pos m2, if_pos m2.2]; omega
    · rw [if_neg m2, if_neg m1, if_neg m2]
theorem pt_bd {L : List Nat} {n : Nat} (h : ∀ r ∈ L, 1 ≤ r ∧ r < n) {p : Nat} (h1 : 1 ≤ p) (h2 : p ≤ n) : 1 ≤ pt L p ∧ pt L p ≤ n := by
  unfold pt
  by_cases m1 : p ∈ L
  · rw [if_pos m1]; have := h p m1; omega
  · rw [if_neg m1]
    by_cases m2 : 1 ≤ p ∧ p - 1 ∈ L
    · rw [if_pos m2]; have := h _ m2.2; omega
    · rw [if_neg m2]; omega
/-- The row that pairs make of rounds. -/
def ptL (L : List Nat) (n : Nat) : List Int := (List.range n).map fun i : Nat => ((48 + pt L (i + 1) : Nat) : Int)
def ptS (L : List Nat) (n : Nat) : ByteArray := mkS (ptL L n)
theorem ptL_len (L : List Nat) (n : Nat) : (ptL L n).length = n := by simp [ptL]
theorem ptS_size (L : List Nat) (n : Nat) : (ptS L n).size = n := by unfold ptS; rw [size_mkS, ptL_len]
theorem ptS_bat {L : List Nat} {n : Nat} (h : ∀ r ∈ L, 1 ≤ r ∧ r < n) (hn : n ≤ 8) {i : Nat} (hi : i < n) : bat (ptS L n) i = ((48 + pt L (i + 1) : Nat) : Int) := by
  have hb := pt_bd h (p := i + 1) (by omega) (by omega)
  have he : (ptL L n)[i]'(by rw [ptL_len]; exact hi) = ((48 + pt L (i + 1) : Nat) : Int) := by simp [ptL]
  unfold ptS
  rw [bat_mkS _ i (by rw [ptL_len]; exact hi) (by rw [he]; omega) (by rw [he]; omega), he]
theorem ptS_row {L : List Nat} {n : Nat} (h : ∀ r ∈ L, 1 ≤ r ∧ r < n) (hs : Sep L) (h3 : 3 ≤ n) (h8 : n ≤ 8) : isRow (ptS L n) := by
  refine ⟨by rw [ptS_size]; exact h3, by rw [ptS_size]; exact h8, fun i hi => ?_, fun i j hij hj => ?_⟩
  · rw [ptS_size] at hi ⊢
    rw [ptS_bat h h8 hi]
    have := pt_bd h (p := i + 1) (by omega) (by omega); omega
  · rw [ptS_size] at hj
    rw [ptS_bat h h8 (by omega), ptS_bat h h8 hj]
    intro e
    have e2 : pt L (i + 1) = pt L (j + 1) := by omega
    have := congrArg (pt L) e2
    rw [pt_invol hs, pt_invol hs] at this
    omega
theorem swL_bd (c : ByteArray) (n : Nat) : ∀ r ∈ swL c n, 1 ≤ r ∧ r < n := swFrom_ge c n n 1 (by omega)
theorem swL_sep (c : ByteArray) (n : Nat) : Sep (swL c n) := swFrom_sep c n n 1 (by omega)
/-- The row that a change of stage n makes of rounds. -/
noncomputable def chgS (n : Nat) (c : ByteArray) : ByteArray := ptS (swL c n) n
/-- Where a change of stage n brings what is at a place. -/
noncomputable def mvP (n : Nat) (c : ByteArray) (p : Nat) : Nat := pt (swL c n) p
end Go.Proofs.YtglnehinmdmgmaaGreat

/-
  A list of which a first part has been turned; an own list of ringers written at one place; the band behind one change, in plain words.
-/
namespace Go.Proofs.YtglnehinmdmgmaaGreat
open Go.RowKit
set_option linter.unusedVariables false
set_option linter.unusedSimpArgs false

section
variable {α : Type} (f : α → α)
/-- The first k elements are turned. -/
def mix : List α → Nat → List α
  | [], _ => []
  | x :: l, 0 => x :: l
  | x :: l, k + 1 => f x :: mix l k
end
section
variable {w : World} {b c g : Nat} {l : List Rgr}
end
/-- The change at the band's step by the book. -/
def ownChg (b : Bnd) : ByteArray := b.m.x.getD b.step.toNat ByteArray.empty
/-- The change at the band's step for whoever heard the call. -/
def heardChg (b : Bnd) : ByteArray := if b.step = (b.m.x.length : Int) - 1 then (if b.call.toList = [98] then b.bob else if b.call.toList = [115] then b.sing else ownChg b) else ownChg b
/-- A ringer behind one change. -/
noncomputable def stepR (b : Bnd) (r : Rgr) : Rgr := ⟨((mvP b.m.stage.toNat (if r.deaf then ownChg b else heardChg b) r.place.toNat : Nat) : Int), r.deaf⟩
def hearR (r : Rgr) : Rgr := ⟨r.place, false⟩
/-- The ringers behind one change. -/
noncomputable def stepRs (b : Bnd) : List Rgr := if b.step = (b.m.x.length : Int) - 1 then (b.rx.map (stepR b)).map hearR else b.rx.map (stepR b)
/-- The step behind one change. -/
def stepN (b : Bnd) : Int := if b.step = (b.m.x.length : Int) - 1 then 0 else b.step + 1
def stepC (b : Bnd) : ByteArray := if b.step = (b.m.x.length : Int) - 1 then ⟨#[112]⟩ else b.call
noncomputable def stepT (b : Bnd) : ByteArray := timesS b.tru (chgS b.m.stage.toNat (heardChg b))
end Go.Proofs.YtglnehinmdmgmaaGreat
