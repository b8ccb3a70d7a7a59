import Derived.Test.YtkegbbndmfnolaaMBeatsL19
import Derived.Test.YtkegbbndmfnolaaMBeatsL06
import Derived.Deep.RegionHeld3
import Derived.Lib.SliceRun
import Derived.Test.YtkegbbndmfnolaaRows
import Derived.Test.YtkegbbndmfnolaaMBeatsL01
import Derived.Test.YtkegbbndmfnolaaMBeatsL02
import Derived.StillTailTactics
import Derived.Deep.Slices
import Derived.Deep.Quiet
import Derived.ArgAppend
/-
  Contracts: valid methods and calls (both sides).
-/
namespace Go.Proofs.Ytkegbbndmfnolaa
open Go.RowKit
set_option linter.unusedVariables false
set_option linter.unusedSimpArgs false
set_option maxRecDepth 100000

/-- A method in memory: the name, the stage, the changes, their address, their room. -/
structure Mth where
  name : ByteArray
  stage : Int
  x : List ByteArray
  A : Option Addr
  c : Nat
def Mth.enc (m : Mth) : List Value := [.string m.name, .int .i64 m.stage, .slice m.A m.x.length m.c]
def changesP (n : Int) (l : List ByteArray) : Prop := (1 ≤ l.length ∧ l.length ≤ 40) ∧ ∀ (i : Nat) (hi : i < l.length), changeP n l[i]
def methP (m : Mth) : Prop := isWordP m.name ∧ changesP m.stage m.x
def callsP (m : Mth) (b s : ByteArray) : Prop := methP m ∧ changeP m.stage b ∧ changeP m.stage s
theorem changesP.stage {n : Int} {l : List ByteArray} (h : changesP n l) : inB n 3 8 := (h.2 0 (by have := h.1.1; omega)).1




end Go.Proofs.Ytkegbbndmfnolaa

/-
  Rounds; lists of strings and methods copied: contracts of both sides.
-/
namespace Go.Proofs.Ytkegbbndmfnolaa
open Go.RowKit
set_option linter.unusedVariables false
set_option linter.unusedSimpArgs false
set_option maxRecDepth 100000

def eightS : ByteArray := ⟨#[49, 50, 51, 52, 53, 54, 55, 56]⟩
/-- Rounds. -/
def roundsS (n : Int) : ByteArray := eightS.extract 0 n.toNat
theorem roundsS_size {n : Int} (h0 : 0 ≤ n) (h8 : n ≤ 8) : (roundsS n).size = n.toNat := by
  unfold roundsS; rw [size_ext]
  have : eightS.size = 8 := rfl
  omega

theorem l1Rounds_any (n : Int) (w : World) (h0 : 0 ≤ n) (h8 : n ≤ 8) : Calls Try.prog 134 #[.int .i64 n] w fun e w' => e = .returned (.string (roundsS n)) ∧ w = w' := by
  have hz : (⟨#[49, 50, 51, 52, 53, 54, 55, 56]⟩ : ByteArray).size = 8 := rfl
  go_enter Try.func134, Try.ntmps134
  go_wp2
  go_ret
  exact ⟨rfl, rfl⟩

end Go.Proofs.Ytkegbbndmfnolaa

/-
  Contracts of the helper functions that the laws use for lists of Ringer.
-/
namespace Go.Proofs.Ytkegbbndmfnolaa
open Go.RowKit Go.ChangeShapes Go.WideShapes
set_option linter.unusedVariables false
set_option linter.unusedSimpArgs false
set_option maxRecDepth 100000


structure Rgr where
  place : Int
  deaf : Bool

def Rgr.enc (x : Rgr) : List Value := [.int .i64 x.place, .bool x.deaf]
def Ringer_small (lim : Int) (x : Rgr) : Prop := True
/-- What the marks make of a list of so many elements. -/
def markRingerL (m q : Nat) : List Rgr := (List.range m).map fun i : Nat => (⟨((q + i * 2 : Nat) : Int), (((q + i * 2 + 1) % 3 == 0))⟩ : Rgr)
end Go.Proofs.Ytkegbbndmfnolaa
/-
  Contracts: valid bands (both sides).
-/
namespace Go.Proofs.Ytkegbbndmfnolaa
open Go.RowKit
set_option linter.unusedVariables false
set_option linter.unusedSimpArgs false
set_option maxRecDepth 100000

/-- A band in memory. -/
structure Bnd where
  m : Mth
  bob : ByteArray
  sing : ByteArray
  step : Int
  call : ByteArray
  tru : ByteArray
  rx : List Rgr
  RA : Option Addr
  rc : Nat
def Bnd.enc (b : Bnd) : List Value := [.string b.m.name, .int .i64 b.m.stage, .slice b.m.A b.m.x.length b.m.c, .string b.bob, .string b.sing, .int .i64 b.step, .string b.call, .string b.tru, .slice b.RA b.rx.length b.rc]
def bandP (b : Bnd) : Prop := callsP b.m b.bob b.sing ∧ inB b.step 0 ((b.m.x.length : Int) - 1) ∧ isCallP b.call ∧ isRowOf b.m.stage b.tru ∧ (b.rx.length : Int) = b.m.stage ∧ ∀ (i : Nat) (hi : i < b.rx.length), inB b.rx[i].place 1 b.m.stage
/-- Its lists read, and all is small. -/
structure Bnd.Ok (b : Bnd) (w : World) : Prop where
  ch : RdL w w.heap.size b.m.A 1 encString b.m.x
  ri : RdL w w.heap.size b.RA 2 Rgr.enc b.rx
  nm : b.m.name.size ≤ 1048576
  cl : b.m.x.length ≤ 1048576
  cs : ∀ x ∈ b.m.x, String_small 1048576 x
  bs : b.bob.size ≤ 1048576
  ss : b.sing.size ≤ 1048576
  ks : b.call.size ≤ 1048576
  ts : b.tru.size ≤ 1048576
  rl : b.rx.length ≤ 1048576






end Go.Proofs.Ytkegbbndmfnolaa

/-
  Contracts of the helper functions that the laws use for methods, calls and bands.
-/
namespace Go.Proofs.Ytkegbbndmfnolaa
open Go.RowKit Go.ChangeShapes Go.WideShapes Go.Deep
set_option linter.unusedVariables false
set_option linter.unusedSimpArgs false
set_option maxRecDepth 100000

/-- Sizes that the machine's integers hold. -/
structure Mth.Fits (m : Mth) : Prop where
  nm : (m.name.size : Int) ≤ 9223372036854775807
  cl : m.x.length ≤ 9223372036854775807
  cs : ∀ x ∈ m.x, String_small 9223372036854775807 x

/-- A band that the machine holds. -/
structure Bnd.Fits (b : Bnd) : Prop where
  me : b.m.Fits
  bs : (b.bob.size : Int) ≤ 9223372036854775807
  ss : (b.sing.size : Int) ≤ 9223372036854775807
  ks : (b.call.size : Int) ≤ 9223372036854775807
  ts : (b.tru.size : Int) ≤ 9223372036854775807
  rl : b.rx.length ≤ 9223372036854775807
/-- All sizes of a band are small. -/
def Bnd.Small (b : Bnd) (lim : Int) : Prop := (b.m.name.size : Int) ≤ lim ∧ (b.m.x.length : Int) ≤ lim ∧ (∀ x ∈ b.m.x, String_small lim x) ∧ (b.bob.size : Int) ≤ lim ∧ (b.sing.size : Int) ≤ lim ∧ (b.call.size : Int) ≤ lim ∧ (b.tru.size : Int) ≤ lim ∧ (b.rx.length : Int) ≤ lim


end Go.Proofs.Ytkegbbndmfnolaa

/-
  A region that draws its order and holds calls that make memory: one walk in the order of the text, the results known by what is said of them. Words of our own that know no program.
-/
namespace Go.Proofs.Ytkegbbndmfnolaa
open Go.RowKit
set_option linter.unusedVariables false
set_option linter.unusedSimpArgs false

section
variable {P : Program} {ops : Array Oper} {md : Region.Mode}
/-- What an operation waits for. -/
def gWaits (md : Region.Mode) (ops : Array Oper) (j : Nat) : List Nat :=
  match ops[j]? with
  | none => []
  | some o => (o.after.toList.filter (Region.binds md)).map (fun e => e.on)
/-- What an operation waits for, and what that waits for, and so on. -/
def gDeps (md : Region.Mode) (ops : Array Oper) : Nat → Nat → List Nat
  | 0, j => gWaits md ops j
  | f + 1, j => gWaits md ops j ++ (gWaits md ops j).flatMap (gDeps md ops f)
def gClosed (md : Region.Mode) (ops : Array Oper) (listed : Array Bool) : Prop := ∀ k, listed.getD k false = true → ∀ e ∈ gWaits md ops k, listed.getD e false = true
end

/-- What is known of one result: the blocks that it has made, and a statement on them. -/
structure GRec where
  lo : Nat
  hi : Nat
  φ : World → Prop
  on : Bool
def GRec.zero : GRec := ⟨0, 0, fun _ => True, false⟩
/-- The statement hangs on those blocks alone. -/
def GLoc (r : GRec) : Prop := ∀ w w' : World, w.heap.size ≤ w'.heap.size → (∀ k, r.lo ≤ k → k < r.hi → w'.heap[k]? = w.heap[k]?) → r.hi ≤ w.heap.size → r.φ w → r.φ w'
structure GEnv where
  at_ : Nat → GRec
  top : Option (World → Prop)
def GEnv.upd (E : GEnv) (i : Nat) (r : GRec) : GEnv := { E with at_ := fun k => if k = i then r else E.at_ k }
def GEnv.zero : GEnv := ⟨fun _ => GRec.zero, none⟩
theorem GEnv.upd_same (E : GEnv) (i : Nat) (r : GRec) : (E.upd i r).at_ i = r := if_pos rfl
theorem GEnv.upd_other (E : GEnv) {i k : Nat} (r : GRec) (h : k ≠ i) : (E.upd i r).at_ k = E.at_ k := if_neg h
/-- What may happen to memory at a step: blocks from b0 on stay. -/
def GEff (b0 : Nat) (w w' : World) : Prop := w.heap.size ≤ w'.heap.size ∧ ∀ k, b0 ≤ k → k < w.heap.size → w'.heap[k]? = w.heap[k]?
def GRecs (b0 : Nat) (E : GEnv) (w : World) : Prop :=
  (∀ i, (E.at_ i).hi ≤ w.heap.size ∧ (((E.at_ i).on = true ∧ b0 ≤ (E.at_ i).lo ∧ (E.at_ i).lo ≤ (E.at_ i).hi) ∨ ((E.at_ i).hi = 0 ∧ (E.at_ i).on = false)) ∧ (E.at_ i).φ w) ∧ ∀ i j, i ≠ j → (E.at_ i).hi ≤ (E.at_ j).lo ∨ (E.at_ j).hi ≤ (E.at_ i).lo
def GHolds (C : World → Prop) (b0 : Nat) (E : GEnv) (w : World) : Prop := match E.top with
  | none => C w ∧ GRecs b0 E w
  | some F => F w
def GSat (C : World → Prop) (b0 : Nat) (E : GEnv) : Prop := ∃ w, GHolds C b0 E w

inductive GKind where
  | q
  | s (Ψ : List Value → Value → Nat → Nat → World → Prop)
  | t
  | u
def GKind.code : GKind → Nat
  | .q => 0
  | .s _ => 1
  | .t => 2
  | .u => 3
/-- Operations that hand a value on and enter no function. -/
def qOpB : Op → Bool
  | .move _ => true
  | .assign _ => true
  | .build _ _ => true
  | .load _ _ => true
  | .binOp _ _ _ _ _ => true
  | .unOp _ _ _ => true
  | .fieldAddr _ _ _ => true
  | .field _ _ _ => true
  | .indexAddr _ _ _ => true
  | .index _ _ _ => true
  | .extract _ _ => true
  | .convert _ _ _ => true
  | .slice _ _ _ _ _ => true
  | .pick _ _ _ => true
  | _ => false

def gRun (P : Program) (R : Value → World → Prop) : Result Next → Prop
  | .ok (.value u) w' => R u w'
  | .ok (.enter f args) w' => Calls P f args w' fun e w'' => ∃ u, e = .returned u ∧ R u w''
  | _ => False
section
variable {P : Program} {ops : Array Oper} {md : Region.Mode} {C : World → Prop} {b0 fu : Nat} {kind : Nat → GKind}

/-- The step of a call, of an allocation. -/
def gGives (P : Program) (md : Region.Mode) (ops : Array Oper) (C : World → Prop) (b0 fu : Nat) (i : Nat) (o : Oper) (Ψ : Value → Nat → Nat → World → Prop) (a : Act) (E : GEnv) : Prop :=
  ∀ w, C w → (∀ d ∈ gDeps md ops fu i, (E.at_ d).hi ≤ w.heap.size ∧ (E.at_ d).φ w) →
    gRun P (fun u w' => C w' ∧ GEff b0 w w' ∧ Ψ u w.heap.size w'.heap.size w') ((execOp a.eval o).run P w)
def gTop (P : Program) (C : World → Prop) (b0 : Nat) (o : Oper) (a : Act) (E : GEnv) : World → Prop := fun w' => ∃ w, GHolds C b0 E w ∧ (execOp a.eval o).run P w = .ok .skip w'

/-- The values that an operation is handed. -/
def gArgs (o : Oper) (a : Act) : List Value :=
  match o.op with
  | .call c => c.args.toList.map a.eval
  | .load _ x => [a.eval x]
  | _ => []
/-- A call that answers one value and leaves the world as it is; there is no call in the region that makes memory. -/
def gPure (P : Program) (C : World → Prop) (kind : Nat → GKind) (o : Oper) (a : Act) (v : Value) : Prop :=
  (∀ k, (kind k).code ≠ 1) ∧ ∃ f vals, (∀ w, (execOp a.eval o).run P w = .ok (.enter f vals) w) ∧ ∀ w, C w → Calls P f vals w fun e w' => e = .returned v ∧ w' = w
/-- .. or it hands a value on in every world of the class. -/
def gStay (P : Program) (C : World → Prop) (o : Oper) (a : Act) : Prop := qOpB o.op = true ∨ ∀ w, C w → ∃ v, (execOp a.eval o).run P w = .ok (.value v) w
def gQuiet (P : Program) (C : World → Prop) (ops : Array Oper) (kind : Nat → GKind) (o : Oper) (a : Act) (v : Value) : Prop := gStay P C o a ∨ gPure P C kind o a v ∨ Region.wanted o (yielded ops a.tmps) = false
def opG (P : Program) (md : Region.Mode) (ops : Array Oper) (C : World → Prop) (b0 fu : Nat) (kind : Nat → GKind) (i : Nat) (K : Act → GEnv → Prop) (a : Act) (E : GEnv) : Prop :=
  ∃ o, ops[i]? = some o ∧ match kind i with
  | .q => (∀ w, GHolds C b0 E w → C w) ∧ ∃ v, gQuiet P C ops kind o a v ∧ YieldsIn P ops C o v a ∧ K (a.put o.dst v) E
  | .s Ψ => o.guard = none ∧ E.top = none ∧ (∀ u lo hi, GLoc ⟨lo, hi, Ψ (gArgs o a) u lo hi, true⟩) ∧ gGives P md ops C b0 fu i o (Ψ (gArgs o a)) a E ∧ ∀ u lo hi, GSat C b0 (E.upd i ⟨lo, hi, Ψ (gArgs o a) u lo hi, true⟩) → K (a.put o.dst u) (E.upd i ⟨lo, hi, Ψ (gArgs o a) u lo hi, true⟩)
  | .t => o.guard = none ∧ E.top = none ∧ (∀ w, GHolds C b0 E w → ∃ w', (execOp a.eval o).run P w = .ok .skip w' ∧ C w') ∧ K (a.put o.dst undef) { E with top := some (fun w' => C w' ∧ gTop P C b0 o a E w') }
  | .u => o.guard = none ∧ E.top = none ∧ (∀ w, GHolds C b0 E w → ∃ w', (execOp a.eval o).run P w = .ok .skip w') ∧ K (a.put o.dst undef) { E with top := some (gTop P C b0 o a E) }

theorem holds_recs {E : GEnv} {w : World} (h : GHolds C b0 E w) (ht : E.top = none) : GRecs b0 E w := by
  unfold GHolds at h; rw [ht] at h; exact h.2
/-- The records of an environment are each on their own blocks. -/
def GLocs (E : GEnv) : Prop := ∀ k, GLoc (E.at_ k)
theorem GLocs.upd {E : GEnv} (h : GLocs E) {i : Nat} {r : GRec} (hr : GLoc r) : GLocs (E.upd i r) := fun k => by
  by_cases e : k = i
  · subst e; rw [GEnv.upd_same]; exact hr
  · rw [GEnv.upd_other _ _ e]; exact h k
theorem GLocs.zero : GLocs GEnv.zero := fun k w w' _ _ _ _ => trivial

def gCompat : Nat → Nat → Bool
  | 0, 0 => true
  | 0, 1 => true
  | 0, 2 => true
  | 1, 0 => true
  | 2, 0 => true
  | 1, 1 => true
  | _, _ => false

/-- Whatever order is picked from here on. -/
def wpAnyG (P : Program) (md : Region.Mode) (ops : Array Oper) (C : World → Prop) (b0 fu : Nat) (kind : Nat → GKind) (Q : Act → GEnv → Prop) : Nat → Array Bool → Act → GEnv → Prop
  | 0, listed, a, E => Region.ready md ops listed = [] ∧ Q a E
  | fuel + 1, listed, a, E =>
    (Region.ready md ops listed = [] → Q a E) ∧
    ∀ i ∈ Region.ready md ops listed, opG P md ops C b0 fu kind i (wpAnyG P md ops C b0 fu kind Q fuel (listed.setIfInBounds i true)) a E

def GFresh (E : GEnv) (listed : Array Bool) : Prop := ∀ k, listed.getD k false = false → E.at_ k = GRec.zero
/-- The walk in the order of the text. -/
def wpG (P : Program) (md : Region.Mode) (ops : Array Oper) (C : World → Prop) (b0 fu : Nat) (kind : Nat → GKind) (Q : Act → GEnv → Prop) : List Oper → Nat → Act → GEnv → Prop
  | [], _, a, E => Q a E
  | _ :: rest, k, a, E => opG P md ops C b0 fu kind k (wpG P md ops C b0 fu kind Q rest (k + 1)) a E

def gFree (md : Region.Mode) (ops : Array Oper) (fu : Nat) (cs : List Nat) (listed : Array Bool) (i : Nat) : Bool :=
  (List.range ops.size).all fun j => j == i || listed.getD j true || (gDeps md ops fu j).contains i ||
    (match ops[i]?, ops[j]? with
      | some oi, some oj => oi.apart ops oj
      | _, _ => false) && gCompat (cs.getD i 0) (cs.getD j 0)
def gLexFrom (md : Region.Mode) (ops : Array Oper) (fu : Nat) (cs : List Nat) : Nat → Nat → Array Bool → Bool
  | 0, _, listed => (Region.ready md ops listed).isEmpty
  | fuel + 1, k, listed => (Region.ready md ops listed).contains k && gFree md ops fu cs listed k && gLexFrom md ops fu cs fuel (k + 1) (listed.setIfInBounds k true)
def gLexB (md : Region.Mode) (ops : Array Oper) (fu : Nat) (cs : List Nat) : Bool := Region.noSelect ops && gLexFrom md ops fu cs ops.size 0 (Array.replicate ops.size false)

end
end Go.Proofs.Ytkegbbndmfnolaa

/-
  Steps of the one walk through a region that draws its order and makes memory. Words of our own that know no program.
-/
namespace Go.Proofs.Ytkegbbndmfnolaa
open Go.RowKit
set_option linter.unusedVariables false
set_option linter.unusedSimpArgs false

section
variable {lo hi : Nat}
end
/-- A box of n cells that the region itself makes. -/
def gBox (n : Nat) : Value → Nat → Nat → World → Prop := fun u lo hi w => u = .pointer (some ⟨lo, 0, none⟩) ∧ hi = lo + 1 ∧ ∃ f, Cells w lo n f
theorem Later.cell {w : World} {p : Addr} {v : Value} (h : w.cell? p = some v) (hp : p.block < w.heap.size) (x : Later w) : x.W.cell? p = some v := (x.hb.cell hp).trans h
theorem Later.frozen {w : World} {p : Addr} {b : Bool} (h : w.frozen? p = b) (hp : p.block < w.heap.size) (x : Later w) : x.W.frozen? p = b := (x.hb.frozen hp).trans h
def inC (w : World) : World → Prop := fun w' => ∃ x : Later w, w' = x.W
theorem inC.below {w w' : World} (h : inC w w') : Below w.heap.size w w' := by obtain ⟨x, rfl⟩ := h; exact x.hb
theorem inC.of {w w' : World} (h : Below w.heap.size w w') : inC w w' := ⟨⟨w', h⟩, rfl⟩
theorem inC.size (w : World) : ∀ w', inC w w' → w.heap.size ≤ w'.heap.size := fun w' h => h.below.size
theorem inC.step {w w' w'' : World} (h : inC w w') (hb : Below w'.heap.size w' w'') : inC w w'' := inC.of (h.below.trans (hb.mono h.below.size))
section
variable {P : Program} {ops : Array Oper} {md : Region.Mode} {C : World → Prop} {b0 fu : Nat} {kind : Nat → GKind} {Q : Act → GEnv → Prop}
variable {o : Oper} {rest : List Oper} {k : Nat} {a : Act} {E : GEnv}
/-- An empty slice is made. -/
def gNil : Value → Nat → Nat → World → Prop := fun u lo hi w => u = .slice (some ⟨lo, 0, none⟩) 0 0
end
theorem Cells.newD (w : World) (c : Array Value) (t : TypeId) : Cells (w.alloc (.cells c t)) w.heap.size c.size (fun i => c.getD i undef) := Cells.new w c t _ _ fun i hi => by simp [Array.getD, hi]
theorem GHolds.apart {C : World → Prop} {b0 : Nat} {E : GEnv} {w : World} (h : GHolds C b0 E w) (ht : E.top = none) (i j : Nat) (hij : i ≠ j) : (E.at_ i).hi ≤ (E.at_ j).lo ∨ (E.at_ j).hi ≤ (E.at_ i).lo := (holds_recs h ht).2 i j hij
theorem Chg.setN {b c g : Nat} {a : World} (h1 : b ≤ g) (h2 : g < c) : ∀ (vs : List Value) {w : World} {p : Nat}, Chg b c a w → Chg b c a (setN w g p vs)
  | [], w, p, h => h
  | v :: vs, w, p, h => Chg.setN h1 h2 vs (h.setCell (p := ⟨g, p, none⟩) h1 h2 v)
theorem setN_size (g : Nat) : ∀ (vs : List Value) (w : World) (p : Nat), (setN w g p vs).heap.size = w.heap.size
  | [], w, p => rfl
  | v :: vs, w, p => by rw [setN, setN_size g vs]; simp
theorem updN_zero (f : Nat → Value) (vs : List Value) (i : Nat) (hi : i < vs.length) : updN f 0 vs i = vs.getD i undef := by
  unfold updN; rw [if_pos ⟨Nat.zero_le _, by omega⟩, Nat.sub_zero]
theorem Cells.boxed {w : World} {g n : Nat} {f : Nat → Value} (h : Cells w g n f) (vs : List Value) (hn : vs.length = n) : Cells (Go.Proofs.Ytkegbbndmfnolaa.setN w g 0 vs) g n (fun i => vs.getD i undef) :=
  (h.setN vs (b := 0) (by omega)).congr fun i hi => updN_zero f vs i (by omega)
/-- A world that is w but for one block of n cells, and but for draws. -/
structure LaterX (w : World) (r n : Nat) where
  W : World
  ho : W.os = w.os
  hp : W.output = w.output
  ht : W.tape = w.tape
  hs : W.heap.size = w.heap.size
  hb : ∀ k, k ≠ r → W.heap[k]? = w.heap[k]?
  hc : ∃ f, Cells W r n f
def inX (w : World) (r n : Nat) : World → Prop := fun w' => ∃ x : LaterX w r n, w' = x.W
theorem LaterX.cell {w : World} {r n : Nat} {p : Addr} {v : Value} (h : w.cell? p = some v) (hp : p.block ≠ r) (x : LaterX w r n) : x.W.cell? p = some v := (World.cell?_of_block (a := p) (x.hb p.block hp)).trans h
theorem inX.size (w : World) (r n : Nat) : ∀ w', inX w r n w' → w.heap.size ≤ w'.heap.size := fun w' h => by obtain ⟨x, rfl⟩ := h; exact Nat.le_of_eq x.hs.symm
theorem inX.drew {w : World} {r n : Nat} {f : Nat → Value} (h : Cells w r n f) : inX w r n w.drew := ⟨⟨w.drew, rfl, rfl, rfl, rfl, fun _ _ => rfl, f, h⟩, rfl⟩
theorem inX.set {w w' : World} {r n : Nat} (h : inX w r n w') (vs : List Value) (hn : vs.length = n) : inX w r n (setN w' r 0 vs) := by
  obtain ⟨x, rfl⟩ := h
  obtain ⟨f, hf⟩ := x.hc
  have kk : Chg r (r + 1) x.W (setN x.W r 0 vs) := Chg.setN (Nat.le_refl _) (Nat.lt_succ_self _) vs (Chg.refl _ _ x.W)
  refine ⟨⟨_, kk.os.trans x.ho, kk.output.trans x.hp, kk.tape.trans x.ht, (setN_size _ _ _ _).trans x.hs, fun k hk => ?_, _, hf.boxed vs hn⟩, rfl⟩
  rcases Nat.lt_or_ge k x.W.heap.size with h | h
  · exact (kk.block k h (by omega)).trans (x.hb k hk)
  · rw [Array.getElem?_eq_none (by rw [setN_size]; exact h), Array.getElem?_eq_none (by rw [← x.hs]; exact h)]
theorem inX.chg {w w' : World} {r n : Nat} (h : inX w r n w') : Chg r (r + 1) w w' := by
  obtain ⟨x, rfl⟩ := h
  exact ⟨x.ho, x.ht, x.hp, Nat.le_of_eq x.hs.symm, fun k hk hr => x.hb k (by omega)⟩
theorem inX.cells {w w' : World} {r n : Nat} (h : inX w r n w') : ∃ f, Cells w' r n f := by obtain ⟨x, rfl⟩ := h; exact x.hc
end Go.Proofs.Ytkegbbndmfnolaa

/-
  New bands: contracts of both sides.
-/
namespace Go.Proofs.Ytkegbbndmfnolaa
open Go.RowKit
set_option linter.unusedVariables false
set_option linter.unusedSimpArgs false
set_option maxRecDepth 100000

/-- The ringers of a new band. -/
def newRs (n : Nat) : List Rgr := (List.range n).map fun i : Nat => ⟨(i : Int) + 1, false⟩
def pS : ByteArray := ⟨#[112]⟩
/-- A band's cells. -/
def bdV (nm : ByteArray) (st : Int) (A1 : Option Addr) (n1 c1 : Nat) (b s : ByteArray) (stp : Int) (cal tru : ByteArray) (A3 : Option Addr) (n3 c3 : Nat) : Array Value :=
  #[.string nm, .int .i64 st, .slice A1 n1 c1, .string b, .string s, .int .i64 stp, .string cal, .string tru, .slice A3 n3 c3]
/-- A new band is handed back; its two slices' blocks lie apart. -/
def BdOut (nm : ByteArray) (st : Int) (x : List ByteArray) (b s : ByteArray) (stp : Int) (cal tru : ByteArray) (rx : List Rgr) (w : World) (e : Ending) (w' : World) : Prop :=
  ∃ A1 c1 A3 c3 gs, e = .returned (.agg #[.string nm, .int .i64 st, .slice A1 x.length c1, .string b, .string s, .int .i64 stp, .string cal, .string tru, .slice A3 rx.length c3]) ∧ w.heap.size ≤ gs ∧ gs ≤ w'.heap.size ∧ OwnL w' w.heap.size gs A1 1 encString x ∧ OwnL w' gs w'.heap.size A3 2 Rgr.enc rx ∧ Below w.heap.size w w'













end Go.Proofs.Ytkegbbndmfnolaa
