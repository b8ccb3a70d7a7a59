import Derived.Test.YtbfhfnejppfehaaRows
import Derived.Test.YtbfhfnejppfehaaMSlipsL03
import Derived.StillTailTactics
import Derived.Deep.RegionHeld3
import Derived.Test.YtbfhfnejppfehaaMSlipsL08
import Derived.Deep.Slices
/-
  Contracts of the helper functions that the laws use for lists of Ringer.
-/
namespace Go.Proofs.Ytbfhfnejppfehaa
open Go.RowKit Go.ChangeShapes Go.WideShapes
set_option linter.unusedVariables false
set_option linter.unusedSimpArgs false
set_option maxRecDepth 100000


structure Rgr where
  place : Int
  deaf : Bool

def Rgr.enc (x : Rgr) : List Value := [.int .i64 x.place, .bool x.deaf]
theorem Rgr_enc_len (x : Rgr) : (Rgr.enc x).length = 2 := rfl
def Ringer_small (lim : Int) (x : Rgr) : Prop := True
/-- What the marks make of a list of so many elements. -/
def markRingerL (m q : Nat) : List Rgr := (List.range m).map fun i : Nat => (⟨((q + i * 2 : Nat) : Int), (((q + i * 2 + 1) % 3 == 0))⟩ : Rgr)
theorem markRingerL_len (m q : Nat) : (markRingerL m q).length = m := by simp [markRingerL]
theorem markRingerL_at (m q i : Nat) (hi : i < (markRingerL m q).length) : (markRingerL m q)[i] = (⟨((q + i * 2 : Nat) : Int), (((q + i * 2 + 1) % 3 == 0))⟩ : Rgr) := by simp [markRingerL]
theorem markRinger_enc (q k : Nat) : Rgr.enc (⟨((q + k * 2 : Nat) : Int), (((q + k * 2 + 1) % 3 == 0))⟩ : Rgr) = [.int .i64 ((q : Int) + (k : Int) * 2), .bool (((q : Int) + (k : Int) * 2 + 1) % 3 == 0)] := by
  have e1 : ((q + k * 2 : Nat) : Int) = (q : Int) + (k : Int) * 2 := by omega
  have e2 : ((q + k * 2 + 1) % 3 == 0) = (((q : Int) + (k : Int) * 2 + 1) % 3 == 0) := by
    rw [Bool.eq_iff_iff, beq_iff_eq, beq_iff_eq]; omega
  simp only [Rgr.enc, e1, e2]
end Go.Proofs.Ytbfhfnejppfehaa
/-
  Contracts: valid bands (both sides).
-/
namespace Go.Proofs.Ytbfhfnejppfehaa
open Go.RowKit
set_option linter.unusedVariables false
set_option linter.unusedSimpArgs false
set_option maxRecDepth 100000

/-- A band in memory. -/
structure Bnd where
  m : Mth
  bob : ByteArray
  sing : ByteArray
  step : Int
  call : ByteArray
  tru : ByteArray
  rx : List Rgr
  RA : Option Addr
  rc : Nat
def Bnd.enc (b : Bnd) : List Value := [.string b.m.name, .int .i64 b.m.stage, .slice b.m.A b.m.x.length b.m.c, .string b.bob, .string b.sing, .int .i64 b.step, .string b.call, .string b.tru, .slice b.RA b.rx.length b.rc]
def bandP (b : Bnd) : Prop := callsP b.m b.bob b.sing ∧ inB b.step 0 ((b.m.x.length : Int) - 1) ∧ isCallP b.call ∧ isRowOf b.m.stage b.tru ∧ (b.rx.length : Int) = b.m.stage ∧ ∀ (i : Nat) (hi : i < b.rx.length), inB b.rx[i].place 1 b.m.stage
/-- Its lists read, and all is small. -/
structure Bnd.Ok (b : Bnd) (w : World) : Prop where
  ch : RdL w w.heap.size b.m.A 1 encString b.m.x
  ri : RdL w w.heap.size b.RA 2 Rgr.enc b.rx
  nm : b.m.name.size ≤ 1048576
  cl : b.m.x.length ≤ 1048576
  cs : ∀ x ∈ b.m.x, String_small 1048576 x
  bs : b.bob.size ≤ 1048576
  ss : b.sing.size ≤ 1048576
  ks : b.call.size ≤ 1048576
  ts : b.tru.size ≤ 1048576
  rl : b.rx.length ≤ 1048576






end Go.Proofs.Ytbfhfnejppfehaa

/-
  Contracts of the helper functions that the laws use for methods, calls and bands.
-/
namespace Go.Proofs.Ytbfhfnejppfehaa
open Go.RowKit Go.ChangeShapes Go.WideShapes Go.Deep
set_option linter.unusedVariables false
set_option linter.unusedSimpArgs false
set_option maxRecDepth 100000

/-- Sizes that the machine's integers hold. -/
structure Mth.Fits (m : Mth) : Prop where
  nm : (m.name.size : Int) ≤ 9223372036854775807
  cl : m.x.length ≤ 9223372036854775807
  cs : ∀ x ∈ m.x, String_small 9223372036854775807 x

/-- A band that the machine holds. -/
structure Bnd.Fits (b : Bnd) : Prop where
  me : b.m.Fits
  bs : (b.bob.size : Int) ≤ 9223372036854775807
  ss : (b.sing.size : Int) ≤ 9223372036854775807
  ks : (b.call.size : Int) ≤ 9223372036854775807
  ts : (b.tru.size : Int) ≤ 9223372036854775807
  rl : b.rx.length ≤ 9223372036854775807
/-- All sizes of a band are small. -/
def Bnd.Small (b : Bnd) (lim : Int) : Prop := (b.m.name.size : Int) ≤ lim ∧ (b.m.x.length : Int) ≤ lim ∧ (∀ x ∈ b.m.x, String_small lim x) ∧ (b.bob.size : Int) ≤ lim ∧ (b.sing.size : Int) ≤ lim ∧ (b.call.size : Int) ≤ lim ∧ (b.tru.size : Int) ≤ lim ∧ (b.rx.length : Int) ≤ lim


end Go.Proofs.Ytbfhfnejppfehaa
