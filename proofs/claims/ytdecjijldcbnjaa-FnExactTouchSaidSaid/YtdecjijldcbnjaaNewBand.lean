/-
  New bands: contracts of both sides.
-/
import Derived.Test.YtdecjijldcbnjaaCopy
import Derived.Test.YtdecjijldcbnjaaBand
import Derived.Test.YtdecjijldcbnjaaTyBand
import Derived.Test.YtdecjijldcbnjaaGuse
namespace Go.Proofs.Ytdecjijldcbnjaa
open Go.RowKit
set_option linter.unusedVariables false
set_option linter.unusedSimpArgs false
set_option maxRecDepth 100000

/-- The ringers of a new band. -/
def newRs (n : Nat) : List Rgr := (List.range n).map fun i : Nat => ⟨(i : Int) + 1, false⟩
theorem newRs_len (n : Nat) : (newRs n).length = n := by simp [newRs]
theorem newRs_succ (n : Nat) : newRs (n + 1) = newRs n ++ [⟨(n : Int) + 1, false⟩] := by simp [newRs, List.range_succ]
def pS : ByteArray := ⟨#[112]⟩
/-- A band's cells. -/
def bdV (nm : ByteArray) (st : Int) (A1 : Option Addr) (n1 c1 : Nat) (b s : ByteArray) (stp : Int) (cal tru : ByteArray) (A3 : Option Addr) (n3 c3 : Nat) : Array Value :=
  #[.string nm, .int .i64 st, .slice A1 n1 c1, .string b, .string s, .int .i64 stp, .string cal, .string tru, .slice A3 n3 c3]
/-- A new band is handed back; its two slices' blocks lie apart. -/
def BdOut (nm : ByteArray) (st : Int) (x : List ByteArray) (b s : ByteArray) (stp : Int) (cal tru : ByteArray) (rx : List Rgr) (w : World) (e : Ending) (w' : World) : Prop :=
  ∃ A1 c1 A3 c3 gs, e = .returned (.agg #[.string nm, .int .i64 st, .slice A1 x.length c1, .string b, .string s, .int .i64 stp, .string cal, .string tru, .slice A3 rx.length c3]) ∧ w.heap.size ≤ gs ∧ gs ≤ w'.heap.size ∧ OwnL w' w.heap.size gs A1 1 encString x ∧ OwnL w' gs w'.heap.size A3 2 Rgr.enc rx ∧ Below w.heap.size w w'













end Go.Proofs.Ytdecjijldcbnjaa
