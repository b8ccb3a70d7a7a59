/-
  Contracts: a valid placing (both sides).
-/
import Derived.Test.YtebmlcollanfhaaPeople
namespace Go.Proofs.Ytebmlcollanfhaa
open Go.RowKit
set_option linter.unusedVariables false
set_option linter.unusedSimpArgs false
set_option maxRecDepth 100000

/-- The person on bell b is one of the list, is on no earlier bell, and rings the bell. -/
def seatAt (l : List Pk) (who : List Int) (b : Nat) : Prop := inB (who.getD b 0) 0 ((l.length : Int) - 1) ∧ ¬ hasUpTo who b (who.getD b 0) ∧ (skAt l (who.getD b 0).toNat).getD b 0 ≠ 0
def seatsP (l : List Pk) (who : List Int) : Prop := ∀ b, b < who.length → seatAt l who b
def placingP (l : List Pk) (n : Int) (who : List Int) : Prop := peopleP l n ∧ (who.length : Int) = n ∧ seatsP l who
theorem peopleP.sk {l : List Pk} {n : Int} (h : peopleP l n) {i : Nat} (hi : i < l.length) : ((skAt l i).length : Int) = n := (h.2.2 i hi).2.1




end Go.Proofs.Ytebmlcollanfhaa
