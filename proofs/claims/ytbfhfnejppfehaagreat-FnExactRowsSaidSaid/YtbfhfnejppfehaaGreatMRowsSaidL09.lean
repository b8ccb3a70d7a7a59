import Derived.Test.YtbfhfnejppfehaaGreatMRowsSaidL00
import Derived.Deep.QuietTactic
import Derived.BigQuiet
/-
  A region that draws its order, whose operations only read and whose callees only make new memory: one walk in the order of the text.
-/
namespace Go.Proofs.YtbfhfnejppfehaaGreat
open Go.RowKit
set_option linter.unusedVariables false
set_option linter.unusedSimpArgs false

/-- A world in which, below the heap's size of w, all is as in w. -/
structure Later (w : World) where
  W : World
  hb : Below w.heap.size w W
instance (w : World) : Inhabited (Later w) := ⟨⟨w, Below.refl _ _⟩⟩
theorem wp_region_later {P : Program} {id : Nat} {Q : Exit → Act → World → Prop} {a : Act} {w : World} {l : List Oper} (hm : P.follows .mixedOrders = true) (hB : Region.lexB .any l.toArray = true)
    (h : wpQuiet P l.toArray (fun w' => ∃ x : Later w, w' = x.W) (fun a' => ∀ w', (∃ x : Later w, w' = x.W) → Q .normal a' w') l a) : (Code.region id l.toArray true).wp P Q a w :=
  wp_region_quiet (C := fun w' => ∃ x : Later w, w' = x.W) hm hB ⟨⟨w.drew, (Below.refl _ _).drew⟩, rfl⟩ (by simpa using h)
theorem Later.call {P : Program} {f : FuncId} {args : Array Value} {w : World} {x : Later w} {v : Value} (h : Calls P f args x.W fun e w' => e = .returned v ∧ Below x.W.heap.size x.W w') :
    Calls P f args x.W fun e w'' => e = .returned v ∧ ∃ y : Later w, w'' = y.W :=
  h.mono fun _ w' ⟨he, hb⟩ => ⟨he, ⟨w', x.hb.trans (hb.mono x.hb.size)⟩, rfl⟩
theorem Later.same {P : Program} {f : FuncId} {args : Array Value} {w : World} {x : Later w} {v : Value} (h : Calls P f args x.W fun e w' => e = .returned v ∧ x.W = w') :
    Calls P f args x.W fun e w'' => e = .returned v ∧ ∃ y : Later w, w'' = y.W :=
  h.mono fun _ w' ⟨he, hb⟩ => ⟨he, x, hb.symm⟩
theorem calls_bool {P : Program} {f : FuncId} {args : Array Value} {w : World} {b b' : Bool} {R : World → Prop} (h : Calls P f args w fun e w' => e = .returned (.bool b) ∧ R w') (e : b = b') : Calls P f args w fun e w' => e = .returned (.bool b') ∧ R w' := by
  subst e; exact h
theorem Later.drew {P : Program} {f : FuncId} {args : Array Value} {w : World} {x : Later w} {v : Value} (h : Calls P f args x.W fun e w' => e = .returned v ∧ ∃ n, w' = x.W.drewN n) :
    Calls P f args x.W fun e w'' => e = .returned v ∧ ∃ y : Later w, w'' = y.W :=
  h.mono fun _ w' ⟨he, n, hb⟩ => ⟨he, ⟨w', by rw [hb]; exact below_drewN x.hb n⟩, rfl⟩
end Go.Proofs.YtbfhfnejppfehaaGreat
