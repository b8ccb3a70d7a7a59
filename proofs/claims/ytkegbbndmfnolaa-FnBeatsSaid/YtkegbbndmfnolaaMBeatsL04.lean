import Derived.Test.YtkegbbndmfnolaaRows
import Derived.Test.YtkegbbndmfnolaaMBeatsL00
import Derived.Maps.Own
import Derived.Maps.Views
import Derived.Maps.OwnOps
import Derived.DeepKeys4
import Derived.Carry
import Derived.Test.YtkegbbndmfnolaaMBeatsL01
import Derived.Test.YtkegbbndmfnolaaMBeatsL02
import Derived.StillTailTactics
import Derived.Deep.RegionHeld3
/-
  A set of pairs of integers that the call keeps as a map to true: in plain words, with the laws of a look-up and of a store.
-/
namespace Go.Proofs.Ytkegbbndmfnolaa
open Go.RowKit
open Go.Maps (Keyed IsMap)
set_option linter.unusedVariables false
set_option linter.unusedSimpArgs false
set_option maxRecDepth 100000

def inI64 (n : Int) : Prop := -9223372036854775808 ≤ n ∧ n ≤ 9223372036854775807
def pairV (r p : Int) : Value := .agg #[.int .i64 r, .int .i64 p]
theorem pair_keyed : Keyed Try.prog 92 := Keyed.of_law (deep_law_laid (by kernel_rfl) (m := 2) (by omega) (of_decide_eq_true (by kernel_rfl)) (by kernel_rfl) (by kernel_rfl))
theorem pair_ty : Try.prog.underlying 92 = some (.array 2 3) := rfl
theorem pairmap_ty : Try.prog.underlying 91 = some (.map 92 4) := rfl
theorem pair_lit (r p : Int) (hr : inI64 r) (hp : inI64 p) : ∃ l, keyOf Try.prog 92 (pairV r p) = some l := by
  have hkt : Try.prog.keyType 92 = true := by kernel_rfl
  have hc2 : Try.prog.cellsOf 92 = 2 := by kernel_rfl
  have hc1 : Try.prog.cellsOf 3 = 1 := by kernel_rfl
  have hf : (pairV r p).formed Try.prog 92 = true := by
    unfold pairV Value.formed
    rw [pair_ty, hc2]
    rfl
  obtain ⟨d, hd⟩ : ∃ d, Try.prog.types.size + 1 = d + 1 + 1 := ⟨Try.prog.types.size - 1, by
    have : 0 < Try.prog.types.size := of_decide_eq_true (by kernel_rfl)
    omega⟩
  have hi : ∀ n : Int, inI64 n → (Lit.int .i64 n).wf = true := fun n hn => by
    unfold inI64 at hn
    simp [Lit.wf, IntKind.min, IntKind.max, IntKind.signed, IntKind.bits]
    omega
  have hI : Try.prog.underlying 3 = some (.int .i64) := rfl
  have hone : ∀ n : Int, inI64 n → Try.prog.keyLits (d + 1) 3 [.int .i64 n] = some [.int .i64 n] := fun n hn => by
    unfold Program.keyLits
    rw [hI]
    simp [hi n hn]
  have hlits : Try.prog.keyLits (Try.prog.types.size + 1) 92 (pairV r p).cells.toList = some [.int .i64 r, .int .i64 p] := by
    rw [hd]
    unfold Program.keyLits
    rw [pair_ty]
    simp only [pairV, Value.cells, hc2, hc1]
    simp [List.range_succ, hone r hr, hone p hp]
  unfold keyOf
  rw [pair_ty]
  simp only [hkt, hf, hlits]
  exact ⟨_, rfl⟩
theorem pair_inj {r p r' p' : Int} (h : pairV r p = pairV r' p') : r = r' ∧ p = p' := by
  unfold pairV at h
  simp only [Value.agg.injEq] at h
  have h1 := congrArg (fun a : Array Value => a[0]?) h
  have h2 := congrArg (fun a : Array Value => a[1]?) h
  simp at h1 h2
  exact ⟨h1, h2⟩
/-- Block g is the call's own map of at most n entries; the pairs in S are in it. -/
def Sees (w : World) (g n : Nat) (S : Int → Int → Prop) : Prop :=
  ∃ D : DataW Unit, w.ownsMap Try.prog 92 (plainElem Try.prog 4) g n D ∧ IsMap D ∧ ∀ (r p : Int) (l : Lit), keyOf Try.prog 92 (pairV r p) = some l → D.atKey l (.lit (.bool false)) = .lit (.bool (B (S r p)))
theorem Sees.made (w : World) : Sees (w.alloc (.map #[] 0)) w.heap.size 0 (fun _ _ => False) :=
  ⟨.map [], World.ownsMap_made w _ _ _, Maps.isMap_empty, fun r p l _ => by simp [DataW.atKey]⟩
theorem Sees.kept {w w' : World} {g n : Nat} {S : Int → Int → Prop} (h : Sees w g n S) (hb : w'.heap[g]? = w.heap[g]?) : Sees w' g n S := by
  obtain ⟨D, ⟨es, clock, hb0, F, hs, hD⟩, hm, ha⟩ := h
  exact ⟨D, ⟨es, clock, hb.trans hb0, F, hs, hD⟩, hm, ha⟩
theorem Sees.lt {w : World} {g n : Nat} {S : Int → Int → Prop} (h : Sees w g n S) : g < w.heap.size := by
  obtain ⟨D, hD, _⟩ := h; exact hD.lt
theorem Sees.later {w w' : World} {g n : Nat} {S : Int → Int → Prop} (h : Sees w g n S) (hb : Below w.heap.size w w') : Sees w' g n S := h.kept (hb.block g h.lt)
/-- The look-up. -/
theorem Sees.look {w : World} {g n : Nat} {S : Int → Int → Prop} (h : Sees w g n S) (r p : Int) (hr : inI64 r) (hp : inI64 p) :
    (Instr.lookup 91 (.map (some g)) (.agg #[.int .i64 r, .int .i64 p]) false).run Try.prog w = .ok (.bool (B (S r p))) w := by
  obtain ⟨D, hD, _, ha⟩ := h
  obtain ⟨l, hl⟩ := pair_lit r p hr hp
  have hz : (zeroValue 4).run Try.prog w = .ok (.bool false) w := by kernel_rfl
  obtain ⟨v, ps, hrun, hv⟩ := hD.lookup pair_keyed pairmap_ty hz (plainElem_bool rfl false) hl
  rw [ha r p l hl] at hv
  have : v = .bool (B (S r p)) := by
    unfold plainElem at hv
    rw [show Try.prog.underlying 4 = some .bool from rfl] at hv
    cases v <;> simp at hv
    rw [hv.1]
  rw [← this]
  exact hrun
section
variable {ops : Array Oper} {rest : List Oper} {o : Oper} {a : Act} {Q : Exit → Act → World → Prop} {w : World}
/-- The store of true. -/
theorem wpList_see (hg : o.guard = none) (m x v : Operand) (hop : o.op = Op.mapUpdate 91 m x v) (g n : Nat) (S : Int → Int → Prop) (r p : Int) (hr : inI64 r) (hp : inI64 p)
    (hm : a.eval m = .map (some g)) (h : Sees w g n S) (hn : n ≤ 1000000) (hx : a.eval x = .agg #[.int .i64 r, .int .i64 p]) (hv : a.eval v = .bool true)
    (hK : ∀ w', Sees w' g (n + 1) (fun r' p' => S r' p' ∨ (r' = r ∧ p' = p)) → w.grownBy w' (some g) → wpList Try.prog ops Q rest (a.put o.dst undef) w') : wpList Try.prog ops Q (o :: rest) a w := by
  obtain ⟨D, hD, him, ha⟩ := h
  obtain ⟨l, hl⟩ := pair_lit r p hr hp
  refine wpList_mapUpdate_own w hg m x v _ hop _ _ pair_keyed pairmap_ty _ g n D hm hD (by unfold maxLen; omega) _ _ l hx hv hl _ _ (plainElem_bool rfl true) ?_
  intro w' hown hgrow
  refine hK w' ⟨_, hown, him.put _ _, fun r' p' l' hl' => ?_⟩ hgrow
  by_cases e : l' = l
  · subst e
    obtain ⟨e1, e2⟩ := pair_inj (pair_keyed.inj hl' hl)
    rw [Maps.atKey_put_same him (pair_keyed.key hl), B_t (.inr ⟨e1, e2⟩)]
  · rw [Maps.atKey_put_other e, ha r' p' l' hl']
    rw [B_iff (p := S r' p') (q := S r' p' ∨ (r' = r ∧ p' = p)) ⟨.inl, fun h => h.resolve_right (fun ⟨e1, e2⟩ => by
      subst e1 e2
      rw [hl] at hl'
      exact e (Option.some.inj hl').symm)⟩]
end
end Go.Proofs.Ytkegbbndmfnolaa

/-
  Contracts of the helper functions that the laws use for lists of Blow.
-/
namespace Go.Proofs.Ytkegbbndmfnolaa
open Go.RowKit Go.ChangeShapes Go.WideShapes
set_option linter.unusedVariables false
set_option linter.unusedSimpArgs false
set_option maxRecDepth 100000


structure Blw where
  row : Int
  place : Int
  at_ : Int

def Blw.enc (x : Blw) : List Value := [.int .i64 x.row, .int .i64 x.place, .int .i64 x.at_]
theorem Blw_enc_len (x : Blw) : (Blw.enc x).length = 3 := rfl
def Blow_small (lim : Int) (x : Blw) : Prop := True
theorem Blow_info : (Try.prog.info? 53).map (fun i => (i.zero, i.size, i.bytes)) = some (some (.agg #[.int .i64 0, .int .i64 0, .int .i64 0]), 3, 24) := by kernel_rfl

/-- What the marks make of a list of so many elements. -/
def markBlowL (m q : Nat) : List Blw := (List.range m).map fun i : Nat => (⟨((q + i * 3 : Nat) : Int), ((q + i * 3 + 1 : Nat) : Int), ((q + i * 3 + 2 : Nat) : Int)⟩ : Blw)
end Go.Proofs.Ytkegbbndmfnolaa