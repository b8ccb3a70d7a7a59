/-
  A map of the call's own from letters to strings.
-/
import Derived.Test.YtdecjijldcbnjaaBase
import Derived.Test.YtdecjijldcbnjaaRows
import Derived.Maps.Own
import Derived.Maps.OwnOps
import Derived.Maps.Keyed
import Derived.Maps.StringElems
namespace Go.Proofs.Ytdecjijldcbnjaa
open Go.RowKit Go.Maps Go.ChangeMaps Go.MapKept
set_option linter.unusedVariables false
set_option linter.unusedSimpArgs false
set_option maxRecDepth 100000

theorem byte_keyed : Keyed Try.prog 5 := int_keyed Try.underlying5
theorem hmap_ty : Try.prog.underlying 256 = some (.map 5 9) := rfl
/-- Block g is the call's own map; what S tells is in it. -/
def HMap (w : World) (g n : Nat) (S : Int → Option ByteArray) : Prop :=
  ∃ D : DataW Unit, w.ownsMap Try.prog 5 (plainElem Try.prog 9) g n D ∧ IsMap D ∧ ∀ (v : Int) (s : ByteArray), S v = some s → D.atKey (.int .u8 v) (.lit (.string [])) = .lit (.string s.data.toList)
theorem HMap.made (w : World) : HMap (w.alloc (.map #[] 0)) w.heap.size 0 (fun _ => none) :=
  ⟨.map [], World.ownsMap_made w _ _ _, Maps.isMap_empty, fun v s h => by cases h⟩
theorem HMap.kept {w w' : World} {g n : Nat} {S : Int → Option ByteArray} (h : HMap w g n S) (hb : w'.heap[g]? = w.heap[g]?) : HMap w' g n S := by
  obtain ⟨D, ⟨es, clock, hb0, F, hs, hD⟩, hm, ha⟩ := h
  exact ⟨D, ⟨es, clock, hb.trans hb0, F, hs, hD⟩, hm, ha⟩
theorem HMap.lt {w : World} {g n : Nat} {S : Int → Option ByteArray} (h : HMap w g n S) : g < w.heap.size := by
  obtain ⟨D, hD, _⟩ := h; exact hD.lt
theorem HMap.later {w w' : World} {g n : Nat} {S : Int → Option ByteArray} (h : HMap w g n S) (hb : Below w.heap.size w w') : HMap w' g n S := h.kept (hb.block g h.lt)
theorem HMap.congr {w : World} {g n : Nat} {S S' : Int → Option ByteArray} (h : HMap w g n S) (e : ∀ v s, S' v = some s → S v = some s) : HMap w g n S' := by
  obtain ⟨D, hD, hm, ha⟩ := h
  exact ⟨D, hD, hm, fun v s hs => ha v s (e v s hs)⟩
theorem bytes_inj {a b : ByteArray} (h : a.data.toList = b.data.toList) : a = b := by
  apply ByteArray.ext; exact Array.ext' h
theorem byte_key {v : Int} (h0 : 0 ≤ v) (h1 : v < 256) : keyOf Try.prog 5 (.int .u8 v) = some (.int .u8 v) :=
  keyOf_int_mk Try.underlying5 (by simp [Lit.wf, IntKind.min, IntKind.max, IntKind.signed, IntKind.bits]; omega)
/-- The look-up. -/
theorem HMap.look {w : World} {g n : Nat} {S : Int → Option ByteArray} (h : HMap w g n S) {v : Int} {s : ByteArray} (h0 : 0 ≤ v) (h1 : v < 256) (hs : S v = some s) :
    (Instr.lookup 256 (.map (some g)) (.int .u8 v) false).run Try.prog w = .ok (.string s) w := by
  obtain ⟨D, hD, _, ha⟩ := h
  have hz : (zeroValue 9).run Try.prog w = .ok (.string ⟨#[]⟩) w := by kernel_rfl
  obtain ⟨u, ps, hrun, hv⟩ := hD.lookup byte_keyed hmap_ty hz (plainElem_string Try.underlying9 (s := ⟨#[]⟩) (by show 0 ≤ maxLen; omega)) (byte_key h0 h1)
  obtain ⟨t, rfl, he, _⟩ := plainElem_string_inv Try.underlying9 hv
  have e2 := ha v s hs
  simp only [Prod.mk.injEq] at he
  rw [e2] at he
  have : t = s := bytes_inj (by simpa using he.1.symm)
  subst this
  exact hrun
/-- The store. -/
theorem HMap.put {w : World} {g n : Nat} {S : Int → Option ByteArray} (h : HMap w g n S) {v : Int} {s : ByteArray} (h0 : 0 ≤ v) (h1 : v < 256) (hn : n ≤ 1000000) (hs : s.size ≤ 1000000) :
    ∃ w', (Instr.mapUpdate 256 (.map (some g)) (.int .u8 v) (.string s)).run Try.prog w = .ok () w' ∧ HMap w' g (n + 1) (fun u => if u = v then some s else S u) ∧ w.grownBy w' (some g) := by
  obtain ⟨D, hD, him, ha⟩ := h
  obtain ⟨w', hrun, hown, hgr⟩ := hD.update byte_keyed hmap_ty (by unfold maxLen; omega) (byte_key h0 h1) (plainElem_string Try.underlying9 (s := s) (by unfold maxLen; omega))
  refine ⟨w', hrun, ⟨_, hown, him.put _ _, fun u t hu => ?_⟩, hgr⟩
  by_cases e : u = v
  · subst e
    simp only [if_true] at hu
    injection hu with hu
    subst hu
    exact Maps.atKey_put_same him (byte_keyed.key (byte_key h0 h1)) _ _
  · replace hu : S u = some t := by simpa [e] using hu
    rw [Maps.atKey_put_other (fun x => e (by injection x))]
    exact ha u t hu
end Go.Proofs.Ytdecjijldcbnjaa
