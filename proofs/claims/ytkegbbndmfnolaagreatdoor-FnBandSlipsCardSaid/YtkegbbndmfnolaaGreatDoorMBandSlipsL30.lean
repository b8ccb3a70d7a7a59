import Derived.Test.YtkegbbndmfnolaaGreatDoorMBandSlipsL29
import Derived.Test.YtkegbbndmfnolaaGreatDoorMBandSlipsL00
import Derived.Test.YtkegbbndmfnolaaGreatDoorRows
import Derived.Maps.Own
import Derived.Maps.OwnOps
import Derived.Maps.Keyed
import Derived.Maps.StringElems
import Derived.Test.YtkegbbndmfnolaaGreatDoorMBandSlipsL25
import Derived.Test.YtkegbbndmfnolaaGreatDoorMBandSlipsL03
/-
  The drawn bands of the laws.
-/
namespace Go.Proofs.YtkegbbndmfnolaaGreatDoor
open Go.RowKit
set_option linter.unusedVariables false
set_option linter.unusedSimpArgs false
set_option maxRecDepth 100000



/-- A drawn band as a result: it stays where blocks from lo on stay. -/
def BdDrawn (w : World) (e : Ending) (w' : World) : Prop := ∃ b : Bnd, e = .returned (.agg #[.string b.m.name, .int .i64 b.m.stage, .slice b.m.A b.m.x.length b.m.c, .string b.bob, .string b.sing, .int .i64 b.step, .string b.call, .string b.tru, .slice b.RA b.rx.length b.rc]) ∧ (∀ W', Chg 0 w.heap.size w' W' → b.Ok W') ∧ Below w.heap.size w w'

set_option maxHeartbeats 1600000 in
theorem drawGoodBand_any (A : Option Addr) (c : Nat) (l : List Int) (w : World) (h : RdL w w.heap.size A 1 encByte l) (hb : ∀ x ∈ l, 0 ≤ x ∧ x < 256) (hl : l.length ≤ 9223372036854775807) (htab : Tab w) : Calls Tryz.prog 80 #[.slice A l.length c] w fun e w' => BdDrawn w e w' := by
  obtain ⟨W0, hWe, hWs, hWb, hZ, HC0⟩ : ∃ W0 : World, Hid (((w.alloc (.cells #[Value.string ⟨#[]⟩, .int .i64 0, .slice none 0 0, .string ⟨#[]⟩, .string ⟨#[]⟩, .int .i64 0, .string ⟨#[]⟩, .string ⟨#[]⟩, .slice none 0 0] 36)).alloc (.cells #[.slice A l.length c, .int .i64 0, .int .u64 0] 84)) = W0) ∧ Hid (W0.heap.size = w.heap.size + 2) ∧ Hid (Below w.heap.size w W0) ∧ Hid (Cells W0 w.heap.size 9 (fun i => (#[Value.string ⟨#[]⟩, .int .i64 0, .slice none 0 0, .string ⟨#[]⟩, .string ⟨#[]⟩, .int .i64 0, .string ⟨#[]⟩, .string ⟨#[]⟩, .slice none 0 0] : Array Value).getD i undef)) ∧ Hid (Cur W0 (w.heap.size + 1) 0) := by
    have z1 : (w.alloc (.cells #[Value.string ⟨#[]⟩, .int .i64 0, .slice none 0 0, .string ⟨#[]⟩, .string ⟨#[]⟩, .int .i64 0, .string ⟨#[]⟩, .string ⟨#[]⟩, .slice none 0 0] 36)).heap.size = w.heap.size + 1 := by simp
    have hB1 : Below w.heap.size w (w.alloc (.cells #[Value.string ⟨#[]⟩, .int .i64 0, .slice none 0 0, .string ⟨#[]⟩, .string ⟨#[]⟩, .int .i64 0, .string ⟨#[]⟩, .string ⟨#[]⟩, .slice none 0 0] 36)) := (Below.refl _ _).alloc (Nat.le_refl _) _
    refine ⟨_, Lib.hid rfl, Lib.hid (by simp), Lib.hid (hB1.alloc (by simp) _), Lib.hid ((Cells.newD _ #[Value.string ⟨#[]⟩, .int .i64 0, .slice none 0 0, .string ⟨#[]⟩, .string ⟨#[]⟩, .int .i64 0, .string ⟨#[]⟩, .string ⟨#[]⟩, .slice none 0 0] _).alloc _), Lib.hid ?_⟩
    have := Cur.new (c := c) ((h.below hB1 (Nat.le_refl _)).more hB1.size) hb hl 84
    rw [z1] at this
    exact this
  have hWs1 : w.heap.size + 2 = W0.heap.size := hWs.out.symm
  have HB := Lib.hid (anyBand_any (w.heap.size + 1) 0 w W0 HC0.out (by omega) htab hWb.out (by omega))
  clear h hb htab
  go_enter Tryz.func80, Tryz.ntmps80
  go_upto_region 2 with fail
  rw [hWe.out]
  clear hWe
  go_wp2_with (first | (go_at_call 75; refine HB.out.mono ?_; rintro e w1 ⟨b, rfl, hrob, hc1, ht1⟩; have HRob := Lib.hid hrob; have HT1 := Lib.hid ht1; have hz1 := ht1.size; have hZ1 := hZ.out.turn ht1 (.inl (by omega)); have p0 := (hZ1).cell (i := 0) (by omega); have p1 := (hZ1).cell (i := 1) (by omega); have p2 := (hZ1).cell (i := 2) (by omega); have p3 := (hZ1).cell (i := 3) (by omega); have p4 := (hZ1).cell (i := 4) (by omega); have p5 := (hZ1).cell (i := 5) (by omega); have p6 := (hZ1).cell (i := 6) (by omega); have p7 := (hZ1).cell (i := 7) (by omega); have p8 := (hZ1).cell (i := 8) (by omega); have f0 := (hZ1).free (i := 0) (by omega); have f1 := (hZ1).free (i := 1) (by omega); have f2 := (hZ1).free (i := 2) (by omega); have f3 := (hZ1).free (i := 3) (by omega); have f4 := (hZ1).free (i := 4) (by omega); have f5 := (hZ1).free (i := 5) (by omega); have f6 := (hZ1).free (i := 6) (by omega); have f7 := (hZ1).free (i := 7) (by omega); have f8 := (hZ1).free (i := 8) (by omega); clear hrob hc1 ht1 hZ1))
  refine bodyPost_ret (v := .agg #[.string b.m.name, .int .i64 b.m.stage, .slice b.m.A b.m.x.length b.m.c, .string b.bob, .string b.sing, .int .i64 b.step, .string b.call, .string b.tru, .slice b.RA b.rx.length b.rc]) (by simp [results, Tryz.results80, go_sem, p0, p1, p2, p3, p4, p5, p6, p7, p8, f0, f1, f2, f3, f4, f5, f6, f7, f8]) rfl ?_
  have kk : Chg w.heap.size (w.heap.size + 1) w1 (setN w1 w.heap.size 0 [Value.string b.m.name, .int .i64 b.m.stage, .slice b.m.A b.m.x.length b.m.c, .string b.bob, .string b.sing, .int .i64 b.step, .string b.call, .string b.tru, .slice b.RA b.rx.length b.rc]) := Chg.setN (Nat.le_refl _) (Nat.lt_succ_self _) _ (Chg.refl _ _ w1)
  exact ⟨b, rfl, fun W' kW => HRob.out W' ((kk.mono (Nat.zero_le _) (by omega)).trans (kW.mono (Nat.le_refl _) (by omega))), Below.chg (Below.chg hWb.out HT1.out (by omega) (by omega)) kk (Nat.le_refl _) (by omega)⟩

set_option maxHeartbeats 1600000 in
theorem drawPutRight_any (A : Option Addr) (c : Nat) (l : List Int) (w : World) (h : RdL w w.heap.size A 1 encByte l) (hb : ∀ x ∈ l, 0 ≤ x ∧ x < 256) (hl : l.length ≤ 9223372036854775807) (htab : Tab w) : Calls Tryz.prog 39 #[.slice A l.length c] w fun e w' => BdDrawn w e w' := by
  obtain ⟨W0, hWe, hWs, hWb, hZ⟩ : ∃ W0 : World, Hid (w.alloc (.cells #[Value.string ⟨#[]⟩, .int .i64 0, .slice none 0 0, .string ⟨#[]⟩, .string ⟨#[]⟩, .int .i64 0, .string ⟨#[]⟩, .string ⟨#[]⟩, .slice none 0 0] 36) = W0) ∧ Hid (W0.heap.size = w.heap.size + 1) ∧ Hid (Below w.heap.size w W0) ∧ Hid (Cells W0 w.heap.size 9 (fun i => (#[Value.string ⟨#[]⟩, .int .i64 0, .slice none 0 0, .string ⟨#[]⟩, .string ⟨#[]⟩, .int .i64 0, .string ⟨#[]⟩, .string ⟨#[]⟩, .slice none 0 0] : Array Value).getD i undef)) :=
    ⟨_, Lib.hid rfl, Lib.hid (by simp), Lib.hid ((Below.refl _ _).alloc (Nat.le_refl _) _), Lib.hid (Cells.newD _ #[Value.string ⟨#[]⟩, .int .i64 0, .slice none 0 0, .string ⟨#[]⟩, .string ⟨#[]⟩, .int .i64 0, .string ⟨#[]⟩, .string ⟨#[]⟩, .slice none 0 0] _)⟩
  have hWs1 : w.heap.size + 1 = W0.heap.size := hWs.out.symm
  have HB := Lib.hid (drawGoodBand_any A c l W0 ((h.below hWb.out (Nat.le_refl _)).more hWb.out.size) hb hl (htab.later hWb.out))
  clear h hb htab
  go_enter Tryz.func39, Tryz.ntmps39
  go_upto_region 1 with fail
  rw [hWe.out]
  clear hWe
  go_wp2_with (first | (go_at_call 80; refine HB.out.mono ?_; rintro e w1 ⟨b, rfl, hrob, hb1⟩; have HRob := Lib.hid hrob; have HB1 := Lib.hid hb1; have hz1 := hb1.size; have hZ1 := hZ.out.later hb1; have p0 := (hZ1).cell (i := 0) (by omega); have p1 := (hZ1).cell (i := 1) (by omega); have p2 := (hZ1).cell (i := 2) (by omega); have p3 := (hZ1).cell (i := 3) (by omega); have p4 := (hZ1).cell (i := 4) (by omega); have p5 := (hZ1).cell (i := 5) (by omega); have p6 := (hZ1).cell (i := 6) (by omega); have p7 := (hZ1).cell (i := 7) (by omega); have p8 := (hZ1).cell (i := 8) (by omega); have f0 := (hZ1).free (i := 0) (by omega); have f1 := (hZ1).free (i := 1) (by omega); have f2 := (hZ1).free (i := 2) (by omega); have f3 := (hZ1).free (i := 3) (by omega); have f4 := (hZ1).free (i := 4) (by omega); have f5 := (hZ1).free (i := 5) (by omega); have f6 := (hZ1).free (i := 6) (by omega); have f7 := (hZ1).free (i := 7) (by omega); have f8 := (hZ1).free (i := 8) (by omega); clear hrob hb1 hZ1))
  refine bodyPost_ret (v := .agg #[.string b.m.name, .int .i64 b.m.stage, .slice b.m.A b.m.x.length b.m.c, .string b.bob, .string b.sing, .int .i64 b.step, .string b.call, .string b.tru, .slice b.RA b.rx.length b.rc]) (by simp [results, Tryz.results39, go_sem, p0, p1, p2, p3, p4, p5, p6, p7, p8, f0, f1, f2, f3, f4, f5, f6, f7, f8]) rfl ?_
  have kk : Chg w.heap.size (w.heap.size + 1) w1 (setN w1 w.heap.size 0 [Value.string b.m.name, .int .i64 b.m.stage, .slice b.m.A b.m.x.length b.m.c, .string b.bob, .string b.sing, .int .i64 b.step, .string b.call, .string b.tru, .slice b.RA b.rx.length b.rc]) := Chg.setN (Nat.le_refl _) (Nat.lt_succ_self _) _ (Chg.refl _ _ w1)
  exact ⟨b, rfl, fun W' kW => HRob.out W' ((kk.mono (Nat.zero_le _) (by omega)).trans (kW.mono (Nat.le_refl _) (by omega))), Below.chg (hWb.out.trans (HB1.out.mono (by omega))) kk (Nat.le_refl _) (by omega)⟩
set_option maxHeartbeats 1600000 in
theorem drawRowOfBand_any (A : Option Addr) (c : Nat) (l : List Int) (w : World) (h : RdL w w.heap.size A 1 encByte l) (hb : ∀ x ∈ l, 0 ≤ x ∧ x < 256) (hl : l.length ≤ 9223372036854775807) (htab : Tab w) : Calls Tryz.prog 49 #[.slice A l.length c] w fun e w' => BdDrawn w e w' := by
  obtain ⟨W0, hWe, hWs, hWb, hZ⟩ : ∃ W0 : World, Hid (w.alloc (.cells #[Value.string ⟨#[]⟩, .int .i64 0, .slice none 0 0, .string ⟨#[]⟩, .string ⟨#[]⟩, .int .i64 0, .string ⟨#[]⟩, .string ⟨#[]⟩, .slice none 0 0] 36) = W0) ∧ Hid (W0.heap.size = w.heap.size + 1) ∧ Hid (Below w.heap.size w W0) ∧ Hid (Cells W0 w.heap.size 9 (fun i => (#[Value.string ⟨#[]⟩, .int .i64 0, .slice none 0 0, .string ⟨#[]⟩, .string ⟨#[]⟩, .int .i64 0, .string ⟨#[]⟩, .string ⟨#[]⟩, .slice none 0 0] : Array Value).getD i undef)) :=
    ⟨_, Lib.hid rfl, Lib.hid (by simp), Lib.hid ((Below.refl _ _).alloc (Nat.le_refl _) _), Lib.hid (Cells.newD _ #[Value.string ⟨#[]⟩, .int .i64 0, .slice none 0 0, .string ⟨#[]⟩, .string ⟨#[]⟩, .int .i64 0, .string ⟨#[]⟩, .string ⟨#[]⟩, .slice none 0 0] _)⟩
  have hWs1 : w.heap.size + 1 = W0.heap.size := hWs.out.symm
  have HB := Lib.hid (drawGoodBand_any A c l W0 ((h.below hWb.out (Nat.le_refl _)).more hWb.out.size) hb hl (htab.later hWb.out))
  clear h hb htab
  go_enter Tryz.func49, Tryz.ntmps49
  go_upto_region 1 with fail
  rw [hWe.out]
  clear hWe
  go_wp2_with (first | (go_at_call 80; refine HB.out.mono ?_; rintro e w1 ⟨b, rfl, hrob, hb1⟩; have HRob := Lib.hid hrob; have HB1 := Lib.hid hb1; have hz1 := hb1.size; have hZ1 := hZ.out.later hb1; have p0 := (hZ1).cell (i := 0) (by omega); have p1 := (hZ1).cell (i := 1) (by omega); have p2 := (hZ1).cell (i := 2) (by omega); have p3 := (hZ1).cell (i := 3) (by omega); have p4 := (hZ1).cell (i := 4) (by omega); have p5 := (hZ1).cell (i := 5) (by omega); have p6 := (hZ1).cell (i := 6) (by omega); have p7 := (hZ1).cell (i := 7) (by omega); have p8 := (hZ1).cell (i := 8) (by omega); have f0 := (hZ1).free (i := 0) (by omega); have f1 := (hZ1).free (i := 1) (by omega); have f2 := (hZ1).free (i := 2) (by omega); have f3 := (hZ1).free (i := 3) (by omega); have f4 := (hZ1).free (i := 4) (by omega); have f5 := (hZ1).free (i := 5) (by omega); have f6 := (hZ1).free (i := 6) (by omega); have f7 := (hZ1).free (i := 7) (by omega); have f8 := (hZ1).free (i := 8) (by omega); clear hrob hb1 hZ1))
  refine bodyPost_ret (v := .agg #[.string b.m.name, .int .i64 b.m.stage, .slice b.m.A b.m.x.length b.m.c, .string b.bob, .string b.sing, .int .i64 b.step, .string b.call, .string b.tru, .slice b.RA b.rx.length b.rc]) (by simp [results, Tryz.results49, go_sem, p0, p1, p2, p3, p4, p5, p6, p7, p8, f0, f1, f2, f3, f4, f5, f6, f7, f8]) rfl ?_
  have kk : Chg w.heap.size (w.heap.size + 1) w1 (setN w1 w.heap.size 0 [Value.string b.m.name, .int .i64 b.m.stage, .slice b.m.A b.m.x.length b.m.c, .string b.bob, .string b.sing, .int .i64 b.step, .string b.call, .string b.tru, .slice b.RA b.rx.length b.rc]) := Chg.setN (Nat.le_refl _) (Nat.lt_succ_self _) _ (Chg.refl _ _ w1)
  exact ⟨b, rfl, fun W' kW => HRob.out W' ((kk.mono (Nat.zero_le _) (by omega)).trans (kW.mono (Nat.le_refl _) (by omega))), Below.chg (hWb.out.trans (HB1.out.mono (by omega))) kk (Nat.le_refl _) (by omega)⟩
end Go.Proofs.YtkegbbndmfnolaaGreatDoor

/-
  A map of the call's own from letters to strings.
-/
namespace Go.Proofs.YtkegbbndmfnolaaGreatDoor
open Go.RowKit Go.Maps Go.ChangeMaps Go.MapKept
set_option linter.unusedVariables false
set_option linter.unusedSimpArgs false
set_option maxRecDepth 100000

theorem byte_keyed : Keyed Tryz.prog 5 := int_keyed Tryz.underlying5
theorem hmap_ty : Tryz.prog.underlying 149 = some (.map 5 9) := rfl
/-- Block g is the call's own map; what S tells is in it. -/
def HMap (w : World) (g n : Nat) (S : Int → Option ByteArray) : Prop :=
  ∃ D : DataW Unit, w.ownsMap Tryz.prog 5 (plainElem Tryz.prog 9) g n D ∧ IsMap D ∧ ∀ (v : Int) (s : ByteArray), S v = some s → D.atKey (.int .u8 v) (.lit (.string [])) = .lit (.string s.data.toList)
theorem HMap.made (w : World) : HMap (w.alloc (.map #[] 0)) w.heap.size 0 (fun _ => none) :=
  ⟨.map [], World.ownsMap_made w _ _ _, Maps.isMap_empty, fun v s h => by cases h⟩
theorem HMap.kept {w w' : World} {g n : Nat} {S : Int → Option ByteArray} (h : HMap w g n S) (hb : w'.heap[g]? = w.heap[g]?) : HMap w' g n S := by
  obtain ⟨D, ⟨es, clock, hb0, F, hs, hD⟩, hm, ha⟩ := h
  exact ⟨D, ⟨es, clock, hb.trans hb0, F, hs, hD⟩, hm, ha⟩
theorem HMap.lt {w : World} {g n : Nat} {S : Int → Option ByteArray} (h : HMap w g n S) : g < w.heap.size := by
  obtain ⟨D, hD, _⟩ := h; exact hD.lt
theorem HMap.later {w w' : World} {g n : Nat} {S : Int → Option ByteArray} (h : HMap w g n S) (hb : Below w.heap.size w w') : HMap w' g n S := h.kept (hb.block g h.lt)
theorem HMap.congr {w : World} {g n : Nat} {S S' : Int → Option ByteArray} (h : HMap w g n S) (e : ∀ v s, S' v = some s → S v = some s) : HMap w g n S' := by
  obtain ⟨D, hD, hm, ha⟩ := h
  exact ⟨D, hD, hm, fun v s hs => ha v s (e v s hs)⟩
theorem byte_key {v : Int} (h0 : 0 ≤ v) (h1 : v < 256) : keyOf Tryz.prog 5 (.int .u8 v) = some (.int .u8 v) :=
  keyOf_int_mk Tryz.underlying5 (by simp [Lit.wf, IntKind.min, IntKind.max, IntKind.signed, IntKind.bits]; omega)
/-- The store. -/
theorem HMap.put {w : World} {g n : Nat} {S : Int → Option ByteArray} (h : HMap w g n S) {v : Int} {s : ByteArray} (h0 : 0 ≤ v) (h1 : v < 256) (hn : n ≤ 1000000) (hs : s.size ≤ 1000000) :
    ∃ w', (Instr.mapUpdate 149 (.map (some g)) (.int .u8 v) (.string s)).run Tryz.prog w = .ok () w' ∧ HMap w' g (n + 1) (fun u => if u = v then some s else S u) ∧ w.grownBy w' (some g) := by
  obtain ⟨D, hD, him, ha⟩ := h
  obtain ⟨w', hrun, hown, hgr⟩ := hD.update byte_keyed hmap_ty (by unfold maxLen; omega) (byte_key h0 h1) (plainElem_string Tryz.underlying9 (s := s) (by unfold maxLen; omega))
  refine ⟨w', hrun, ⟨_, hown, him.put _ _, fun u t hu => ?_⟩, hgr⟩
  by_cases e : u = v
  · subst e
    simp only [if_true] at hu
    injection hu with hu
    subst hu
    exact Maps.atKey_put_same him (byte_keyed.key (byte_key h0 h1)) _ _
  · replace hu : S u = some t := by simpa [e] using hu
    rw [Maps.atKey_put_other (fun x => e (by injection x))]
    exact ha u t hu
end Go.Proofs.YtkegbbndmfnolaaGreatDoor

/-
  Contracts: the heads of a touch, whether it comes round (the program's side).
-/
namespace Go.Proofs.YtkegbbndmfnolaaGreatDoor
open Go.RowKit
set_option linter.unusedVariables false
set_option linter.unusedSimpArgs false
set_option maxRecDepth 100000

def callsOk (n : Nat) (x : List ByteArray) (b s : ByteArray) : Prop := ∀ call, chgOk (calledX x b s call)
/-- What is in the map where some of the stores are done. -/
def hdMap (L : Nat → Bool) (hp hb hs : ByteArray) : Int → Option ByteArray := fun v => if v = 112 ∧ L 4 = true then some hp else if v = 98 ∧ L 8 = true then some hb else if v = 115 ∧ L 12 = true then some hs else none
def hdCnt (L : Nat → Bool) : Nat := (if L 4 then 1 else 0) + (if L 8 then 1 else 0) + (if L 12 then 1 else 0)
def hdVal (nm : ByteArray) (n : Nat) (A : Option Addr) (len c : Nat) (b s hp hb hs : ByteArray) (g : Nat) : Nat → Value
  | 0 => .map (some g)
  | 1 => .agg #[Value.string nm, .int .i64 (n : Int), .slice A len c]
  | 2 => .agg #[Value.string b, .string s]
  | 3 => .string hp
  | 5 => .agg #[Value.string nm, .int .i64 (n : Int), .slice A len c]
  | 6 => .agg #[Value.string b, .string s]
  | 7 => .string hb
  | 9 => .agg #[Value.string nm, .int .i64 (n : Int), .slice A len c]
  | 10 => .agg #[Value.string b, .string s]
  | 11 => .string hs
  | 13 => .map (some g)
  | 14 => .map (some g)
  | _ => undef
def hdI (W : World) (hp hb hs : ByteArray) (g : Nat) (L : Nat → Bool) (w : World) : Prop :=
  Below W.heap.size W w ∧ (L 0 = true → W.heap.size ≤ g ∧ HMap w g (hdCnt L) (hdMap L hp hb hs)) ∧ (L 0 = false → L 4 = false ∧ L 8 = false ∧ L 12 = false ∧ L 13 = false ∧ L 14 = false)
theorem hdI.keep {W w w' : World} {hp hb hs : ByteArray} {g : Nat} {L : Nat → Bool} (h : hdI W hp hb hs g L w) {i : Nat} (hi : i ≠ 0 ∧ i ≠ 4 ∧ i ≠ 8 ∧ i ≠ 12) (h13 : (i = 13 ∨ i = 14) → L 0 = true) (hbw : Below w.heap.size w w') : hdI W hp hb hs g (onL L i) w' := by
  obtain ⟨h1, h2, h3⟩ := h
  have e0 : onL L i 0 = L 0 := onL_other L (fun e => hi.1 e.symm)
  have e4 : onL L i 4 = L 4 := onL_other L (fun e => hi.2.1 e.symm)
  have e8 : onL L i 8 = L 8 := onL_other L (fun e => hi.2.2.1 e.symm)
  have e12 : onL L i 12 = L 12 := onL_other L (fun e => hi.2.2.2 e.symm)
  refine ⟨h1.trans (hbw.mono h1.size), fun h0 => ?_, fun h0 => ?_⟩
  · rw [e0] at h0
    obtain ⟨h4, h5⟩ := h2 h0
    refine ⟨h4, ?_⟩
    have ec : hdCnt (onL L i) = hdCnt L := by unfold hdCnt; rw [e4, e8, e12]
    have em : hdMap (onL L i) hp hb hs = hdMap L hp hb hs := by unfold hdMap; rw [e4, e8, e12]
    rw [ec, em]
    exact h5.later hbw
  · rw [e0] at h0
    have n13 : ¬ (i = 13 ∨ i = 14) := fun e => by rw [h13 e] at h0; cases h0
    rw [e4, e8, e12, onL_other L (show 13 ≠ i by omega), onL_other L (show 14 ≠ i by omega)]; exact h3 h0
theorem hdI.put {W w w' : World} {hp hb hs v : ByteArray} {g : Nat} {L : Nat → Bool} {k : Int} (h : hdI W hp hb hs g L w) {i : Nat} (hL : L i = false) (h0 : L 0 = true)
    (hi : (i = 4 ∧ k = 112 ∧ v = hp) ∨ (i = 8 ∧ k = 98 ∧ v = hb) ∨ (i = 12 ∧ k = 115 ∧ v = hs)) (hm : HMap w' g (hdCnt L + 1) (fun u => if u = k then some v else hdMap L hp hb hs u)) (hgr : w.grownBy w' (some g)) : hdI W hp hb hs g (onL L i) w' := by
  obtain ⟨h1, h2, h3⟩ := h
  obtain ⟨h4, h5⟩ := h2 h0
  have i0 : i ≠ 0 := by rcases hi with h | h | h <;> omega
  have e0 : onL L i 0 = true := by rw [onL_other L (fun e => i0 e.symm)]; exact h0
  refine ⟨h1.grown hgr h1.size (fun k hk => by injection hk with hk; omega), fun _ => ⟨h4, ?_⟩, fun x => by rw [e0] at x; cases x⟩
  have ec : hdCnt (onL L i) = hdCnt L + 1 := by
    unfold hdCnt
    rcases hi with ⟨rfl, _⟩ | ⟨rfl, _⟩ | ⟨rfl, _⟩ <;> rw [hL] <;> simp [onL] <;> omega
  rw [ec]
  refine hm.congr fun u t hu => ?_
  unfold hdMap at hu ⊢
  rcases hi with ⟨rfl, rfl, rfl⟩ | ⟨rfl, rfl, rfl⟩ | ⟨rfl, rfl, rfl⟩ <;> simp only [onL] at hu <;> simp at hu ⊢ <;> (by_cases e1 : u = 112 <;> by_cases e2 : u = 98 <;> by_cases e3 : u = 115 <;> simp_all <;> omega)
theorem hdI.made {W w : World} {hp hb hs : ByteArray} {g : Nat} {L : Nat → Bool} (h : hdI W hp hb hs g L w) (h0 : L 0 = false) : hdI W hp hb hs w.heap.size (onL L 0) (w.alloc (.map #[] 0)) := by
  obtain ⟨h1, h2, h3⟩ := h
  obtain ⟨h4, h8, h12, _⟩ := h3 h0
  refine ⟨h1.alloc h1.size _, fun _ => ⟨h1.size, ?_⟩, fun x => by rw [onL_same] at x; cases x⟩
  have ec : hdCnt (onL L 0) = 0 := by unfold hdCnt; rw [onL_other L (by omega), onL_other L (by omega), onL_other L (by omega), h4, h8, h12]; rfl
  rw [ec]
  exact (HMap.made w).congr fun v s hv => by
    unfold hdMap at hv
    rw [onL_other L (by omega), onL_other L (by omega), onL_other L (by omega), h4, h8, h12] at hv
    simp at hv
end Go.Proofs.YtkegbbndmfnolaaGreatDoor

/-
  Contracts: a touch comes round, what is asked of a conductor (both sides).
-/
namespace Go.Proofs.YtkegbbndmfnolaaGreatDoor
open Go.RowKit
set_option linter.unusedVariables false
set_option linter.unusedSimpArgs false
set_option maxRecDepth 100000

structure Geo (m : Mth) (b s : ByteArray) (n : Nat) : Prop where
  st : m.stage = (n : Int)
  n3 : 3 ≤ n
  n8 : n ≤ 8
  l0 : 0 < m.x.length
  l40 : m.x.length ≤ 40
  xs : ∀ c ∈ m.x, c.size ≤ 1048576
  bs : b.size ≤ 1048576
  ss : s.size ≤ 1048576
  ok : callsOk n m.x b s
/-- What is asked of a method and calls in memory. -/
structure MkOk (m : Mth) (b s : ByteArray) (w : World) : Prop where
  rd : RdL w w.heap.size m.A 1 encString m.x
  nm : m.name.size ≤ 1048576
  xl : m.x.length ≤ 1048576
  xs : ∀ x ∈ m.x, String_small 1048576 x
  bs : b.size ≤ 1048576
  ss : s.size ≤ 1048576
  cp : m.x.length ≤ m.c
theorem MkOk.later {m : Mth} {b s : ByteArray} {w w' : World} (h : MkOk m b s w) (hb : Below w.heap.size w w') : MkOk m b s w' := ⟨(h.rd.below hb (Nat.le_refl _)).more hb.size, h.nm, h.xl, h.xs, h.bs, h.ss, h.cp⟩





def askP (m : Mth) (b s t : ByteArray) : Prop := callsP m b s ∧ touchP t
def condP (m : Mth) (b s : ByteArray) : Prop := callsP m b s ∧ 2 ≤ m.x.length
def isRoundP (m : Mth) (b s t : ByteArray) : Prop := askP m b s t ∧ roundP m.stage.toNat m.x b s t
end Go.Proofs.YtkegbbndmfnolaaGreatDoor

/-
  The drawn arguments of NewBand.
-/
namespace Go.Proofs.YtkegbbndmfnolaaGreatDoor
open Go.RowKit
set_option linter.unusedVariables false
set_option linter.unusedSimpArgs false
set_option maxRecDepth 100000





theorem Chg.drewH {b c : Nat} {a w : World} (h : Chg b c a w) : Chg b c a w.drew := ⟨h.os, h.tape, h.output, h.size, h.block⟩
/-- A drawn method and calls as a result. -/
def MkDrawn (w : World) (e : Ending) (w' : World) : Prop := ∃ (m : Mth) (b s : ByteArray), e = .returned (.tuple #[.agg #[.string m.name, .int .i64 m.stage, .slice m.A m.x.length m.c], .agg #[.string b, .string s]]) ∧ (∀ W', Chg 0 w.heap.size w' W' → MkOk m b s W') ∧ Below w.heap.size w w'


set_option maxHeartbeats 16000000 in
theorem drawNewBand_any (A : Option Addr) (c : Nat) (l : List Int) (w : World) (h : RdL w w.heap.size A 1 encByte l) (hb : ∀ x ∈ l, 0 ≤ x ∧ x < 256) (hl : l.length ≤ 9223372036854775807) : Calls Tryz.prog 46 #[.slice A l.length c] w fun e w' => MkDrawn w e w' := by
  obtain ⟨W0, hWe, hWs, hWb, hR, hQ, HC0⟩ : ∃ W0 : World, Hid ((((w.alloc (.cells #[Value.string ⟨#[]⟩, .int .i64 0, .slice none 0 0] 26)).alloc (.cells #[Value.string ⟨#[]⟩, .string ⟨#[]⟩] 28)).alloc (.cells #[.slice A l.length c, .int .i64 0, .int .u64 0] 84)) = W0) ∧ Hid (W0.heap.size = w.heap.size + 3) ∧ Hid (Below w.heap.size w W0) ∧ Hid (Cells W0 w.heap.size 3 (fun i => (#[Value.string ⟨#[]⟩, .int .i64 0, .slice none 0 0] : Array Value).getD i undef)) ∧ Hid (Cells W0 (w.heap.size + 1) 2 (fun i => (#[Value.string ⟨#[]⟩, .string ⟨#[]⟩] : Array Value).getD i undef)) ∧ Hid (Cur W0 (w.heap.size + 2) 0) := by
    have z1 : w.heap.size + 1 = (w.alloc (.cells #[Value.string ⟨#[]⟩, .int .i64 0, .slice none 0 0] 26)).heap.size := by simp
    have z2 : ((w.alloc (.cells #[Value.string ⟨#[]⟩, .int .i64 0, .slice none 0 0] 26)).alloc (.cells #[Value.string ⟨#[]⟩, .string ⟨#[]⟩] 28)).heap.size = w.heap.size + 2 := by simp
    have hB1 : Below w.heap.size w ((w.alloc (.cells #[Value.string ⟨#[]⟩, .int .i64 0, .slice none 0 0] 26)).alloc (.cells #[Value.string ⟨#[]⟩, .string ⟨#[]⟩] 28)) := ((Below.refl _ _).alloc (Nat.le_refl _) _).alloc (by simp) _
    refine ⟨_, Lib.hid rfl, Lib.hid (by simp), Lib.hid (hB1.alloc (by simp; omega) _), Lib.hid (((Cells.newD _ #[Value.string ⟨#[]⟩, .int .i64 0, .slice none 0 0] _).alloc _).alloc _), Lib.hid ?_, Lib.hid ?_⟩
    · rw [z1]; exact (Cells.newD _ #[Value.string ⟨#[]⟩, .string ⟨#[]⟩] _).alloc _
    · have := Cur.new (c := c) ((h.below hB1 (Nat.le_refl _)).more hB1.size) hb hl 84
      rw [z2] at this
      exact this
  have hWs1 : w.heap.size + 3 = W0.heap.size := hWs.out.symm
  obtain ⟨g, hg⟩ : ∃ g, Hid (w.heap.size + 2 = g) := ⟨_, Lib.hid rfl⟩
  have hge := hg.out
  rw [hg.out] at HC0
  clear h hb
  go_enter Tryz.func46, Tryz.ntmps46
  go_upto_region 2 with fail
  rw [hWe.out]
  (try rw [hg.out])
  clear hWe
  go_upto_region 3 with (first | (go_at_call 52; refine (called_any g 0 W0 HC0.out (by omega)).mono ?_; rintro e w1 ⟨nm, n, x, A, c, b, s, rfl, hok, hxc, hbb, hss, ho, hc, ht⟩; have HOK := Lib.hid hok; have Hb := Lib.hid hbb; have Hs := Lib.hid hss; have HO1 := Lib.hid ho; have HC1 := Lib.hid hc; have HT1 := Lib.hid ht; have hz1 := ht.size; clear hok hbb hss ho hc ht))
  obtain ⟨V, hVe, hVb, hM, hKc, hVs⟩ : ∃ V : World, Hid (((w1.alloc (.cells #[Value.string nm, .int .i64 n, .slice A x.length c] 26)).alloc (.cells #[.string b, .string s] 28)) = V) ∧ Hid (Below w1.heap.size w1 V) ∧ Hid (Cells V w1.heap.size 3 (fun i => (#[Value.string nm, .int .i64 n, .slice A x.length c] : Array Value).getD i undef)) ∧ Hid (Cells V (w1.heap.size + 1) 2 (fun i => (#[Value.string b, .string s] : Array Value).getD i undef)) ∧ w1.heap.size + 2 ≤ V.heap.size := by
    have z1 : w1.heap.size + 1 = (w1.alloc (.cells #[Value.string nm, .int .i64 n, .slice A x.length c] 26)).heap.size := by simp
    refine ⟨_, Lib.hid rfl, Lib.hid (((Below.refl _ _).alloc (Nat.le_refl _) _).alloc (by simp) _), Lib.hid ?_, Lib.hid ?_, by simp⟩
    · exact (Cells.newD _ #[Value.string nm, .int .i64 n, .slice A x.length c] _).alloc _
    · rw [z1]; exact Cells.newD _ #[.string b, .string s] _
  rw [hVe.out]
  clear hVe
  obtain ⟨bm, hbm⟩ : ∃ bm, Hid (w1.heap.size = bm) := ⟨_, Lib.hid rfl⟩
  rw [hbm.out] at hM hKc hVs ⊢
  have hbe := hbm.out
  have HCV := Lib.hid (HC1.out.later hVb.out)
  have HOV := Lib.hid (HO1.out.later hVb.out)
  have HRV := Lib.hid ((hR.out.turn HT1.out (.inl (by omega))).later hVb.out)
  have HQV := Lib.hid ((hQ.out.turn HT1.out (.inl (by omega))).later hVb.out)
  have hgm : g + 1 ≤ bm := by omega
  go_upto_region 4 with (first | (go_at_call 55; refine (one_any g 110 10 V (HCV.out.more (by omega)) (by omega) (by omega)).mono ?_; rintro e w2 ⟨b2, rfl, hc2, ht2⟩; have HC2 := Lib.hid hc2; have HT2 := Lib.hid ((HT1.out.then hVb.out).trans ht2); have HtV := Lib.hid ht2; have hz2 := ht2.size; clear hc2 ht2; cases b2))
  · have HO2 := Lib.hid (HOV.out.turn HtV.out (.inr (by omega)))
    have hM2 := hM.out.turn HtV.out (.inr hgm)
    have hK2 := hKc.out.turn HtV.out (.inr (by omega))
    have m0 := hM2.cell (i := 0) (by omega)
    have m1 := hM2.cell (i := 1) (by omega)
    have m2 := hM2.cell (i := 2) (by omega)
    have k0 := hK2.cell (i := 0) (by omega)
    have k1 := hK2.cell (i := 1) (by omega)
    have hRx := (HRV.out.turn HtV.out (.inl (by omega))); have hQx := (HQV.out.turn HtV.out (.inl (by omega))); have r0 := hRx.cell (i := 0) (by omega); have r1 := hRx.cell (i := 1) (by omega); have r2 := hRx.cell (i := 2) (by omega); have rf0 := hRx.free (i := 0) (by omega); have rf1 := hRx.free (i := 1) (by omega); have rf2 := hRx.free (i := 2) (by omega); have q0 := hQx.cell (i := 0) (by omega); have q1 := hQx.cell (i := 1) (by omega); have qf0 := hQx.free (i := 0) (by omega); have qf1 := hQx.free (i := 1) (by omega); clear hRx hQx
    clear hM2 hK2
    go_region_law (first | fail)
    all_goals
      go_wp2
      refine bodyPost_ret (v := .tuple #[.agg #[Value.string nm, .int .i64 n, .slice A x.length c], .agg #[.string b, .string s]]) (by simp [results, Tryz.results46, go_sem, r0, r1, r2, rf0, rf1, rf2, q0, q1, qf0, qf1]) rfl ?_
      clear r0 r1 r2 rf0 rf1 rf2 q0 q1 qf0 qf1 m0 m1 m2 k0 k1
      have key : ∀ w9, Chg w.heap.size (w.heap.size + 2) w2 w9 → MkDrawn w (.returned (.tuple #[.agg #[Value.string nm, .int .i64 n, .slice A x.length c], .agg #[.string b, .string s]])) w9 := fun w9 kc => by
        refine ⟨⟨nm, n, x, A, c⟩, b, s, rfl, fun W' kW => ⟨((((HO2.out).chg kc (.inr (by omega))).chg kW (.inr (by omega))).rd encString_len), Nat.le_trans HOK.out.wd.2.2 (by omega), Nat.le_trans HOK.out.x9 (by omega), fun y hy => by have := (HOK.out.ch y hy).size; unfold String_small; omega, (by have := Hb.out.size; omega), by have := Hs.out.size; omega, hxc⟩, ?_⟩
        exact Below.chg (Below.chg hWb.out HT2.out (by omega) (by omega)) kc (Nat.le_refl _) (by omega)
      refine key _ ?_
      repeat (first | (with_reducible exact Chg.refl _ _ _) | (with_reducible refine Chg.setCell ?_ (by simp) (by simp) _) | (with_reducible refine Chg.drewH ?_))
  · go_upto_region 5 with (first | (go_at_call 54; refine (of_any g 112 w2.heap.size 3 3 _ (fun s => s.size ≤ 1) _ (HC2.out.later ((Below.refl _ _).alloc (Nat.le_refl _) _)) (by omega) (by omega) (by omega) (Cells.lit w2 _ _ 3 rfl) (by have := HC2.out.lt; omega) (by intro k hk; rcases k with _ | _ | _ | k <;> first | exact ⟨_, rfl, by decide⟩ | omega)).mono ?_; rintro e w3 ⟨s9, rfl, hs9, hc3, ht3⟩; have Hs9 := Lib.hid hs9; have ht3' := (Turn.of ((Below.refl _ _).alloc (Nat.le_refl _) _)).trans ht3; have HT3 := Lib.hid (HT2.out.trans ht3'); have HtW := Lib.hid (HtV.out.trans ht3'); have hz3 := ht3'.size; have hK3 := hKc.out.turn HtW.out (.inr (by omega)); have k0 := hK3.cell (i := 0) (by omega); have kf0 := hK3.free (i := 0) (by omega); clear hc3 ht3 ht3' hs9 hK3))
    obtain ⟨Q, hQe, hQk, hKQ⟩ : ∃ Q : World, Hid (w3.setCell ⟨bm + 1, 0, none⟩ (.string s9) = Q) ∧ Hid (Chg (bm + 1) (bm + 2) w3 Q) ∧ Hid (Cells Q (bm + 1) 2 (fun i => ([Value.string s9, .string s] : List Value).getD i undef)) := ⟨_, Lib.hid rfl, Lib.hid ((Chg.refl _ _ w3).setCell (p := ⟨bm + 1, 0, none⟩) (Nat.le_refl _) (Nat.lt_succ_self _) _), Lib.hid (((hKc.out.turn HtW.out (.inr (by omega))).set (i := 0) (by omega) (.string s9)).congr (fun i hi => by match i, hi with | 0, _ => rfl | 1, _ => rfl))⟩
    rw [hQe.out]
    clear hQe k0 kf0
    have hzQ := hQk.out.size
    have HOQ := Lib.hid ((HOV.out.turn HtW.out (.inr (by omega))).chg hQk.out (.inl (by omega)))
    have hMQ := (hM.out.turn HtW.out (.inr hgm)).chg hQk.out (.inl (by omega))
    have m0 := hMQ.cell (i := 0) (by omega)
    have m1 := hMQ.cell (i := 1) (by omega)
    have m2 := hMQ.cell (i := 2) (by omega)
    have k0 := hKQ.out.cell (i := 0) (by omega)
    have k1 := hKQ.out.cell (i := 1) (by omega)
    have hRx := ((HRV.out.turn HtW.out (.inl (by omega))).chg hQk.out (.inl (by omega))); have hQx := ((HQV.out.turn HtW.out (.inl (by omega))).chg hQk.out (.inl (by omega))); have r0 := hRx.cell (i := 0) (by omega); have r1 := hRx.cell (i := 1) (by omega); have r2 := hRx.cell (i := 2) (by omega); have rf0 := hRx.free (i := 0) (by omega); have rf1 := hRx.free (i := 1) (by omega); have rf2 := hRx.free (i := 2) (by omega); have q0 := hQx.cell (i := 0) (by omega); have q1 := hQx.cell (i := 1) (by omega); have qf0 := hQx.free (i := 0) (by omega); have qf1 := hQx.free (i := 1) (by omega); clear hRx hQx
    clear hMQ
    have HTQ : Hid (Chg w.heap.size Q.heap.size W0 Q) := Lib.hid ((HT3.out.mono (by omega) (by omega)).trans (hQk.out.mono (by omega) (by omega)))
    go_region_law (first | fail)
    all_goals
      go_wp2
      refine bodyPost_ret (v := .tuple #[.agg #[Value.string nm, .int .i64 n, .slice A x.length c], .agg #[.string s9, .string s]]) (by simp [results, Tryz.results46, go_sem, r0, r1, r2, rf0, rf1, rf2, q0, q1, qf0, qf1]) rfl ?_
      clear r0 r1 r2 rf0 rf1 rf2 q0 q1 qf0 qf1 m0 m1 m2 k0 k1
      have key : ∀ w9, Chg w.heap.size (w.heap.size + 2) Q w9 → MkDrawn w (.returned (.tuple #[.agg #[Value.string nm, .int .i64 n, .slice A x.length c], .agg #[.string s9, .string s]])) w9 := fun w9 kc => by
        refine ⟨⟨nm, n, x, A, c⟩, s9, s, rfl, fun W' kW => ⟨((((HOQ.out).chg kc (.inr (by omega))).chg kW (.inr (by omega))).rd encString_len), Nat.le_trans HOK.out.wd.2.2 (by omega), Nat.le_trans HOK.out.x9 (by omega), fun y hy => by have := (HOK.out.ch y hy).size; unfold String_small; omega, (by have := Hs9.out; omega), by have := Hs.out.size; omega, hxc⟩, ?_⟩
        exact Below.chg (Below.chg hWb.out (HTQ.out) (by omega) (by omega)) kc (Nat.le_refl _) (by omega)
      refine key _ ?_
      repeat (first | (with_reducible exact Chg.refl _ _ _) | (with_reducible refine Chg.setCell ?_ (by simp) (by simp) _) | (with_reducible refine Chg.drewH ?_))
end Go.Proofs.YtkegbbndmfnolaaGreatDoor
