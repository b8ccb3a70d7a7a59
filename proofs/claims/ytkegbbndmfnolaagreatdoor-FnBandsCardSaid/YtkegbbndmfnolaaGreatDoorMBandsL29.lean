import Derived.Test.YtkegbbndmfnolaaGreatDoorMBandsL00
import Derived.Test.YtkegbbndmfnolaaGreatDoorRows
import Derived.Maps.Own
import Derived.Maps.OwnOps
import Derived.Maps.Keyed
import Derived.Maps.StringElems
import Derived.Test.YtkegbbndmfnolaaGreatDoorMBandsL25
import Derived.Test.YtkegbbndmfnolaaGreatDoorMBandsL03
import Derived.Test.YtkegbbndmfnolaaGreatDoorMBandsL28
/-
 A map of the call's own from letters to strings.
-/
namespace Go.Proofs.YtkegbbndmfnolaaGreatDoor
open Go.RowKit Go.Maps Go.ChangeMaps Go.MapKept
set_option linter.unusedVariables false
set_option linter.unusedSimpArgs false
set_option maxRecDepth 100000

theorem byte_keyed : Keyed Tryz.prog 5 := int_keyed Tryz.underlying5
theorem hmap_ty : Tryz.prog.underlying 149 = some (.map 5 9) := rfl
/-- Block g is the call's own map; what S tells is in it. -/
def HMap (w : World) (g n : Nat) (S : Int → Option ByteArray) : Prop :=
 ∃ D : DataW Unit, w.ownsMap Tryz.prog 5 (plainElem Tryz.prog 9) g n D ∧ IsMap D ∧ ∀ (v : Int) (s : ByteArray), S v = some s → D.atKey (.int .u8 v) (.lit (.string [])) = .lit (.string s.data.toList)
theorem HMap.made (w : World) : HMap (w.alloc (.map #[] 0)) w.heap.size 0 (fun _ => none) :=
 ⟨.map [], World.ownsMap_made w _ _ _, Maps.isMap_empty, fun v s h => by cases h⟩
theorem HMap.kept {w w' : World} {g n : Nat} {S : Int → Option ByteArray} (h : HMap w g n S) (hb : w'.heap[g]? = w.heap[g]?) : HMap w' g n S := by
 obtain ⟨D, ⟨es, clock, hb0, F, hs, hD⟩, hm, ha⟩ := h
 exact ⟨D, ⟨es, clock, hb.trans hb0, F, hs, hD⟩, hm, ha⟩
theorem HMap.lt {w : World} {g n : Nat} {S : Int → Option ByteArray} (h : HMap w g n S) : g < w.heap.size := by
 obtain ⟨D, hD, _⟩ := h; exact hD.lt
theorem HMap.later {w w' : World} {g n : Nat} {S : Int → Option ByteArray} (h : HMap w g n S) (hb : Below w.heap.size w w') : HMap w' g n S := h.kept (hb.block g h.lt)
theorem HMap.congr {w : World} {g n : Nat} {S S' : Int → Option ByteArray} (h : HMap w g n S) (e : ∀ v s, S' v = some s → S v = some s) : HMap w g n S' := by
 obtain ⟨D, hD, hm, ha⟩ := h
 exact ⟨D, hD, hm, fun v s hs => ha v s (e v s hs)⟩
theorem bytes_inj {a b : ByteArray} (h : a.data.toList = b.data.toList) : a = b := by
 apply ByteArray.ext; exact Array.ext' h
theorem byte_key {v : Int} (h0 : 0 ≤ v) (h1 : v < 256) : keyOf Tryz.prog 5 (.int .u8 v) = some (.int .u8 v) :=
 keyOf_int_mk Tryz.underlying5 (by simp [Lit.wf, IntKind.min, IntKind.max, IntKind.signed, IntKind.bits]; omega)
/-- The look-up. -/
theorem HMap.look {w : World} {g n : Nat} {S : Int → Option ByteArray} (h : HMap w g n S) {v : Int} {s : ByteArray} (h0 : 0 ≤ v) (h1 : v < 256) (hs : S v = some s) :
  (Instr.lookup 149 (.map (some g)) (.int .u8 v) false).run Tryz.prog w = .ok (.string s) w := by
 obtain ⟨D, hD, _, ha⟩ := h
 have hz : (zeroValue 9).run Tryz.prog w = .ok (.string ⟨#[]⟩) w := by kernel_rfl
 obtain ⟨u, ps, hrun, hv⟩ := hD.lookup byte_keyed hmap_ty hz (plainElem_string Tryz.underlying9 (s := ⟨#[]⟩) (by show 0 ≤ maxLen; omega)) (byte_key h0 h1)
 obtain ⟨t, rfl, he, _⟩ := plainElem_string_inv Tryz.underlying9 hv
 have e2 := ha v s hs
 simp only [Prod.mk.injEq] at he
 rw [e2] at he
 have : t = s := bytes_inj (by simpa using he.1.symm)
 subst this
 exact hrun
/-- The store. -/
theorem HMap.put {w : World} {g n : Nat} {S : Int → Option ByteArray} (h : HMap w g n S) {v : Int} {s : ByteArray} (h0 : 0 ≤ v) (h1 : v < 256) (hn : n ≤ 1000000) (hs : s.size ≤ 1000000) :
  ∃ w', (Instr.mapUpdate 149 (.map (some g)) (.int .u8 v) (.string s)).run Tryz.prog w = .ok () w' ∧ HMap w' g (n + 1) (fun u => if u = v then some s else S u) ∧ w.grownBy w' (some g) := by
 obtain ⟨D, hD, him, ha⟩ := h
 obtain ⟨w', hrun, hown, hgr⟩ := hD.update byte_keyed hmap_ty (by unfold maxLen; omega) (byte_key h0 h1) (plainElem_string Tryz.underlying9 (s := s) (by unfold maxLen; omega))
 refine ⟨w', hrun, ⟨_, hown, him.put _ _, fun u t hu => ?_⟩, hgr⟩
 by_cases e : u = v
 ·subst e
  simp only [if_true] at hu
  injection hu with hu
  subst hu
  exact Maps.atKey_put_same him (byte_keyed.key (byte_key h0 h1)) _ _
 ·replace hu : S u = some t := by simpa [e] using hu
  rw [Maps.atKey_put_other (fun x => e (by injection x))]
  exact ha u t hu
end Go.Proofs.YtkegbbndmfnolaaGreatDoor

/-
 Contracts: the heads of a touch, whether it comes round (the program's side).
-/
namespace Go.Proofs.YtkegbbndmfnolaaGreatDoor
open Go.RowKit
set_option linter.unusedVariables false
set_option linter.unusedSimpArgs false
set_option maxRecDepth 100000

def callsOk (n : Nat) (x : List ByteArray) (b s : ByteArray) : Prop := ∀ call, chgOk (calledX x b s call)
theorem callsOk_of {n : Int} {x : List ByteArray} {b s : ByteArray} (h : ∀ (i : Nat) (hi : i < x.length), changeP n x[i]) (hb : changeP n b) (hs : changeP n s) (m : Nat) : callsOk m x b s := fun call => by
 refine chgOk_of (n := n) fun i hi => ?_
 have key : ∀ (v : ByteArray), changeP n v → ∀ (i : Nat) (hi : i < (x.set (x.length - 1) v).length), changeP n (x.set (x.length - 1) v)[i] := fun v hv i hi => by
  rw [List.getElem_set]
  split
  ·exact hv
  ·exact h i _
 unfold calledX
 split
 ·exact key b hb i _
 ·split
  ·exact key s hs i _
  ·exact h i _





/-- What is in the map where some of the stores are done. -/
def hdMap (L : Nat → Bool) (hp hb hs : ByteArray) : Int → Option ByteArray := fun v => if v = 112 ∧ L 4 = true then some hp else if v = 98 ∧ L 8 = true then some hb else if v = 115 ∧ L 12 = true then some hs else none
def hdCnt (L : Nat → Bool) : Nat := (if L 4 then 1 else 0) + (if L 8 then 1 else 0) + (if L 12 then 1 else 0)
def hdVal (nm : ByteArray) (n : Nat) (A : Option Addr) (len c : Nat) (b s hp hb hs : ByteArray) (g : Nat) : Nat → Value
 | 0 => .map (some g)
 | 1 => .agg #[Value.string nm, .int .i64 (n : Int), .slice A len c]
 | 2 => .agg #[Value.string b, .string s]
 | 3 => .string hp
 | 5 => .agg #[Value.string nm, .int .i64 (n : Int), .slice A len c]
 | 6 => .agg #[Value.string b, .string s]
 | 7 => .string hb
 | 9 => .agg #[Value.string nm, .int .i64 (n : Int), .slice A len c]
 | 10 => .agg #[Value.string b, .string s]
 | 11 => .string hs
 | 13 => .map (some g)
 | 14 => .map (some g)
 | _ => undef
theorem hdVal_g (nm : ByteArray) (n : Nat) (A : Option Addr) (len c : Nat) (b s hp hb hs : ByteArray) (g g' : Nat) : ∀ {k : Nat}, k ≠ 0 → k ≠ 13 → k ≠ 14 → hdVal nm n A len c b s hp hb hs g k = hdVal nm n A len c b s hp hb hs g' k
 | 0, h, _, _ => absurd rfl h
 | 13, _, h, _ => absurd rfl h
 | 14, _, _, h => absurd rfl h
 | 1, _, _, _ | 2, _, _, _ | 3, _, _, _ | 4, _, _, _ | 5, _, _, _ | 6, _, _, _ | 7, _, _, _ | 8, _, _, _ | 9, _, _, _ | 10, _, _, _ | 11, _, _, _ | 12, _, _, _ => rfl
 | _ + 15, _, _, _ => rfl
def hdI (W : World) (hp hb hs : ByteArray) (g : Nat) (L : Nat → Bool) (w : World) : Prop :=
 Below W.heap.size W w ∧ (L 0 = true → W.heap.size ≤ g ∧ HMap w g (hdCnt L) (hdMap L hp hb hs)) ∧ (L 0 = false → L 4 = false ∧ L 8 = false ∧ L 12 = false ∧ L 13 = false ∧ L 14 = false)
theorem hdI.keep {W w w' : World} {hp hb hs : ByteArray} {g : Nat} {L : Nat → Bool} (h : hdI W hp hb hs g L w) {i : Nat} (hi : i ≠ 0 ∧ i ≠ 4 ∧ i ≠ 8 ∧ i ≠ 12) (h13 : (i = 13 ∨ i = 14) → L 0 = true) (hbw : Below w.heap.size w w') : hdI W hp hb hs g (onL L i) w' := by
 obtain ⟨h1, h2, h3⟩ := h
 have e0 : onL L i 0 = L 0 := onL_other L (fun e => hi.1 e.symm)
 have e4 : onL L i 4 = L 4 := onL_other L (fun e => hi.2.1 e.symm)
 have e8 : onL L i 8 = L 8 := onL_other L (fun e => hi.2.2.1 e.symm)
 have e12 : onL L i 12 = L 12 := onL_other L (fun e => hi.2.2.2 e.symm)
 refine ⟨h1.trans (hbw.mono h1.size), fun h0 => ?_, fun h0 => ?_⟩
 ·rw [e0] at h0
  obtain ⟨h4, h5⟩ := h2 h0
  refine ⟨h4, ?_⟩
  have ec : hdCnt (onL L i) = hdCnt L := by unfold hdCnt; rw [e4, e8, e12]
  have em : hdMap (onL L i) hp hb hs = hdMap L hp hb hs := by unfold hdMap; rw [e4, e8, e12]
  rw [ec, em]
  exact h5.later hbw
 ·rw [e0] at h0
  have n13 : ¬ (i = 13 ∨ i = 14) := fun e => by rw [h13 e] at h0; cases h0
  rw [e4, e8, e12, onL_other L (show 13 ≠ i by omega), onL_other L (show 14 ≠ i by omega)]; exact h3 h0
theorem hdCnt_le (L : Nat → Bool) : hdCnt L ≤ 3 := by unfold hdCnt; (by_cases a : L 4 = true) <;> (by_cases b : L 8 = true) <;> (by_cases c : L 12 = true) <;> simp [a, b, c]
theorem hdI.put {W w w' : World} {hp hb hs v : ByteArray} {g : Nat} {L : Nat → Bool} {k : Int} (h : hdI W hp hb hs g L w) {i : Nat} (hL : L i = false) (h0 : L 0 = true)
  (hi : (i = 4 ∧ k = 112 ∧ v = hp) ∨ (i = 8 ∧ k = 98 ∧ v = hb) ∨ (i = 12 ∧ k = 115 ∧ v = hs)) (hm : HMap w' g (hdCnt L + 1) (fun u => if u = k then some v else hdMap L hp hb hs u)) (hgr : w.grownBy w' (some g)) : hdI W hp hb hs g (onL L i) w' := by
 obtain ⟨h1, h2, h3⟩ := h
 obtain ⟨h4, h5⟩ := h2 h0
 have i0 : i ≠ 0 := by rcases hi with h | h | h <;> omega
 have e0 : onL L i 0 = true := by rw [onL_other L (fun e => i0 e.symm)]; exact h0
 refine ⟨h1.grown hgr h1.size (fun k hk => by injection hk with hk; omega), fun _ => ⟨h4, ?_⟩, fun x => by rw [e0] at x; cases x⟩
 have ec : hdCnt (onL L i) = hdCnt L + 1 := by
  unfold hdCnt
  rcases hi with ⟨rfl, _⟩ | ⟨rfl, _⟩ | ⟨rfl, _⟩ <;> rw [hL] <;> simp [onL] <;> omega
 rw [ec]
 refine hm.congr fun u t hu => ?_
 unfold hdMap at hu ⊢
 rcases hi with ⟨rfl, rfl, rfl⟩ | ⟨rfl, rfl, rfl⟩ | ⟨rfl, rfl, rfl⟩ <;> simp only [onL] at hu <;> simp at hu ⊢ <;> (by_cases e1 : u = 112 <;> by_cases e2 : u = 98 <;> by_cases e3 : u = 115 <;> simp_all <;> omega)
theorem hdI.made {W w : World} {hp hb hs : ByteArray} {g : Nat} {L : Nat → Bool} (h : hdI W hp hb hs g L w) (h0 : L 0 = false) : hdI W hp hb hs w.heap.size (onL L 0) (w.alloc (.map #[] 0)) := by
 obtain ⟨h1, h2, h3⟩ := h
 obtain ⟨h4, h8, h12, _⟩ := h3 h0
 refine ⟨h1.alloc h1.size _, fun _ => ⟨h1.size, ?_⟩, fun x => by rw [onL_same] at x; cases x⟩
 have ec : hdCnt (onL L 0) = 0 := by unfold hdCnt; rw [onL_other L (by omega), onL_other L (by omega), onL_other L (by omega), h4, h8, h12]; rfl
 rw [ec]
 exact (HMap.made w).congr fun v s hv => by
  unfold hdMap at hv
  rw [onL_other L (by omega), onL_other L (by omega), onL_other L (by omega), h4, h8, h12] at hv
  simp at hv
set_option maxHeartbeats 3200000 in
theorem headsC_any (nm : ByteArray) (n : Nat) (x : List ByteArray) (A : Option Addr) (c : Nat) (b s t : ByteArray) (w : World) (h : RdL w w.heap.size A 1 encString x) (h3 : 3 ≤ n) (h8 : n ≤ 8) (hl : x.length ≤ 1048576) (h0 : 0 < x.length) (hx : callsOk n x b s) (ht : touchP t) :
  Calls Tryz.prog 122 #[.agg #[Value.string nm, .int .i64 (n : Int), .slice A x.length c], .agg #[Value.string b, .string s], .string t] w fun e w' => ∃ A2 c2, e = .returned (.slice A2 (t.size + 1) c2) ∧ t.size + 1 ≤ c2 ∧ OwnL w' w.heap.size w'.heap.size A2 1 encString (headsL n x b s t (t.size + 1)) ∧ Below w.heap.size w w' := by
 have Hx := Lib.hid hx
 have Ht := Lib.hid ht
 have hts := ht.2.2
 clear hx ht
 have hW : ∃ W : World, Hid ((w.alloc (.cells #[Value.string nm, .int .i64 (n : Int), .slice A x.length c] 26)).alloc (.cells #[Value.string b, .string s] 28) = W) ∧ Hid (Below w.heap.size w W) ∧ w.heap.size + 2 ≤ W.heap.size ∧ Hid (Cells W w.heap.size 3 (fun i => (#[Value.string nm, .int .i64 (n : Int), .slice A x.length c] : Array Value).getD i undef)) ∧ Hid (Cells W (w.heap.size + 1) 2 (fun i => (#[Value.string b, .string s] : Array Value).getD i undef)) := by
  have z1 : w.heap.size + 1 = (w.alloc (.cells #[Value.string nm, .int .i64 (n : Int), .slice A x.length c] 26)).heap.size := by simp
  refine ⟨_, Lib.hid rfl, Lib.hid (((Below.refl _ _).alloc (Nat.le_refl _) _).alloc (by simp) _), by simp, Lib.hid ?_, Lib.hid ?_⟩
  ·exact (Cells.newD _ #[Value.string nm, .int .i64 (n : Int), .slice A x.length c] _).alloc _
  ·rw [z1]; exact Cells.newD _ #[Value.string b, .string s] _
 obtain ⟨W, hWe, hWb, hWs, hM, hK⟩ := hW
 have H := Lib.hid (show RdL W W.heap.size A 1 encString x from (h.below hWb.out (Nat.le_refl _)).more hWb.out.size)
 clear h
 have u0 : W.cell? ⟨w.heap.size, 0, none⟩ = some (.string nm) := hM.out.cell (i := 0) (by omega)
 have u1 : W.cell? ⟨w.heap.size, 1, none⟩ = some (.int .i64 (n : Int)) := hM.out.cell (i := 1) (by omega)
 have u2 : W.cell? ⟨w.heap.size, 2, none⟩ = some (.slice A x.length c) := hM.out.cell (i := 2) (by omega)
 have u3 : W.cell? ⟨w.heap.size + 1, 0, none⟩ = some (.string b) := hK.out.cell (i := 0) (by omega)
 have u4 : W.cell? ⟨w.heap.size + 1, 1, none⟩ = some (.string s) := hK.out.cell (i := 1) (by omega)
 obtain ⟨hp, hhp⟩ : ∃ hp, Hid (hdS n x b s ⟨#[112]⟩ = hp) := ⟨_, Lib.hid rfl⟩
 obtain ⟨hb, hhb⟩ : ∃ hb, Hid (hdS n x b s ⟨#[98]⟩ = hb) := ⟨_, Lib.hid rfl⟩
 obtain ⟨hs, hhs⟩ : ∃ hs, Hid (hdS n x b s ⟨#[115]⟩ = hs) := ⟨_, Lib.hid rfl⟩
 have szp : hp.size ≤ 1000000 := by rw [← hhp.out, (hdS_row h3 h8 x b s _).2]; omega
 have szb : hb.size ≤ 1000000 := by rw [← hhb.out, (hdS_row h3 h8 x b s _).2]; omega
 have szs : hs.size ≤ 1000000 := by rw [← hhs.out, (hdS_row h3 h8 x b s _).2]; omega
 have hcall : ∀ (call v : ByteArray), hdS n x b s call = v → ∀ (w1 : World), Below W.heap.size W w1 → Calls Tryz.prog 154 #[.agg #[Value.string nm, .int .i64 (n : Int), .slice A x.length c], .agg #[Value.string b, .string s], .string call] w1 fun e w' => e = .returned (.string v) ∧ Below w1.heap.size w1 w' := fun call v hv w1 hb1 => by
  rw [← hv]; exact callHead_any nm n x A c b s call w1 ((H.out.below hb1 (Nat.le_refl _)).more hb1.size) h3 h8 hl h0 (Hx.out call)
 have Hcall := Lib.hid hcall
 clear hcall
 go_enter Tryz.func122, Tryz.ntmps122
 go_wp2_with fail
 rw [hWe.out]
 clear hWe
 refine wp_region_inv0 (by kernel_rfl) (hdVal nm n A x.length c b s hp hb hs) (hdI W hp hb hs) (by kernel_rfl) (by kernel_rfl) 0 ⟨(Below.refl _ _).drew, (fun h => by cases h), fun _ => ⟨rfl, rfl, rfl, rfl, rfl⟩⟩ ?_ (fun g => [(some 11, .map (some g)), (some 12, .agg #[Value.string nm, .int .i64 (n : Int), .slice A x.length c]), (some 13, .agg #[Value.string b, .string s]), (some 14, .string hp), (none, undef), (some 15, .agg #[Value.string nm, .int .i64 (n : Int), .slice A x.length c]), (some 16, .agg #[Value.string b, .string s]), (some 17, .string hb), (none, undef), (some 18, .agg #[Value.string nm, .int .i64 (n : Int), .slice A x.length c]), (some 19, .agg #[Value.string b, .string s]), (some 20, .string hs), (none, undef), (some 21, .map (some g)), (some 7, .map (some g))]) (fun _ => rfl) ?_ (ready_end (by kernel_rfl))
 ·intro i o ho S L w1 ρ hI hLi hw hd hout
  have hbw := hI.1
  have r3 : ρ (.tmp 3) = .pointer (some ⟨w.heap.size, 0, none⟩) := hout _ (not_dst (by kernel_rfl))
  have r4 : ρ (.tmp 4) = .pointer (some ⟨w.heap.size + 1, 0, none⟩) := hout _ (not_dst (by kernel_rfl))
  have rc : ∀ v, ρ (.const v) = v := fun v => hout _ not_dst_const
  have rf : ∀ f, ρ (.func f) = .func (.func f) #[] #[] := fun f => hout _ (fun _ _ _ h => by cases h)
  have c0 : w1.cell? ⟨w.heap.size, 0, none⟩ = some (.string nm) := (hbw.cell (p := ⟨w.heap.size, 0, none⟩) (show w.heap.size < W.heap.size by omega)).trans u0
  have c1 : w1.cell? ⟨w.heap.size, 1, none⟩ = some (.int .i64 (n : Int)) := (hbw.cell (p := ⟨w.heap.size, 1, none⟩) (show w.heap.size < W.heap.size by omega)).trans u1
  have c2 : w1.cell? ⟨w.heap.size, 2, none⟩ = some (.slice A x.length c) := (hbw.cell (p := ⟨w.heap.size, 2, none⟩) (show w.heap.size < W.heap.size by omega)).trans u2
  have c3 : w1.cell? ⟨w.heap.size + 1, 0, none⟩ = some (.string b) := (hbw.cell (p := ⟨w.heap.size + 1, 0, none⟩) (show w.heap.size + 1 < W.heap.size by omega)).trans u3
  have c4 : w1.cell? ⟨w.heap.size + 1, 1, none⟩ = some (.string s) := (hbw.cell (p := ⟨w.heap.size + 1, 1, none⟩) (show w.heap.size + 1 < W.heap.size by omega)).trans u4
  match i, ho with
  | 0, ho =>
   obtain rfl := Option.some.inj ho.symm
   refine iRun_val (v := .map (some w1.heap.size)) (w' := w1.alloc (.map #[] 0)) (by simp [execOp, go_sem, run_makeMap, Result.andThen]) ⟨w1.heap.size, fun k hk => ?_, rfl, hI.made hLi⟩
   have h3 := hI.2.2 hLi
   have n0 : k ≠ 0 := fun e => by subst e; rw [hLi] at hk; cases hk
   have n13 : k ≠ 13 := fun e => by subst e; rw [h3.2.2.2.1] at hk; cases hk
   have n14 : k ≠ 14 := fun e => by subst e; rw [h3.2.2.2.2] at hk; cases hk
   exact hdVal_g _ _ _ _ _ _ _ _ _ _ _ _ n0 n13 n14
  | 1, ho =>
   obtain rfl := Option.some.inj ho.symm
   exact iRun_val (v := .agg #[Value.string nm, .int .i64 (n : Int), .slice A x.length c]) (w' := w1) (by simp [execOp, r3, r4, c0, c1, c2, go_sem]) ⟨S, fun _ _ => rfl, rfl, hI.keep (by omega) (by omega) (Below.refl _ _)⟩
  | 2, ho =>
   obtain rfl := Option.some.inj ho.symm
   exact iRun_val (v := .agg #[Value.string b, .string s]) (w' := w1) (by simp [execOp, r3, r4, c3, c4, go_sem]) ⟨S, fun _ _ => rfl, rfl, hI.keep (by omega) (by omega) (Below.refl _ _)⟩
  | 3, ho =>
   obtain rfl := Option.some.inj ho.symm
   have d1 : ρ (.tmp 12) = .agg #[Value.string nm, .int .i64 (n : Int), .slice A x.length c] := hd 1 12 (hw 1 (wait_mem (by kernel_rfl))) rfl
   have d2 : ρ (.tmp 13) = .agg #[Value.string b, .string s] := hd 2 13 (hw 2 (wait_mem (by kernel_rfl))) rfl
   refine iRun_call (w' := w1) (f := 154) (args := #[.agg #[Value.string nm, .int .i64 (n : Int), .slice A x.length c], .agg #[Value.string b, .string s], .string ⟨#[112]⟩]) (by simp [execOp, d1, d2, rc, rf, go_sem]) ((Hcall.out ⟨#[112]⟩ _ hhp.out w1 hbw).mono ?_)
   rintro e w2 ⟨rfl, hb2⟩
   exact ⟨_, rfl, S, fun _ _ => rfl, rfl, hI.keep (by omega) (by omega) hb2⟩
  | 4, ho =>
   obtain rfl := Option.some.inj ho.symm
   have l0 := hw 0 (wait_mem (by kernel_rfl))
   have d1 : ρ (.tmp 11) = .map (some S) := hd 0 11 l0 rfl
   have d2 : ρ (.tmp 14) = .string hp := hd 3 14 (hw 3 (wait_mem (by kernel_rfl))) rfl
   obtain ⟨w2, hrun, hm2, hgr⟩ := (hI.2.1 l0).2.put (v := 112) (s := hp) (by omega) (by omega) (by have := hdCnt_le L; omega) szp
   exact iRun_skip (w' := w2) (by simp [execOp, d1, d2, rc, hrun, Result.andThen]) ⟨S, fun _ _ => rfl, rfl, hI.put hLi l0 (.inl ⟨rfl, rfl, rfl⟩) hm2 hgr⟩
  | 5, ho =>
   obtain rfl := Option.some.inj ho.symm
   exact iRun_val (v := .agg #[Value.string nm, .int .i64 (n : Int), .slice A x.length c]) (w' := w1) (by simp [execOp, r3, r4, c0, c1, c2, go_sem]) ⟨S, fun _ _ => rfl, rfl, hI.keep (by omega) (by omega) (Below.refl _ _)⟩
  | 6, ho =>
   obtain rfl := Option.some.inj ho.symm
   exact iRun_val (v := .agg #[Value.string b, .string s]) (w' := w1) (by simp [execOp, r3, r4, c3, c4, go_sem]) ⟨S, fun _ _ => rfl, rfl, hI.keep (by omega) (by omega) (Below.refl _ _)⟩
  | 7, ho =>
   obtain rfl := Option.some.inj ho.symm
   have d1 : ρ (.tmp 15) = .agg #[Value.string nm, .int .i64 (n : Int), .slice A x.length c] := hd 5 15 (hw 5 (wait_mem (by kernel_rfl))) rfl
   have d2 : ρ (.tmp 16) = .agg #[Value.string b, .string s] := hd 6 16 (hw 6 (wait_mem (by kernel_rfl))) rfl
   refine iRun_call (w' := w1) (f := 154) (args := #[.agg #[Value.string nm, .int .i64 (n : Int), .slice A x.length c], .agg #[Value.string b, .string s], .string ⟨#[98]⟩]) (by simp [execOp, d1, d2, rc, rf, go_sem]) ((Hcall.out ⟨#[98]⟩ _ hhb.out w1 hbw).mono ?_)
   rintro e w2 ⟨rfl, hb2⟩
   exact ⟨_, rfl, S, fun _ _ => rfl, rfl, hI.keep (by omega) (by omega) hb2⟩
  | 8, ho =>
   obtain rfl := Option.some.inj ho.symm
   have l0 := hw 0 (wait_mem (by kernel_rfl))
   have d1 : ρ (.tmp 11) = .map (some S) := hd 0 11 l0 rfl
   have d2 : ρ (.tmp 17) = .string hb := hd 7 17 (hw 7 (wait_mem (by kernel_rfl))) rfl
   obtain ⟨w2, hrun, hm2, hgr⟩ := (hI.2.1 l0).2.put (v := 98) (s := hb) (by omega) (by omega) (by have := hdCnt_le L; omega) szb
   exact iRun_skip (w' := w2) (by simp [execOp, d1, d2, rc, hrun, Result.andThen]) ⟨S, fun _ _ => rfl, rfl, hI.put hLi l0 (.inr (.inl ⟨rfl, rfl, rfl⟩)) hm2 hgr⟩
  | 9, ho =>
   obtain rfl := Option.some.inj ho.symm
   exact iRun_val (v := .agg #[Value.string nm, .int .i64 (n : Int), .slice A x.length c]) (w' := w1) (by simp [execOp, r3, r4, c0, c1, c2, go_sem]) ⟨S, fun _ _ => rfl, rfl, hI.keep (by omega) (by omega) (Below.refl _ _)⟩
  | 10, ho =>
   obtain rfl := Option.some.inj ho.symm
   exact iRun_val (v := .agg #[Value.string b, .string s]) (w' := w1) (by simp [execOp, r3, r4, c3, c4, go_sem]) ⟨S, fun _ _ => rfl, rfl, hI.keep (by omega) (by omega) (Below.refl _ _)⟩
  | 11, ho =>
   obtain rfl := Option.some.inj ho.symm
   have d1 : ρ (.tmp 18) = .agg #[Value.string nm, .int .i64 (n : Int), .slice A x.length c] := hd 9 18 (hw 9 (wait_mem (by kernel_rfl))) rfl
   have d2 : ρ (.tmp 19) = .agg #[Value.string b, .string s] := hd 10 19 (hw 10 (wait_mem (by kernel_rfl))) rfl
   refine iRun_call (w' := w1) (f := 154) (args := #[.agg #[Value.string nm, .int .i64 (n : Int), .slice A x.length c], .agg #[Value.string b, .string s], .string ⟨#[115]⟩]) (by simp [execOp, d1, d2, rc, rf, go_sem]) ((Hcall.out ⟨#[115]⟩ _ hhs.out w1 hbw).mono ?_)
   rintro e w2 ⟨rfl, hb2⟩
   exact ⟨_, rfl, S, fun _ _ => rfl, rfl, hI.keep (by omega) (by omega) hb2⟩
  | 12, ho =>
   obtain rfl := Option.some.inj ho.symm
   have l0 := hw 0 (wait_mem (by kernel_rfl))
   have d1 : ρ (.tmp 11) = .map (some S) := hd 0 11 l0 rfl
   have d2 : ρ (.tmp 20) = .string hs := hd 11 20 (hw 11 (wait_mem (by kernel_rfl))) rfl
   obtain ⟨w2, hrun, hm2, hgr⟩ := (hI.2.1 l0).2.put (v := 115) (s := hs) (by omega) (by omega) (by have := hdCnt_le L; omega) szs
   exact iRun_skip (w' := w2) (by simp [execOp, d1, d2, rc, hrun, Result.andThen]) ⟨S, fun _ _ => rfl, rfl, hI.put hLi l0 (.inr (.inr ⟨rfl, rfl, rfl⟩)) hm2 hgr⟩
  | 13, ho =>
   obtain rfl := Option.some.inj ho.symm
   have l0 := hw 0 (wait_mem (by kernel_rfl))
   have d1 : ρ (.tmp 11) = .map (some S) := hd 0 11 l0 rfl
   exact iRun_val (v := .map (some S)) (w' := w1) (by simp [execOp, d1, go_sem]) ⟨S, fun _ _ => rfl, rfl, hI.keep (by omega) (fun _ => l0) (Below.refl _ _)⟩
  | 14, ho =>
   obtain rfl := Option.some.inj ho.symm
   have l0 := hw 0 (wait_mem (by kernel_rfl))
   have d1 : ρ (.tmp 21) = .map (some S) := hd 13 21 (hw 13 (wait_mem (by kernel_rfl))) rfl
   exact iRun_val (v := .map (some S)) (w' := w1) (by simp [execOp, d1, go_sem]) ⟨S, fun _ _ => rfl, rfl, hI.keep (by omega) (fun _ => l0) (Below.refl _ _)⟩
  | _ + 15, ho => exact absurd ho (by simp)
 ·intro g L w1 hL hI
  have hm0 : HMap w1 g (hdCnt L) (hdMap (fun _ => true) hp hb hs) := by
   have h := (hI.2.1 (hL 0 (by decide))).2
   have e4 := hL 4 (by decide)
   have e8 := hL 8 (by decide)
   have e12 := hL 12 (by decide)
   exact h.congr fun v s hv => by unfold hdMap at hv ⊢; rw [e4, e8, e12]; exact hv
  have Hm := Lib.hid hm0
  have hbw := Lib.hid hI.1
  clear hm0 hI hL
  simp only [putAll, List.foldl_cons, List.foldl_nil, Act.put, List.setIfInBounds_toArray, List.set_cons_zero, List.set_cons_succ, Nat.reduceAdd]
  have m1 : w1.cell? ⟨w.heap.size, 1, none⟩ = some (.int .i64 (n : Int)) := (hbw.out.cell (p := ⟨w.heap.size, 1, none⟩) (show w.heap.size < W.heap.size by omega)).trans u1
  have hws := hbw.out.size
  have g0 : Hid (Grow (w1.alloc (.cells #[.string (roundsS n)] 9)) w1.heap.size 9 1 encString (.slice (some ⟨w1.heap.size, 0, none⟩) 1 1) (headsL n x b s t 1)) := Lib.hid (by unfold headsL; rw [walkL_one]; exact Grow.lit [roundsS n] rfl (Nat.le_refl _) (by simp [maxLen]) encString_len)
  go_wp2_with ((go_at_call 113; refine (rounds_any n _ (by omega) (by omega)).mono ?_; rintro e w' ⟨rfl, rfl⟩))
  go_loopw [8, 9, 29] (fun v q j wr => ∃ k : Nat, k ≤ t.size ∧ j = .int .i64 k ∧ v = .string (headS n x b s t k) ∧ Grow wr w1.heap.size 9 1 encString q (headsL n x b s t (k + 1)) ∧ Below w1.heap.size w1 wr) (fun _ _ j _ => t.size - (intOf j).toNat)
  case atStart => exact ⟨0, by omega, by rfl, by unfold headS; rw [after_zero], g0.out, (Below.refl _ _).alloc (Nat.le_refl _) _⟩
  case round =>
   obtain ⟨k, hk, rfl, rfl, hg, hbl⟩ := hrel
   have Hg := Lib.hid hg
   have Hb0 := Lib.hid hbl
   have hg0 := hbl.size
   have hlen : (headsL n x b s t (k + 1)).length ≤ 61 := by unfold headsL; rw [walkL_len]; omega
   clear hg hbl g0 m1
   by_cases hlt : k < t.size
   ·have hsu := Lib.hid (headS_succ n x b s t k hlt)
    have hws : Hid (headsL n x b s t (k + 1 + 1) = headsL n x b s t (k + 1) ++ [headS n x b s t (k + 1)]) := Lib.hid (walkL_succ _ _ _ _)
    have hrk := Lib.hid (headS_row h3 h8 x b s t k)
    have hlo := bat_lo t k
    have hhi := bat_hi t k
    have hS : hdMap (fun _ => true) hp hb hs (bat t k) = some (hdS n x b s (callOf (bat t k))) := by
     rcases (show bat t k = 112 ∨ bat t k = 98 ∨ bat t k = 115 from Ht.out.1 k hlt) with e | e | e
     ·rw [e, show callOf 112 = ⟨#[112]⟩ from rfl, hhp.out]; rfl
     ·rw [e, show callOf 98 = ⟨#[98]⟩ from rfl, hhb.out]; rfl
     ·rw [e, show callOf 115 = ⟨#[115]⟩ from rfl, hhs.out]; rfl
    have hhr := Lib.hid (hdS_row h3 h8 x b s (callOf (bat t k)))
    obtain ⟨h, hh⟩ : ∃ h, Hid (hdS n x b s (callOf (bat t k)) = h) := ⟨_, Lib.hid rfl⟩
    rw [hh.out] at hS hhr hsu
    obtain ⟨T, hT⟩ : ∃ T, Hid (headS n x b s t k = T) := ⟨_, Lib.hid rfl⟩
    rw [hT.out] at hrk hsu ⊢
    have hlk := (Hm.out.later Hb0.out).look hlo hhi hS
    have HS := Lib.hid hS
    clear hS
    have htm : Hid (∀ (W : World), Calls Tryz.prog 155 #[.string T, .string h] W fun e w' => e = .returned (.string (timesS T h)) ∧ Below W.heap.size W w') := Lib.hid (fun W => times_any T h W (by rw [hhr.out.2]; omega) (fun i hi => by have := hhr.out.1.2.2.1 i hi; rw [hhr.out.2] at this; rw [hrk.out.2]; exact this))
    obtain ⟨U, hU⟩ : ∃ U, Hid (timesS T h = U) := ⟨_, Lib.hid rfl⟩
    rw [hU.out] at htm hsu
    rw [hsu.out] at hws
    have hone : (∀ u ∈ [Value.string U], u.oneCell' = true) := by simp [Value.oneCell']
    have Hone := Lib.hid hone
    clear hone
    go_wp2_with (first | (go_at_call 155; refine (htm.out _).mono ?_; rintro e w3 ⟨rfl, hb3⟩; have hg3 := hb3.size; have hgw : w1.heap.size ≤ w3.heap.size := by omega) | (at_builtin; go_loud (refine wpList_push rfl (.tmp 39) (.tmp 41) 24 rfl w1.heap.size 9 _ 1 16 encString rfl String_info rfl (by omega) u9 (headsL n x b s t (k + 1)) [U] 1 rfl rfl (by simp) (Hg.out.later hb3) rfl encString_len Hone.out (by first | omega | (simp; omega)) (by omega) (by first | omega | (simp; omega)) ?_; intro v' w2 hg2 hb2 _)))
    go_roundw
    case rel => exact ⟨k + 1, by omega, by go_num, by rw [hsu.out], by rw [hws.out]; exact hg2, (Hb0.out.trans (hb3.mono hg0)).trans hb2⟩
    case measure => simp [intOf]; omega
   ·obtain rfl : k = t.size := by omega
    go_wp2
    go_ret
    obtain ⟨A2, c2, hv, ho⟩ := Hg.out.own encString_len
    have hlen2 : (headsL n x b s t (t.size + 1)).length = t.size + 1 := walkL_len _ _ _ _
    rw [hlen2] at hv
    exact ⟨A2, c2, by rw [hv]; rfl, Grow.capT (by have h' := Hg.out; rw [hv] at h'; exact h'), ho.mono (Nat.le_trans hWb.out.size hbw.out.size) (Nat.le_refl _), (hWb.out.trans (hbw.out.mono hWb.out.size)).trans (Hb0.out.mono (Nat.le_trans hWb.out.size hbw.out.size))⟩
end Go.Proofs.YtkegbbndmfnolaaGreatDoor

/-
 Contracts: a touch comes round, what is asked of a conductor (both sides).
-/
namespace Go.Proofs.YtkegbbndmfnolaaGreatDoor
open Go.RowKit
set_option linter.unusedVariables false
set_option linter.unusedSimpArgs false
set_option maxRecDepth 100000

structure Geo (m : Mth) (b s : ByteArray) (n : Nat) : Prop where
 st : m.stage = (n : Int)
 n3 : 3 ≤ n
 n8 : n ≤ 8
 l0 : 0 < m.x.length
 l40 : m.x.length ≤ 40
 xs : ∀ c ∈ m.x, c.size ≤ 1048576
 bs : b.size ≤ 1048576
 ss : s.size ≤ 1048576
 ok : callsOk n m.x b s
theorem callsP.geo {m : Mth} {b s : ByteArray} (h : callsP m b s) : Geo m b s m.stage.toNat := by
 have hst := h.1.2.stage
 have h1 := hst.1
 have h2 := hst.2
 refine ⟨by omega, by omega, by omega, by have := h.1.2.1.1; omega, h.1.2.1.2, fun c hc => ?_, by have := h.2.1.size; omega, by have := h.2.2.size; omega, callsOk_of h.1.2.2 h.2.1 h.2.2 _⟩
 obtain ⟨i, hi, rfl⟩ := List.getElem_of_mem hc
 have := (h.1.2.2 i hi).size; omega
/-- What is asked of a method and calls in memory. -/
structure MkOk (m : Mth) (b s : ByteArray) (w : World) : Prop where
 rd : RdL w w.heap.size m.A 1 encString m.x
 nm : m.name.size ≤ 1048576
 xl : m.x.length ≤ 1048576
 xs : ∀ x ∈ m.x, String_small 1048576 x
 bs : b.size ≤ 1048576
 ss : s.size ≤ 1048576
 cp : m.x.length ≤ m.c
theorem MkOk.later {m : Mth} {b s : ByteArray} {w w' : World} (h : MkOk m b s w) (hb : Below w.heap.size w w') : MkOk m b s w' := ⟨(h.rd.below hb (Nat.le_refl _)).more hb.size, h.nm, h.xl, h.xs, h.bs, h.ss, h.cp⟩





def askP (m : Mth) (b s t : ByteArray) : Prop := callsP m b s ∧ touchP t
def condP (m : Mth) (b s : ByteArray) : Prop := callsP m b s ∧ 2 ≤ m.x.length
def isRoundP (m : Mth) (b s t : ByteArray) : Prop := askP m b s t ∧ roundP m.stage.toNat m.x b s t
end Go.Proofs.YtkegbbndmfnolaaGreatDoor

/-
 The drawn arguments of NewBand.
-/
namespace Go.Proofs.YtkegbbndmfnolaaGreatDoor
open Go.RowKit
set_option linter.unusedVariables false
set_option linter.unusedSimpArgs false
set_option maxRecDepth 100000





theorem Chg.drewH {b c : Nat} {a w : World} (h : Chg b c a w) : Chg b c a w.drew := ⟨h.os, h.tape, h.output, h.size, h.block⟩
/-- A drawn method and calls as a result. -/
def MkDrawn (w : World) (e : Ending) (w' : World) : Prop := ∃ (m : Mth) (b s : ByteArray), e = .returned (.tuple #[.agg #[.string m.name, .int .i64 m.stage, .slice m.A m.x.length m.c], .agg #[.string b, .string s]]) ∧ (∀ W', Chg 0 w.heap.size w' W' → MkOk m b s W') ∧ Below w.heap.size w w'


end Go.Proofs.YtkegbbndmfnolaaGreatDoor
