import Derived.Test.YtglnehinmdmgmaaGreatRows
import Derived.Test.YtglnehinmdmgmaaGreatMErrorsL01
import Derived.StillTailTactics
import Derived.Deep.RegionHeld3
import Derived.Test.YtglnehinmdmgmaaGreatMErrorsL00
import Derived.Maps.Own
import Derived.Maps.Views
import Derived.Maps.OwnOps
import Derived.DeepKeys4
import Derived.Carry
import Derived.Test.YtglnehinmdmgmaaGreatMErrorsL04
import Derived.Test.YtglnehinmdmgmaaGreatMErrorsL12
/-
  Contracts of the helper functions that the laws use for lists of Strike.
-/
namespace Go.Proofs.YtglnehinmdmgmaaGreat
open Go.RowKit Go.ChangeShapes Go.WideShapes
set_option linter.unusedVariables false
set_option linter.unusedSimpArgs false
set_option maxRecDepth 100000


structure Stk where
  bell : Int
  at_ : Int

def Stk.enc (x : Stk) : List Value := [.int .i64 x.bell, .int .i64 x.at_]
theorem Stk_enc_len (x : Stk) : (Stk.enc x).length = 2 := rfl
def Strike_small (lim : Int) (x : Stk) : Prop := True
theorem Strike_info : (Tryz.prog.info? 81).map (fun i => (i.zero, i.size, i.bytes)) = some (some (.agg #[.int .i64 0, .int .i64 0]), 2, 16) := by kernel_rfl

/-- What the marks make of a list of so many elements. -/
def markStrikeL (m q : Nat) : List Stk := (List.range m).map fun i : Nat => (⟨((q + i * 2 : Nat) : Int), ((q + i * 2 + 1 : Nat) : Int)⟩ : Stk)
end Go.Proofs.YtglnehinmdmgmaaGreat
/-
  An own slice: an element turns in one field; its cells (not beside XSpokenD, which has the same lemmas).
-/
namespace Go.Proofs.YtglnehinmdmgmaaGreat
open Go.RowKit
set_option linter.unusedVariables false
set_option linter.unusedSimpArgs false

/-- An element of an own slice turns in one field. -/
theorem OwnL.put {α : Type} {enc : α → List Value} {size : Nat} {w : World} {b c g : Nat} {l : List α} (h : OwnL w b c (some ⟨g, 0, none⟩) size enc l) (henc : ∀ x, (enc x).length = size) (k : Nat) (hk : k < l.length) (j : Nat) (hj : j < size) (y : α) (v : Value) (he : enc y = (enc l[k]).set j v) :
    OwnL (w.setCell ⟨g, k * size + j, none⟩ v) b c (some ⟨g, 0, none⟩) size enc (l.set k y) := by
  rcases h with h | ⟨g', f, hA, h1, h2, h3, h4⟩
  · subst h; simp at hk
  · simp only [Option.some.injEq, Addr.mk.injEq, and_true] at hA
    subst hA
    refine .inr ⟨g, _, rfl, h1, h2, by rw [List.length_set]; exact h3.set (i := k * size + j) (idx_lt hk hj) v, fun i hi q u hu => ?_⟩
    have hq : q < size := by rw [← henc ((l.set k y)[i])]; exact (List.getElem?_eq_some_iff.1 hu).1
    have hi' : i < l.length := by simpa using hi
    by_cases e : i = k
    · subst e
      rw [List.getElem_set_self, he] at hu
      by_cases e2 : q = j
      · subst e2
        rw [upd_same]
        rw [List.getElem?_set_self (by rw [henc]; exact hj)] at hu
        exact Option.some.inj hu
      · rw [List.getElem?_set_ne (fun x => e2 x.symm)] at hu
        rw [upd_other _ _ _ _ (by omega)]
        exact h4 i hk q u hu
    · rw [List.getElem_set_ne (fun x => e x.symm)] at hu
      rw [upd_other _ _ _ _ (fun x => e ?_)]
      · exact h4 i hi' q u hu
      · have e1 : (i * size + q) / size = i := by rw [Nat.mul_comm, Nat.mul_add_div (by omega), Nat.div_eq_of_lt hq]; omega
        have e2 : (k * size + j) / size = k := by rw [Nat.mul_comm, Nat.mul_add_div (by omega), Nat.div_eq_of_lt hj]; omega
        rw [x] at e1; omega
/-- An element of an own slice: its cells. -/
theorem OwnL.get {α : Type} {enc : α → List Value} {size : Nat} {w : World} {b c g : Nat} {l : List α} (h : OwnL w b c (some ⟨g, 0, none⟩) size enc l) (henc : ∀ x, (enc x).length = size) (k : Nat) (hk : k < l.length) (j : Nat) (hj : j < size) :
    w.cell? ⟨g, k * size + j, none⟩ = some ((enc l[k]).getD j undef) ∧ w.frozen? ⟨g, k * size + j, none⟩ = false := by
  rcases h with h | ⟨g', f, hA, h1, h2, h3, h4⟩
  · subst h; simp at hk
  · simp only [Option.some.injEq, Addr.mk.injEq, and_true] at hA
    subst hA
    have hx : (enc l[k])[j]? = some ((enc l[k]).getD j undef) := by rw [List.getD_eq_getElem?_getD, List.getElem?_eq_getElem (by rw [henc]; exact hj)]; rfl
    exact ⟨by rw [h3.cell (idx_lt hk hj), h4 k hk j _ hx], h3.free (idx_lt hk hj)⟩
theorem RdL.tailN {α : Type} {enc : α → List Value} {size : Nat} {w : World} {b g off : Nat} {l : List α} (h : RdL w b (some ⟨g, off, none⟩) size enc l) : RdL w b (some ⟨g, off + size, none⟩) size enc l.tail := by
  rcases h with h | ⟨g', off', hA, hg, hc⟩
  · subst h; exact .inl rfl
  · simp only [Option.some.injEq, Addr.mk.injEq, and_true] at hA
    obtain ⟨rfl, rfl⟩ := hA
    refine .inr ⟨g, _, rfl, hg, fun i hi j u hu => ?_⟩
    have hi' : i + 1 < l.length := by rw [List.length_tail] at hi; omega
    rw [List.getElem_tail] at hu
    have := hc (i + 1) hi' j u hu
    rw [show off + size + (i * size + j) = off + ((i + 1) * size + j) by rw [Nat.add_mul]; omega]
    exact this
end Go.Proofs.YtglnehinmdmgmaaGreat

/-
  A set of pairs of integers that the call keeps as a map to true: in plain words, with the laws of a look-up and of a store.
-/
namespace Go.Proofs.YtglnehinmdmgmaaGreat
open Go.RowKit
open Go.Maps (Keyed IsMap)
set_option linter.unusedVariables false
set_option linter.unusedSimpArgs false
set_option maxRecDepth 100000

def inI64 (n : Int) : Prop := -9223372036854775808 ≤ n ∧ n ≤ 9223372036854775807
def pairV (r p : Int) : Value := .agg #[.int .i64 r, .int .i64 p]
theorem pair_keyed : Keyed Tryz.prog 77 := Keyed.of_law (deep_law_laid (by kernel_rfl) (m := 2) (by omega) (of_decide_eq_true (by kernel_rfl)) (by kernel_rfl) (by kernel_rfl))
theorem pair_ty : Tryz.prog.underlying 77 = some (.array 2 3) := rfl
theorem pairmap_ty : Tryz.prog.underlying 76 = some (.map 77 4) := rfl
theorem pair_lit (r p : Int) (hr : inI64 r) (hp : inI64 p) : ∃ l, keyOf Tryz.prog 77 (pairV r p) = some l := by
  have hkt : Tryz.prog.keyType 77 = true := by kernel_rfl
  have hc2 : Tryz.prog.cellsOf 77 = 2 := by kernel_rfl
  have hc1 : Tryz.prog.cellsOf 3 = 1 := by kernel_rfl
  have hf : (pairV r p).formed Tryz.prog 77 = true := by
    unfold pairV Value.formed
    rw [pair_ty, hc2]
    rfl
  obtain ⟨d, hd⟩ : ∃ d, Tryz.prog.types.size + 1 = d + 1 + 1 := ⟨Tryz.prog.types.size - 1, by
    have : 0 < Tryz.prog.types.size := of_decide_eq_true (by kernel_rfl)
    omega⟩
  have hi : ∀ n : Int, inI64 n → (Lit.int .i64 n).wf = true := fun n hn => by
    unfold inI64 at hn
    simp [Lit.wf, IntKind.min, IntKind.max, IntKind.signed, IntKind.bits]
    omega
  have hI : Tryz.prog.underlying 3 = some (.int .i64) := rfl
  have hone : ∀ n : Int, inI64 n → Tryz.prog.keyLits (d + 1) 3 [.int .i64 n] = some [.int .i64 n] := fun n hn => by
    unfold Program.keyLits
    rw [hI]
    simp [hi n hn]
  have hlits : Tryz.prog.keyLits (Tryz.prog.types.size + 1) 77 (pairV r p).cells.toList = some [.int .i64 r, .int .i64 p] := by
    rw [hd]
    unfold Program.keyLits
    rw [pair_ty]
    simp only [pairV, Value.cells, hc2, hc1]
    simp [List.range_succ, hone r hr, hone p hp]
  unfold keyOf
  rw [pair_ty]
  simp only [hkt, hf, hlits]
  exact ⟨_, rfl⟩
theorem pair_inj {r p r' p' : Int} (h : pairV r p = pairV r' p') : r = r' ∧ p = p' := by
  unfold pairV at h
  simp only [Value.agg.injEq] at h
  have h1 := congrArg (fun a : Array Value => a[0]?) h
  have h2 := congrArg (fun a : Array Value => a[1]?) h
  simp at h1 h2
  exact ⟨h1, h2⟩
/-- Block g is the call's own map of at most n entries; the pairs in S are in it. -/
def Sees (w : World) (g n : Nat) (S : Int → Int → Prop) : Prop :=
  ∃ D : DataW Unit, w.ownsMap Tryz.prog 77 (plainElem Tryz.prog 4) g n D ∧ IsMap D ∧ ∀ (r p : Int) (l : Lit), keyOf Tryz.prog 77 (pairV r p) = some l → D.atKey l (.lit (.bool false)) = .lit (.bool (B (S r p)))
theorem Sees.made (w : World) : Sees (w.alloc (.map #[] 0)) w.heap.size 0 (fun _ _ => False) :=
  ⟨.map [], World.ownsMap_made w _ _ _, Maps.isMap_empty, fun r p l _ => by simp [DataW.atKey]⟩
theorem Sees.kept {w w' : World} {g n : Nat} {S : Int → Int → Prop} (h : Sees w g n S) (hb : w'.heap[g]? = w.heap[g]?) : Sees w' g n S := by
  obtain ⟨D, ⟨es, clock, hb0, F, hs, hD⟩, hm, ha⟩ := h
  exact ⟨D, ⟨es, clock, hb.trans hb0, F, hs, hD⟩, hm, ha⟩
theorem Sees.lt {w : World} {g n : Nat} {S : Int → Int → Prop} (h : Sees w g n S) : g < w.heap.size := by
  obtain ⟨D, hD, _⟩ := h; exact hD.lt
theorem Sees.later {w w' : World} {g n : Nat} {S : Int → Int → Prop} (h : Sees w g n S) (hb : Below w.heap.size w w') : Sees w' g n S := h.kept (hb.block g h.lt)
/-- The look-up. -/
theorem Sees.look {w : World} {g n : Nat} {S : Int → Int → Prop} (h : Sees w g n S) (r p : Int) (hr : inI64 r) (hp : inI64 p) :
    (Instr.lookup 76 (.map (some g)) (.agg #[.int .i64 r, .int .i64 p]) false).run Tryz.prog w = .ok (.bool (B (S r p))) w := by
  obtain ⟨D, hD, _, ha⟩ := h
  obtain ⟨l, hl⟩ := pair_lit r p hr hp
  have hz : (zeroValue 4).run Tryz.prog w = .ok (.bool false) w := by kernel_rfl
  obtain ⟨v, ps, hrun, hv⟩ := hD.lookup pair_keyed pairmap_ty hz (plainElem_bool rfl false) hl
  rw [ha r p l hl] at hv
  have : v = .bool (B (S r p)) := by
    unfold plainElem at hv
    rw [show Tryz.prog.underlying 4 = some .bool from rfl] at hv
    cases v <;> simp at hv
    rw [hv.1]
  rw [← this]
  exact hrun
section
variable {ops : Array Oper} {rest : List Oper} {o : Oper} {a : Act} {Q : Exit → Act → World → Prop} {w : World}
/-- The store of true. -/
theorem wpList_see (hg : o.guard = none) (m x v : Operand) (hop : o.op = Op.mapUpdate 76 m x v) (g n : Nat) (S : Int → Int → Prop) (r p : Int) (hr : inI64 r) (hp : inI64 p)
    (hm : a.eval m = .map (some g)) (h : Sees w g n S) (hn : n ≤ 1000000) (hx : a.eval x = .agg #[.int .i64 r, .int .i64 p]) (hv : a.eval v = .bool true)
    (hK : ∀ w', Sees w' g (n + 1) (fun r' p' => S r' p' ∨ (r' = r ∧ p' = p)) → w.grownBy w' (some g) → wpList Tryz.prog ops Q rest (a.put o.dst undef) w') : wpList Tryz.prog ops Q (o :: rest) a w := by
  obtain ⟨D, hD, him, ha⟩ := h
  obtain ⟨l, hl⟩ := pair_lit r p hr hp
  refine wpList_mapUpdate_own w hg m x v _ hop _ _ pair_keyed pairmap_ty _ g n D hm hD (by unfold maxLen; omega) _ _ l hx hv hl _ _ (plainElem_bool rfl true) ?_
  intro w' hown hgrow
  refine hK w' ⟨_, hown, him.put _ _, fun r' p' l' hl' => ?_⟩ hgrow
  by_cases e : l' = l
  · subst e
    obtain ⟨e1, e2⟩ := pair_inj (pair_keyed.inj hl' hl)
    rw [Maps.atKey_put_same him (pair_keyed.key hl), B_t (.inr ⟨e1, e2⟩)]
  · rw [Maps.atKey_put_other e, ha r' p' l' hl']
    rw [B_iff (p := S r' p') (q := S r' p' ∨ (r' = r ∧ p' = p)) ⟨.inl, fun h => h.resolve_right (fun ⟨e1, e2⟩ => by
      subst e1 e2
      rw [hl] at hl'
      exact e (Option.some.inj hl').symm)⟩]
end
end Go.Proofs.YtglnehinmdmgmaaGreat

/-
  Valid lists of blows: in plain words, and the contracts of both sides.
-/
namespace Go.Proofs.YtglnehinmdmgmaaGreat
open Go.RowKit
set_option linter.unusedVariables false
set_option linter.unusedSimpArgs false
set_option maxRecDepth 100000

/-- One of the first blows is of a row and a place. -/
def seenTo (l : List Blw) (k : Nat) (r p : Int) : Prop := ∃ (j : Nat) (h : j < l.length), j < k ∧ l[j].row = r ∧ l[j].place = p
theorem seenTo_zero (l : List Blw) : seenTo l 0 = fun _ _ => False := by
  funext r p
  simp only [seenTo, eq_iff_iff, iff_false]
  rintro ⟨j, _, h, _⟩; omega
theorem seenTo_succ (l : List Blw) (k : Nat) (hk : k < l.length) : seenTo l (k + 1) = fun r p => seenTo l k r p ∨ (r = l[k].row ∧ p = l[k].place) := by
  funext r p
  simp only [seenTo, eq_iff_iff]
  constructor
  · rintro ⟨j, h, hj, h1, h2⟩
    rcases Nat.lt_or_eq_of_le (Nat.le_of_lt_succ hj) with h' | rfl
    · exact .inl ⟨j, h, h', h1, h2⟩
    · exact .inr ⟨h1.symm, h2.symm⟩
  · rintro (⟨j, h, hj, h1, h2⟩ | ⟨h1, h2⟩)
    · exact ⟨j, h, by omega, h1, h2⟩
    · exact ⟨k, hk, by omega, h1.symm, h2.symm⟩
def blowAtP (n : Int) (l : List Blw) (i : Nat) (hi : i < l.length) : Prop := inB l[i].row 0 800 ∧ inB l[i].place 1 n ∧ inB l[i].at_ 0 1000000 ∧ ¬ seenTo l i l[i].row l[i].place
/-- A valid list of blows of a stage. -/
def blowsP (n : Int) (l : List Blw) : Prop := inB n 3 8 ∧ l.length ≤ 400 ∧ ∀ (i : Nat) (hi : i < l.length), blowAtP n l i hi




set_option maxHeartbeats 3200000 in
theorem iBlows_any (n : Int) (l : List Blw) (A : Option Addr) (c : Nat) (w : World) (h : RdL w w.heap.size A 3 Blw.enc l) (hl : l.length ≤ 1048576) :
    Calls Tryz.prog 19 #[.int .i64 n, .slice A l.length c] w fun e w' => e = .returned (.bool (B (blowsP n l))) ∧ Below w.heap.size w w' := by
  have Hr := Lib.hid h
  have hmm := @run_makeMap Tryz.prog
  clear h
  by_cases hn : 3 ≤ n ∧ n ≤ 8
  rotate_left
  · have hn2 : n < 3 ∨ 8 < n := by omega
    have HN := Lib.hid hn
    have HN2 := Lib.hid hn2
    clear hn hn2
    go_enter Tryz.func19, Tryz.ntmps19
    go_wp2_with (go_at_call 50; refine (isStage_f n _ HN2.out).mono ?_; rintro e w' ⟨rfl, rfl⟩)
    go_ret
    exact ⟨ret_f (fun h => HN.out h.1), Below.refl _ _⟩
  obtain ⟨hn1, hn2⟩ := hn
  by_cases h4 : l.length ≤ 400
  rotate_left
  · go_enter Tryz.func19, Tryz.ntmps19
    go_wp2_with (go_at_call 50; refine (isStage_t n _ hn1 hn2).mono ?_; rintro e w' ⟨rfl, rfl⟩)
    go_ret
    exact ⟨ret_f (fun h => h4 h.2.1), Below.refl _ _⟩
  go_enter Tryz.func19, Tryz.ntmps19
  go_wp2_with (go_at_call 50; refine (isStage_t n _ hn1 hn2).mono ?_; rintro e w' ⟨rfl, rfl⟩)
  go_loopw [20] (fun i wr => ∃ k : Nat, k ≤ l.length ∧ i = .int .i64 k ∧ Sees wr w.heap.size k (seenTo l k) ∧ (∀ (j : Nat) (hj : j < l.length), j < k → blowAtP n l j hj) ∧ Below w.heap.size w wr) (fun i _ => l.length - (intOf i).toNat)
  case atStart => exact ⟨0, by omega, by rfl, by rw [seenTo_zero]; exact Sees.made w, fun j _ h => by omega, (Below.refl _ _).alloc (Nat.le_refl _) _⟩
  case round =>
    obtain ⟨k, hk, rfl, hse, hp, hbl⟩ := hrel
    have Hse := Lib.hid hse
    have Hp := Lib.hid hp
    have Hbl := Lib.hid hbl
    have hgs := hbl.size
    clear hse hp hbl
    by_cases hlt : k < l.length
    · obtain ⟨g, off, hA, hg, hcell⟩ := Hr.out.at hlt
      have r0 := (Hbl.out.cell (p := ⟨g, off + k * 3, none⟩) hg).trans (hcell 0 _ rfl)
      have r1 := (Hbl.out.cell (p := ⟨g, off + k * 3 + 1, none⟩) hg).trans (hcell 1 _ rfl)
      have r2 := (Hbl.out.cell (p := ⟨g, off + k * 3 + 2, none⟩) hg).trans (hcell 2 _ rfl)
      subst hA
      obtain ⟨x, hx⟩ : ∃ x, Hid (l[k] = x) := ⟨_, Lib.hid rfl⟩
      rw [hx.out] at r0 r1 r2
      have hgw : g < wr.heap.size := Nat.lt_of_lt_of_le hg hgs
      clear hcell
      by_cases c1 : inB x.row 0 800
      rotate_left
      · have e1 := B_f c1
        have C1 := Lib.hid c1
        clear c1
        go_wp2_with (first | (go_at_call 20; refine (within_any _ _ _ _).mono ?_; rintro e w' ⟨rfl, rfl⟩))
        go_ret
        exact ⟨ret_f (fun h => C1.out (by have := (h.2.2 k hlt).1; rw [hx.out] at this; exact this)), by repeat (first | exact Hbl.out | refine Below.alloc ?_ (by first | exact hgs | (simp; done) | (simp; omega)) _)⟩
      have e1 := B_t c1
      have C1 := Lib.hid c1
      clear c1
      by_cases c2 : inB x.place 1 n
      rotate_left
      · have e2 := B_f c2
        have C2 := Lib.hid c2
        clear c2
        go_wp2_with (first | (go_at_call 20; refine (within_any _ _ _ _).mono ?_; rintro e w' ⟨rfl, rfl⟩))
        go_ret
        exact ⟨ret_f (fun h => C2.out (by have := (h.2.2 k hlt).2.1; rw [hx.out] at this; exact this)), by repeat (first | exact Hbl.out | refine Below.alloc ?_ (by first | exact hgs | (simp; done) | (simp; omega)) _)⟩
      have e2 := B_t c2
      have C2 := Lib.hid c2
      clear c2
      by_cases c3 : inB x.at_ 0 1000000
      rotate_left
      · have e3 := B_f c3
        have C3 := Lib.hid c3
        clear c3
        go_wp2_with (first | (go_at_call 20; refine (within_any _ _ _ _).mono ?_; rintro e w' ⟨rfl, rfl⟩))
        go_ret
        exact ⟨ret_f (fun h => C3.out (by have := (h.2.2 k hlt).2.2.1; rw [hx.out] at this; exact this)), by repeat (first | exact Hbl.out | refine Below.alloc ?_ (by first | exact hgs | (simp; done) | (simp; omega)) _)⟩
      have e3 := B_t c3
      have C3 := Lib.hid c3
      clear c3
      have hir : Hid (inI64 x.row) := Lib.hid (by have := C1.out; unfold inB at this; unfold inI64; omega)
      have hip : Hid (inI64 x.place) := Lib.hid (by have := C2.out; unfold inB at this; unfold inI64; omega)
      have hse2 : Hid (Sees ((wr.alloc (.cells #[.int .i64 x.row, .int .i64 x.place, .int .i64 x.at_] 43)).alloc (.cells #[.int .i64 x.row, .int .i64 x.place] 77)) w.heap.size k (seenTo l k)) := Lib.hid ((Hse.out.later ((Below.refl _ _).alloc (Nat.le_refl _) _)).later ((Below.refl _ _).alloc (Nat.le_refl _) _))
      have hlook := hse2.out.look x.row x.place hir.out hip.out
      by_cases c4 : seenTo l k x.row x.place
      · rw [B_t c4] at hlook
        have C4 := Lib.hid c4
        clear c4
        go_wp2_with (first | (go_at_call 20; refine (within_any _ _ _ _).mono ?_; rintro e w' ⟨rfl, rfl⟩))
        go_ret
        exact ⟨ret_f (fun h => (h.2.2 k hlt).2.2.2 (by rw [hx.out]; exact C4.out)), by repeat (first | exact Hbl.out | refine Below.alloc ?_ (by first | exact hgs | (simp; done) | (simp; omega)) _)⟩
      · rw [B_f c4] at hlook
        have C4 := Lib.hid c4
        clear c4
        go_wp2_with (first | (go_at_call 20; refine (within_any _ _ _ _).mono ?_; rintro e w' ⟨rfl, rfl⟩) | (at_mapUpdate; refine wpList_see rfl _ _ _ rfl w.heap.size k (seenTo l k) x.row x.place hir.out hip.out rfl hse2.out (by omega) rfl rfl ?_; intro w9 hs9 hg9))
        have Hs9 := Lib.hid hs9
        have Hg9 := Lib.hid hg9
        clear hs9 hg9
        go_roundw
        case rel =>
          refine ⟨k + 1, by omega, by go_num, by rw [seenTo_succ l k hlt, hx.out]; exact Hs9.out, fun j hj h1 => ?_, ?_⟩
          · rcases Nat.lt_or_eq_of_le (Nat.le_of_lt_succ h1) with h' | rfl
            · exact Hp.out j hj h'
            · unfold blowAtP
              rw [hx.out]
              exact ⟨C1.out, C2.out, C3.out, C4.out⟩
          · exact ((Hbl.out.alloc hgs _).alloc (by simp; omega) _).grown Hg9.out (by simp; omega) (fun g hg => by injection hg with hg; omega)
        case measure => simp [intOf]; omega
    · obtain rfl : k = l.length := by omega
      go_wp2
      go_ret
      exact ⟨ret_t ⟨⟨hn1, hn2⟩, h4, fun i hi => Hp.out i hi hi⟩, Hbl.out⟩


set_option maxHeartbeats 3200000 in
theorem l23Good_any (n : Int) (l : List Blw) (A : Option Addr) (c : Nat) (w : World) (h : RdL w w.heap.size A 3 Blw.enc l) (hl : l.length ≤ 1048576) (hc : l.length ≤ c) :
    Calls Tryz.prog 24 #[.int .i64 n, .slice A l.length c] w fun e w' => e = .returned (.bool (B (blowsP n l))) ∧ Below w.heap.size w w' := by
  have Hr := Lib.hid h
  clear h
  go_enter Tryz.func24, Tryz.ntmps24
  go_wp2
  go_loopw [11] (fun i wr => ∃ k : Nat, k ≤ l.length ∧ i = .int .i64 k ∧ (∀ (j : Nat) (hj : j < l.length), j < k → blowAtP n l j hj) ∧ Below w.heap.size w wr) (fun i _ => l.length - (intOf i).toNat)
  case atStart => exact ⟨0, by omega, by rfl, fun j _ h => by omega, Below.refl _ _⟩
  case round =>
    obtain ⟨k, hk, rfl, hp, hbl⟩ := hrel
    have Hp := Lib.hid hp
    have Hbl := Lib.hid hbl
    have hgs := hbl.size
    clear hp hbl
    by_cases hlt : k < l.length
    · obtain ⟨g, off, hA, hg, hcell⟩ := Hr.out.at hlt
      have r0 := (Hbl.out.cell (p := ⟨g, off + k * 3, none⟩) hg).trans (hcell 0 _ rfl)
      have r1 := (Hbl.out.cell (p := ⟨g, off + k * 3 + 1, none⟩) hg).trans (hcell 1 _ rfl)
      have r2 := (Hbl.out.cell (p := ⟨g, off + k * 3 + 2, none⟩) hg).trans (hcell 2 _ rfl)
      subst hA
      obtain ⟨x, hx⟩ : ∃ x, Hid (l[k] = x) := ⟨_, Lib.hid rfl⟩
      rw [hx.out] at r0 r1 r2
      have hgw : g < wr.heap.size := Nat.lt_of_lt_of_le hg hgs
      clear hcell
      by_cases c1 : inB x.row 0 800
      rotate_left
      · have e1 := B_f c1
        have C1 := Lib.hid c1
        clear c1
        go_wp2_with (first | (go_at_call 53; refine (l1In_any _ _ _ _).mono ?_; rintro e w' ⟨rfl, rfl⟩))
        go_ret
        exact ⟨ret_f (fun h => C1.out (by have := (h.2.2 k hlt).1; rw [hx.out] at this; exact this)), by repeat (first | exact Hbl.out | refine Below.alloc ?_ (by first | exact hgs | (simp; done) | (simp; omega)) _)⟩
      have e1 := B_t c1
      have C1 := Lib.hid c1
      clear c1
      by_cases c2 : inB x.place 1 n
      rotate_left
      · have e2 := B_f c2
        have C2 := Lib.hid c2
        clear c2
        go_wp2_with (first | (go_at_call 53; refine (l1In_any _ _ _ _).mono ?_; rintro e w' ⟨rfl, rfl⟩))
        go_ret
        exact ⟨ret_f (fun h => C2.out (by have := (h.2.2 k hlt).2.1; rw [hx.out] at this; exact this)), by repeat (first | exact Hbl.out | refine Below.alloc ?_ (by first | exact hgs | (simp; done) | (simp; omega)) _)⟩
      have e2 := B_t c2
      have C2 := Lib.hid c2
      clear c2
      by_cases c3 : inB x.at_ 0 1000000
      rotate_left
      · have e3 := B_f c3
        have C3 := Lib.hid c3
        clear c3
        go_wp2_with (first | (go_at_call 53; refine (l1In_any _ _ _ _).mono ?_; rintro e w' ⟨rfl, rfl⟩))
        go_ret
        exact ⟨ret_f (fun h => C3.out (by have := (h.2.2 k hlt).2.2.1; rw [hx.out] at this; exact this)), by repeat (first | exact Hbl.out | refine Below.alloc ?_ (by first | exact hgs | (simp; done) | (simp; omega)) _)⟩
      have e3 := B_t c3
      have C3 := Lib.hid c3
      clear c3
      have hb0 : Hid (Below w.heap.size w (wr.alloc (.cells #[.int .i64 x.row, .int .i64 x.place, .int .i64 x.at_] 43))) := Lib.hid (Hbl.out.alloc hgs _)
      have a0 : Hid ((wr.alloc (.cells #[.int .i64 x.row, .int .i64 x.place, .int .i64 x.at_] 43)).cell? ⟨wr.heap.size, 0, none⟩ = some (.int .i64 x.row)) := Lib.hid (by simp [go_sem])
      have a1 : Hid ((wr.alloc (.cells #[.int .i64 x.row, .int .i64 x.place, .int .i64 x.at_] 43)).cell? ⟨wr.heap.size, 1, none⟩ = some (.int .i64 x.place)) := Lib.hid (by simp [go_sem])
      have hs0 : wr.heap.size < (wr.alloc (.cells #[.int .i64 x.row, .int .i64 x.place, .int .i64 x.at_] 43)).heap.size := by simp
      go_wp2_with (first | (go_at_call 53; refine (l1In_any _ _ _ _).mono ?_; rintro e w' ⟨rfl, rfl⟩))
      generalize (wr.alloc (.cells #[.int .i64 x.row, .int .i64 x.place, .int .i64 x.at_] 43)) = W at hb0 a0 a1 hs0 ⊢
      obtain ⟨gx, hgx⟩ : ∃ gx, Hid (wr.heap.size = gx) := ⟨_, Lib.hid rfl⟩
      rw [hgx.out] at a0 a1 hs0 ⊢
      go_loopw [37] (fun i wr2 => ∃ j : Nat, j ≤ k ∧ i = .int .i64 j ∧ (∀ (j' : Nat) (hj : j' < l.length), j' < j → ¬ (l[j'].row = x.row ∧ l[j'].place = x.place)) ∧ Below W.heap.size W wr2) (fun i _ => k - (intOf i).toNat)
      case atStart => exact ⟨0, by omega, by rfl, fun j _ h => by omega, Below.refl _ _⟩
      case round =>
        obtain ⟨j, hj, rfl, hq, hb2⟩ := hrel
        have Hq := Lib.hid hq
        have Hb2 := Lib.hid hb2
        have hg2 := hb2.size
        have hy2 : Hid (Below w.heap.size w wr) := Lib.hid (hb0.out.trans (Hb2.out.mono hb0.out.size))
        clear hq hb2
        by_cases hlj : j < k
        · obtain ⟨g', off', hA', hg', hcell'⟩ := Hr.out.at (k := j) (by omega)
          simp only [Option.some.injEq, Addr.mk.injEq, and_true] at hA'
          obtain ⟨rfl, rfl⟩ := hA'
          have q0 := (hy2.out.cell (p := ⟨g, off + j * 3, none⟩) hg).trans (hcell' 0 _ rfl)
          have q1 := (hy2.out.cell (p := ⟨g, off + j * 3 + 1, none⟩) hg).trans (hcell' 1 _ rfl)
          have q2 := (hy2.out.cell (p := ⟨g, off + j * 3 + 2, none⟩) hg).trans (hcell' 2 _ rfl)
          have b0 := (Hb2.out.cell (p := ⟨gx, 0, none⟩) hs0).trans a0.out
          have b1 := (Hb2.out.cell (p := ⟨gx, 1, none⟩) hs0).trans a1.out
          have hgw2 : g < wr.heap.size := Nat.lt_of_lt_of_le hg hy2.out.size
          have hxw2 : gx < wr.heap.size := Nat.lt_of_lt_of_le hs0 hg2
          obtain ⟨z, hz⟩ : ∃ z, Hid (l[j]'(by omega) = z) := ⟨_, Lib.hid rfl⟩
          rw [hz.out] at q0 q1 q2
          clear hcell'
          by_cases d1 : x.row = z.row
          · by_cases d2 : x.place = z.place
            · have f1 : (x.row == z.row) = true := by simpa using d1
              have f2 : (x.place == z.place) = true := by simpa using d2
              have D := Lib.hid (And.intro d1 d2)
              clear d1 d2
              go_wp2
              go_ret
              exact ⟨ret_f (fun h => (h.2.2 k hlt).2.2.2 ⟨j, by omega, hlj, by rw [hz.out, hx.out]; exact D.out.1.symm, by rw [hz.out, hx.out]; exact D.out.2.symm⟩), by repeat (first | exact hy2.out | refine Below.alloc ?_ (by first | exact hy2.out.size | (simp; done) | (simp; omega)) _)⟩
            · have f1 : (x.row == z.row) = true := by simpa using d1
              have f2 : (x.place == z.place) = false := by simpa using d2
              have D := Lib.hid d2
              clear d1 d2
              go_wp2
              go_roundw
              case rel =>
                refine ⟨j + 1, by omega, by go_num, fun j' hj1 h1 => ?_, Hb2.out.alloc hg2 _⟩
                rcases Nat.lt_or_eq_of_le (Nat.le_of_lt_succ h1) with h' | rfl
                · exact Hq.out j' hj1 h'
                · rw [hz.out]; exact fun h => D.out h.2.symm
              case measure => simp [intOf]; omega
          · have f1 : (x.row == z.row) = false := by simpa using d1
            have D := Lib.hid d1
            clear d1
            go_wp2
            go_roundw
            case rel =>
              refine ⟨j + 1, by omega, by go_num, fun j' hj1 h1 => ?_, Hb2.out.alloc hg2 _⟩
              rcases Nat.lt_or_eq_of_le (Nat.le_of_lt_succ h1) with h' | rfl
              · exact Hq.out j' hj1 h'
              · rw [hz.out]; exact fun h => D.out h.1.symm
            case measure => simp [intOf]; omega
        · obtain rfl : j = k := by omega
          go_wp2
          go_roundw
          case rel =>
            refine ⟨j + 1, by omega, by go_num, fun j' hj1 h1 => ?_, hy2.out⟩
            rcases Nat.lt_or_eq_of_le (Nat.le_of_lt_succ h1) with h' | rfl
            · exact Hp.out j' hj1 h'
            · unfold blowAtP
              rw [hx.out]
              exact ⟨C1.out, C2.out, C3.out, fun ⟨j2, h2, h3, h4, h5⟩ => Hq.out j2 h2 h3 ⟨h4, h5⟩⟩
          case measure => simp [intOf]; omega
    · obtain rfl : k = l.length := by omega
      by_cases c5 : inB n 3 8
      · have e5 := B_t c5
        have C5 := Lib.hid c5
        clear c5
        by_cases h4 : l.length ≤ 400
        · go_wp2_with (first | (go_at_call 53; refine (l1In_any _ _ _ _).mono ?_; rintro e w' ⟨rfl, rfl⟩))
          go_ret
          exact ⟨by rw [B_t (show blowsP n l from ⟨C5.out, h4, fun i hi => Hp.out i hi hi⟩)]; simp; omega, Hbl.out⟩
        · go_wp2_with (first | (go_at_call 53; refine (l1In_any _ _ _ _).mono ?_; rintro e w' ⟨rfl, rfl⟩))
          go_ret
          exact ⟨by rw [B_f (show ¬ blowsP n l from fun x => h4 x.2.1)]; simp; omega, Hbl.out⟩
      · have e5 := B_f c5
        have C5 := Lib.hid c5
        clear c5
        go_wp2_with (first | (go_at_call 53; refine (l1In_any _ _ _ _).mono ?_; rintro e w' ⟨rfl, rfl⟩))
        go_ret
        exact ⟨ret_f (fun h => C5.out h.1), Hbl.out⟩
end Go.Proofs.YtglnehinmdmgmaaGreat
