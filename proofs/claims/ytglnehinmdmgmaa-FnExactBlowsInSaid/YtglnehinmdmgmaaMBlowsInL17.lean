import Derived.Test.YtglnehinmdmgmaaMBlowsInL13
import Derived.Test.YtglnehinmdmgmaaRows
import Derived.Test.YtglnehinmdmgmaaMBlowsInL00
import Derived.Maps.Own
import Derived.Maps.Views
import Derived.Maps.OwnOps
import Derived.DeepKeys4
import Derived.Carry
/-
  The arguments of a matching: the contracts of both sides' tests.
-/
namespace Go.Proofs.Ytglnehinmdmgmaa
open Go.RowKit
set_option linter.unusedVariables false
set_option linter.unusedSimpArgs false
set_option maxRecDepth 100000




set_option maxHeartbeats 1600000 in
theorem goodMatching_any (a b : List Int) (s : Int) (A B_ : Option Addr) (c c' : Nat) (w : World) (ha : RdL w w.heap.size A 1 encInt a) (hb : RdL w w.heap.size B_ 1 encInt b) (hla : a.length ≤ 1048576) (hlb : b.length ≤ 1048576) : Calls Try.prog 57 #[.slice A a.length c, .slice B_ b.length c', .int .i64 s] w fun e w' => e = .returned (.bool (B (askP a b s))) ∧ Below w.heap.size w w' := by
  have Ha := Lib.hid ha
  have Hb := Lib.hid hb
  clear ha hb
  by_cases h_0 : timesP a
  rotate_left
  · have H := Lib.hid h_0
    have e_0 := B_f h_0
    clear h_0
    go_enter Try.func57, Try.ntmps57
    go_wp2_with (first | (go_at_call 73; with_reducible show Calls _ _ #[Value.slice A a.length c] _ _; refine (iTimes_any a A c w Ha.out hla).mono ?_; rintro e w1 ⟨rfl, hb1⟩) | (go_at_call 73; with_reducible show Calls _ _ #[Value.slice B_ b.length c'] _ _; refine (iTimes_any b B_ c' w1 ((Hb.out.below hb1 (Nat.le_refl _)).more hb1.size) hlb).mono ?_; rintro e w2 ⟨rfl, hb2⟩) | (go_at_call 50; refine (within_any _ _ _ _).mono ?_; rintro e w' ⟨rfl, rfl⟩))
    go_ret
    exact ⟨ret_f (fun x => H.out x.1), (by first | exact hb1.trans (hb2.mono hb1.size) | exact hb1)⟩
  have H_0 := Lib.hid h_0
  have e_0 := B_t h_0
  clear h_0
  by_cases h_1 : timesP b
  rotate_left
  · have H := Lib.hid h_1
    have e_1 := B_f h_1
    clear h_1
    go_enter Try.func57, Try.ntmps57
    go_wp2_with (first | (go_at_call 73; with_reducible show Calls _ _ #[Value.slice A a.length c] _ _; refine (iTimes_any a A c w Ha.out hla).mono ?_; rintro e w1 ⟨rfl, hb1⟩) | (go_at_call 73; with_reducible show Calls _ _ #[Value.slice B_ b.length c'] _ _; refine (iTimes_any b B_ c' w1 ((Hb.out.below hb1 (Nat.le_refl _)).more hb1.size) hlb).mono ?_; rintro e w2 ⟨rfl, hb2⟩) | (go_at_call 50; refine (within_any _ _ _ _).mono ?_; rintro e w' ⟨rfl, rfl⟩))
    go_ret
    exact ⟨ret_f (fun x => H.out x.2.1), (by first | exact hb1.trans (hb2.mono hb1.size) | exact hb1)⟩
  have H_1 := Lib.hid h_1
  have e_1 := B_t h_1
  clear h_1
  by_cases h_2 : inB s 0 10000
  rotate_left
  · have H := Lib.hid h_2
    have e_2 := B_f h_2
    clear h_2
    go_enter Try.func57, Try.ntmps57
    go_wp2_with (first | (go_at_call 73; with_reducible show Calls _ _ #[Value.slice A a.length c] _ _; refine (iTimes_any a A c w Ha.out hla).mono ?_; rintro e w1 ⟨rfl, hb1⟩) | (go_at_call 73; with_reducible show Calls _ _ #[Value.slice B_ b.length c'] _ _; refine (iTimes_any b B_ c' w1 ((Hb.out.below hb1 (Nat.le_refl _)).more hb1.size) hlb).mono ?_; rintro e w2 ⟨rfl, hb2⟩) | (go_at_call 50; refine (within_any _ _ _ _).mono ?_; rintro e w' ⟨rfl, rfl⟩))
    go_ret
    exact ⟨ret_f (fun x => H.out x.2.2), (by first | exact hb1.trans (hb2.mono hb1.size) | exact hb1)⟩
  have H_2 := Lib.hid h_2
  have e_2 := B_t h_2
  clear h_2
  go_enter Try.func57, Try.ntmps57
  go_wp2_with (first | (go_at_call 73; with_reducible show Calls _ _ #[Value.slice A a.length c] _ _; refine (iTimes_any a A c w Ha.out hla).mono ?_; rintro e w1 ⟨rfl, hb1⟩) | (go_at_call 73; with_reducible show Calls _ _ #[Value.slice B_ b.length c'] _ _; refine (iTimes_any b B_ c' w1 ((Hb.out.below hb1 (Nat.le_refl _)).more hb1.size) hlb).mono ?_; rintro e w2 ⟨rfl, hb2⟩) | (go_at_call 50; refine (within_any _ _ _ _).mono ?_; rintro e w' ⟨rfl, rfl⟩))
  go_ret
  exact ⟨ret_t ⟨H_0.out, H_1.out, H_2.out⟩, (by first | exact hb1.trans (hb2.mono hb1.size) | exact hb1)⟩
set_option maxHeartbeats 1600000 in
theorem l22Asked_any (a b : List Int) (s : Int) (A B_ : Option Addr) (c c' : Nat) (w : World) (ha : RdL w w.heap.size A 1 encInt a) (hb : RdL w w.heap.size B_ 1 encInt b) (hla : a.length ≤ 1048576) (hlb : b.length ≤ 1048576) : Calls Try.prog 52 #[.slice A a.length c, .slice B_ b.length c', .int .i64 s] w fun e w' => e = .returned (.bool (B (askP a b s))) ∧ Below w.heap.size w w' := by
  have Ha := Lib.hid ha
  have Hb := Lib.hid hb
  clear ha hb
  by_cases h_0 : timesP a
  rotate_left
  · have H := Lib.hid h_0
    have e_0 := B_f h_0
    clear h_0
    go_enter Try.func52, Try.ntmps52
    go_wp2_with (first | (go_at_call 70; with_reducible show Calls _ _ #[Value.slice A a.length c] _ _; refine (l22Times_any a A c w Ha.out hla).mono ?_; rintro e w1 ⟨rfl, hb1⟩) | (go_at_call 70; with_reducible show Calls _ _ #[Value.slice B_ b.length c'] _ _; refine (l22Times_any b B_ c' w1 ((Hb.out.below hb1 (Nat.le_refl _)).more hb1.size) hlb).mono ?_; rintro e w2 ⟨rfl, hb2⟩) | (go_at_call 37; refine (l1In_any _ _ _ _).mono ?_; rintro e w' ⟨rfl, rfl⟩))
    go_ret
    exact ⟨ret_f (fun x => H.out x.1), (by first | exact hb1.trans (hb2.mono hb1.size) | exact hb1)⟩
  have H_0 := Lib.hid h_0
  have e_0 := B_t h_0
  clear h_0
  by_cases h_1 : timesP b
  rotate_left
  · have H := Lib.hid h_1
    have e_1 := B_f h_1
    clear h_1
    go_enter Try.func52, Try.ntmps52
    go_wp2_with (first | (go_at_call 70; with_reducible show Calls _ _ #[Value.slice A a.length c] _ _; refine (l22Times_any a A c w Ha.out hla).mono ?_; rintro e w1 ⟨rfl, hb1⟩) | (go_at_call 70; with_reducible show Calls _ _ #[Value.slice B_ b.length c'] _ _; refine (l22Times_any b B_ c' w1 ((Hb.out.below hb1 (Nat.le_refl _)).more hb1.size) hlb).mono ?_; rintro e w2 ⟨rfl, hb2⟩) | (go_at_call 37; refine (l1In_any _ _ _ _).mono ?_; rintro e w' ⟨rfl, rfl⟩))
    go_ret
    exact ⟨ret_f (fun x => H.out x.2.1), (by first | exact hb1.trans (hb2.mono hb1.size) | exact hb1)⟩
  have H_1 := Lib.hid h_1
  have e_1 := B_t h_1
  clear h_1
  by_cases h_2 : inB s 0 10000
  rotate_left
  · have H := Lib.hid h_2
    have e_2 := B_f h_2
    clear h_2
    go_enter Try.func52, Try.ntmps52
    go_wp2_with (first | (go_at_call 70; with_reducible show Calls _ _ #[Value.slice A a.length c] _ _; refine (l22Times_any a A c w Ha.out hla).mono ?_; rintro e w1 ⟨rfl, hb1⟩) | (go_at_call 70; with_reducible show Calls _ _ #[Value.slice B_ b.length c'] _ _; refine (l22Times_any b B_ c' w1 ((Hb.out.below hb1 (Nat.le_refl _)).more hb1.size) hlb).mono ?_; rintro e w2 ⟨rfl, hb2⟩) | (go_at_call 37; refine (l1In_any _ _ _ _).mono ?_; rintro e w' ⟨rfl, rfl⟩))
    go_ret
    exact ⟨ret_f (fun x => H.out x.2.2), (by first | exact hb1.trans (hb2.mono hb1.size) | exact hb1)⟩
  have H_2 := Lib.hid h_2
  have e_2 := B_t h_2
  clear h_2
  go_enter Try.func52, Try.ntmps52
  go_wp2_with (first | (go_at_call 70; with_reducible show Calls _ _ #[Value.slice A a.length c] _ _; refine (l22Times_any a A c w Ha.out hla).mono ?_; rintro e w1 ⟨rfl, hb1⟩) | (go_at_call 70; with_reducible show Calls _ _ #[Value.slice B_ b.length c'] _ _; refine (l22Times_any b B_ c' w1 ((Hb.out.below hb1 (Nat.le_refl _)).more hb1.size) hlb).mono ?_; rintro e w2 ⟨rfl, hb2⟩) | (go_at_call 37; refine (l1In_any _ _ _ _).mono ?_; rintro e w' ⟨rfl, rfl⟩))
  go_ret
  exact ⟨ret_t ⟨H_0.out, H_1.out, H_2.out⟩, (by first | exact hb1.trans (hb2.mono hb1.size) | exact hb1)⟩
end Go.Proofs.Ytglnehinmdmgmaa

/-
  A set of pairs of integers that the call keeps as a map to true: in plain words, with the laws of a look-up and of a store.
-/
namespace Go.Proofs.Ytglnehinmdmgmaa
open Go.RowKit
open Go.Maps (Keyed IsMap)
set_option linter.unusedVariables false
set_option linter.unusedSimpArgs false
set_option maxRecDepth 100000

def inI64 (n : Int) : Prop := -9223372036854775808 ≤ n ∧ n ≤ 9223372036854775807
def pairV (r p : Int) : Value := .agg #[.int .i64 r, .int .i64 p]
theorem pair_keyed : Keyed Try.prog 77 := Keyed.of_law (deep_law_laid (by kernel_rfl) (m := 2) (by omega) (of_decide_eq_true (by kernel_rfl)) (by kernel_rfl) (by kernel_rfl))
theorem pair_ty : Try.prog.underlying 77 = some (.array 2 3) := rfl
theorem pairmap_ty : Try.prog.underlying 76 = some (.map 77 4) := rfl
theorem pair_lit (r p : Int) (hr : inI64 r) (hp : inI64 p) : ∃ l, keyOf Try.prog 77 (pairV r p) = some l := by
  have hkt : Try.prog.keyType 77 = true := by kernel_rfl
  have hc2 : Try.prog.cellsOf 77 = 2 := by kernel_rfl
  have hc1 : Try.prog.cellsOf 3 = 1 := by kernel_rfl
  have hf : (pairV r p).formed Try.prog 77 = true := by
    unfold pairV Value.formed
    rw [pair_ty, hc2]
    rfl
  obtain ⟨d, hd⟩ : ∃ d, Try.prog.types.size + 1 = d + 1 + 1 := ⟨Try.prog.types.size - 1, by
    have : 0 < Try.prog.types.size := of_decide_eq_true (by kernel_rfl)
    omega⟩
  have hi : ∀ n : Int, inI64 n → (Lit.int .i64 n).wf = true := fun n hn => by
    unfold inI64 at hn
    simp [Lit.wf, IntKind.min, IntKind.max, IntKind.signed, IntKind.bits]
    omega
  have hI : Try.prog.underlying 3 = some (.int .i64) := rfl
  have hone : ∀ n : Int, inI64 n → Try.prog.keyLits (d + 1) 3 [.int .i64 n] = some [.int .i64 n] := fun n hn => by
    unfold Program.keyLits
    rw [hI]
    simp [hi n hn]
  have hlits : Try.prog.keyLits (Try.prog.types.size + 1) 77 (pairV r p).cells.toList = some [.int .i64 r, .int .i64 p] := by
    rw [hd]
    unfold Program.keyLits
    rw [pair_ty]
    simp only [pairV, Value.cells, hc2, hc1]
    simp [List.range_succ, hone r hr, hone p hp]
  unfold keyOf
  rw [pair_ty]
  simp only [hkt, hf, hlits]
  exact ⟨_, rfl⟩
theorem pair_inj {r p r' p' : Int} (h : pairV r p = pairV r' p') : r = r' ∧ p = p' := by
  unfold pairV at h
  simp only [Value.agg.injEq] at h
  have h1 := congrArg (fun a : Array Value => a[0]?) h
  have h2 := congrArg (fun a : Array Value => a[1]?) h
  simp at h1 h2
  exact ⟨h1, h2⟩
/-- Block g is the call's own map of at most n entries; the pairs in S are in it. -/
def Sees (w : World) (g n : Nat) (S : Int → Int → Prop) : Prop :=
  ∃ D : DataW Unit, w.ownsMap Try.prog 77 (plainElem Try.prog 4) g n D ∧ IsMap D ∧ ∀ (r p : Int) (l : Lit), keyOf Try.prog 77 (pairV r p) = some l → D.atKey l (.lit (.bool false)) = .lit (.bool (B (S r p)))
theorem Sees.made (w : World) : Sees (w.alloc (.map #[] 0)) w.heap.size 0 (fun _ _ => False) :=
  ⟨.map [], World.ownsMap_made w _ _ _, Maps.isMap_empty, fun r p l _ => by simp [DataW.atKey]⟩
theorem Sees.kept {w w' : World} {g n : Nat} {S : Int → Int → Prop} (h : Sees w g n S) (hb : w'.heap[g]? = w.heap[g]?) : Sees w' g n S := by
  obtain ⟨D, ⟨es, clock, hb0, F, hs, hD⟩, hm, ha⟩ := h
  exact ⟨D, ⟨es, clock, hb.trans hb0, F, hs, hD⟩, hm, ha⟩
theorem Sees.lt {w : World} {g n : Nat} {S : Int → Int → Prop} (h : Sees w g n S) : g < w.heap.size := by
  obtain ⟨D, hD, _⟩ := h; exact hD.lt
theorem Sees.later {w w' : World} {g n : Nat} {S : Int → Int → Prop} (h : Sees w g n S) (hb : Below w.heap.size w w') : Sees w' g n S := h.kept (hb.block g h.lt)
/-- The look-up. -/
theorem Sees.look {w : World} {g n : Nat} {S : Int → Int → Prop} (h : Sees w g n S) (r p : Int) (hr : inI64 r) (hp : inI64 p) :
    (Instr.lookup 76 (.map (some g)) (.agg #[.int .i64 r, .int .i64 p]) false).run Try.prog w = .ok (.bool (B (S r p))) w := by
  obtain ⟨D, hD, _, ha⟩ := h
  obtain ⟨l, hl⟩ := pair_lit r p hr hp
  have hz : (zeroValue 4).run Try.prog w = .ok (.bool false) w := by kernel_rfl
  obtain ⟨v, ps, hrun, hv⟩ := hD.lookup pair_keyed pairmap_ty hz (plainElem_bool rfl false) hl
  rw [ha r p l hl] at hv
  have : v = .bool (B (S r p)) := by
    unfold plainElem at hv
    rw [show Try.prog.underlying 4 = some .bool from rfl] at hv
    cases v <;> simp at hv
    rw [hv.1]
  rw [← this]
  exact hrun
section
variable {ops : Array Oper} {rest : List Oper} {o : Oper} {a : Act} {Q : Exit → Act → World → Prop} {w : World}
/-- The store of true. -/
theorem wpList_see (hg : o.guard = none) (m x v : Operand) (hop : o.op = Op.mapUpdate 76 m x v) (g n : Nat) (S : Int → Int → Prop) (r p : Int) (hr : inI64 r) (hp : inI64 p)
    (hm : a.eval m = .map (some g)) (h : Sees w g n S) (hn : n ≤ 1000000) (hx : a.eval x = .agg #[.int .i64 r, .int .i64 p]) (hv : a.eval v = .bool true)
    (hK : ∀ w', Sees w' g (n + 1) (fun r' p' => S r' p' ∨ (r' = r ∧ p' = p)) → w.grownBy w' (some g) → wpList Try.prog ops Q rest (a.put o.dst undef) w') : wpList Try.prog ops Q (o :: rest) a w := by
  obtain ⟨D, hD, him, ha⟩ := h
  obtain ⟨l, hl⟩ := pair_lit r p hr hp
  refine wpList_mapUpdate_own w hg m x v _ hop _ _ pair_keyed pairmap_ty _ g n D hm hD (by unfold maxLen; omega) _ _ l hx hv hl _ _ (plainElem_bool rfl true) ?_
  intro w' hown hgrow
  refine hK w' ⟨_, hown, him.put _ _, fun r' p' l' hl' => ?_⟩ hgrow
  by_cases e : l' = l
  · subst e
    obtain ⟨e1, e2⟩ := pair_inj (pair_keyed.inj hl' hl)
    rw [Maps.atKey_put_same him (pair_keyed.key hl), B_t (.inr ⟨e1, e2⟩)]
  · rw [Maps.atKey_put_other e, ha r' p' l' hl']
    rw [B_iff (p := S r' p') (q := S r' p' ∨ (r' = r ∧ p' = p)) ⟨.inl, fun h => h.resolve_right (fun ⟨e1, e2⟩ => by
      subst e1 e2
      rw [hl] at hl'
      exact e (Option.some.inj hl').symm)⟩]
end
end Go.Proofs.Ytglnehinmdmgmaa
