import Derived.Test.YtkegbbndmfnolaaGreatDoorMHeardL08
import Derived.Test.YtkegbbndmfnolaaGreatDoorMHeardL06
import Derived.ArgAppend
import Derived.Test.YtkegbbndmfnolaaGreatDoorMHeardL07
/-
  Steps of the one walk through a region that draws its order and makes memory. Words of our own that know no program.
-/
namespace Go.Proofs.YtkegbbndmfnolaaGreatDoor
open Go.RowKit
set_option linter.unusedVariables false
set_option linter.unusedSimpArgs false

section
variable {lo hi : Nat}
theorem loc_pure (p : Prop) : GLoc ⟨lo, hi, fun _ => p, true⟩ := fun _ _ _ _ _ h => h
theorem loc_ex {α : Sort _} {φ : α → World → Prop} (h : ∀ x, GLoc ⟨lo, hi, φ x, true⟩) : GLoc ⟨lo, hi, fun w => ∃ x, φ x w, true⟩ := fun w w' h1 h2 h3 ⟨x, hx⟩ => ⟨x, h x w w' h1 h2 h3 hx⟩
theorem loc_and {φ ψ : World → Prop} (h : GLoc ⟨lo, hi, φ, true⟩) (k : GLoc ⟨lo, hi, ψ, true⟩) : GLoc ⟨lo, hi, fun w => φ w ∧ ψ w, true⟩ := fun w w' h1 h2 h3 ⟨a, b⟩ => ⟨h w w' h1 h2 h3 a, k w w' h1 h2 h3 b⟩
theorem cells_keep {w w' : World} {g n : Nat} {f : Nat → Value} (h : Cells w g n f) (h1 : w.heap.size ≤ w'.heap.size) (h2 : w'.heap[g]? = w.heap[g]?) : Cells w' g n f :=
  ⟨Nat.lt_of_lt_of_le h.1 h1, fun i hi => ⟨(World.cell?_of_block (a := ⟨g, i, none⟩) h2).trans (h.2 i hi).1, (World.frozen?_of_block (a := ⟨g, i, none⟩) h2).trans (h.2 i hi).2⟩⟩
theorem loc_own {α : Type} {enc : α → List Value} {size b c : Nat} {A : Option Addr} {l : List α} (h1 : lo ≤ b) (h2 : c ≤ hi) : GLoc ⟨lo, hi, fun w => OwnL w b c A size enc l, true⟩ := fun w w' k1 k2 _ h => by
  rcases h with h | ⟨g, f, hA, g1, g2, hc, hf⟩
  · exact .inl h
  · exact .inr ⟨g, f, hA, g1, g2, cells_keep hc k1 (k2 g (Nat.le_trans h1 g1) (Nat.lt_of_lt_of_le g2 h2)), hf⟩
end
/-- A box of n cells that the region itself makes. -/
def gBox (n : Nat) : Value → Nat → Nat → World → Prop := fun u lo hi w => u = .pointer (some ⟨lo, 0, none⟩) ∧ hi = lo + 1 ∧ ∃ f, Cells w lo n f
theorem loc_box (n : Nat) (u : Value) (lo hi : Nat) : GLoc ⟨lo, hi, gBox n u lo hi, true⟩ := fun w w' h1 h2 h3 h => by
  obtain ⟨a, b, f, c⟩ := h
  exact ⟨a, b, f, cells_keep c h1 (h2 lo (Nat.le_refl _) (by show lo < hi; omega))⟩

theorem Later.cell {w : World} {p : Addr} {v : Value} (h : w.cell? p = some v) (hp : p.block < w.heap.size) (x : Later w) : x.W.cell? p = some v := (x.hb.cell hp).trans h
theorem Later.frozen {w : World} {p : Addr} {b : Bool} (h : w.frozen? p = b) (hp : p.block < w.heap.size) (x : Later w) : x.W.frozen? p = b := (x.hb.frozen hp).trans h
def inC (w : World) : World → Prop := fun w' => ∃ x : Later w, w' = x.W
theorem inC.below {w w' : World} (h : inC w w') : Below w.heap.size w w' := by obtain ⟨x, rfl⟩ := h; exact x.hb
theorem inC.of {w w' : World} (h : Below w.heap.size w w') : inC w w' := ⟨⟨w', h⟩, rfl⟩
theorem inC.size (w : World) : ∀ w', inC w w' → w.heap.size ≤ w'.heap.size := fun w' h => h.below.size
theorem inC.step {w w' w'' : World} (h : inC w w') (hb : Below w'.heap.size w' w'') : inC w w'' := inC.of (h.below.trans (hb.mono h.below.size))
theorem eff_of_below {b0 : Nat} {w w' : World} (h : Below w.heap.size w w') : GEff b0 w w' := ⟨h.size, fun k _ hk => h.block k hk⟩

section
variable {P : Program} {ops : Array Oper} {md : Region.Mode} {C : World → Prop} {b0 fu : Nat} {kind : Nat → GKind} {Q : Act → GEnv → Prop}
/-- A run of operations that hand values on. -/
theorem wpG_quiets : ∀ (n : Nat) (l : List Oper) (k : Nat) (a : Act) (E : GEnv), (∀ w, GHolds C b0 E w → C w) → (∀ j, j < n → l[j]? = ops[k + j]? ∧ (∃ o, ops[k + j]? = some o ∧ qOpB o.op = true) ∧ kind (k + j) = .q) →
    wpQuiet P ops C (fun a' => wpG P md ops C b0 fu kind Q (l.drop n) (k + n) a' E) (l.take n) a → wpG P md ops C b0 fu kind Q l k a E
  | 0, l, k, a, E, _, _, h => by simpa [wpQuiet] using h
  | n + 1, [], k, a, E, _, hk, h => by
    obtain ⟨h1, ⟨o, ho, _⟩, _⟩ := hk 0 (by omega)
    rw [ho] at h1; simp at h1
  | n + 1, o :: l, k, a, E, hcls, hk, h => by
    obtain ⟨h1, ⟨o', ho, hq⟩, hkd⟩ := hk 0 (by omega)
    simp only [Nat.add_zero, List.getElem?_cons_zero] at h1 ho hkd
    obtain rfl : o = o' := by rw [ho] at h1; injection h1
    have ih := fun a' => wpG_quiets n l (k + 1) a' E hcls (fun j hj => by
      have := hk (j + 1) (by omega)
      rw [List.getElem?_cons_succ] at this
      rw [show k + 1 + j = k + (j + 1) by omega]; exact this)
    simp only [List.take_succ_cons, List.drop_succ_cons] at h
    refine ⟨o, ho, ?_⟩
    rw [hkd]
    refine ⟨hcls, ?_⟩
    unfold wpQuiet at h
    have e : k + 1 + n = k + (n + 1) := by omega
    by_cases hw : Region.wanted o (yielded ops a.tmps) = true
    · rw [if_pos hw] at h
      obtain ⟨v, h2, h3⟩ := h
      exact ⟨v, .inl (.inl hq), .inl ⟨hw, h2⟩, ih _ (by rw [e]; exact h3)⟩
    · rw [if_neg hw] at h
      exact ⟨undef, .inl (.inl hq), .inr ⟨by simpa using hw, rfl⟩, ih _ (by rw [e]; exact h)⟩
variable {o : Oper} {rest : List Oper} {k : Nat} {a : Act} {E : GEnv}
/-- A call of a Go function. -/
theorem wpG_call (Ψ : List Value → Value → Nat → Nat → World → Prop) (ho : ops[k]? = some o) (hk : kind k = .s Ψ) (hg : o.guard = none) (ht : E.top = none) (hloc : ∀ u lo hi, GLoc ⟨lo, hi, Ψ (gArgs o a) u lo hi, true⟩) (f : FuncId) (vals : Array Value)
    (henter : ∀ w, (execOp a.eval o).run P w = .ok (.enter f vals) w)
    (hcall : ∀ w, C w → (∀ d ∈ gDeps md ops fu k, (E.at_ d).hi ≤ w.heap.size ∧ (E.at_ d).φ w) → Calls P f vals w fun e w' => ∃ u, e = .returned u ∧ C w' ∧ GEff b0 w w' ∧ Ψ (gArgs o a) u w.heap.size w'.heap.size w')
    (hK : ∀ u lo hi, GSat C b0 (E.upd k ⟨lo, hi, Ψ (gArgs o a) u lo hi, true⟩) → wpG P md ops C b0 fu kind Q rest (k + 1) (a.put o.dst u) (E.upd k ⟨lo, hi, Ψ (gArgs o a) u lo hi, true⟩)) : wpG P md ops C b0 fu kind Q (o :: rest) k a E := by
  refine ⟨o, ho, ?_⟩
  rw [hk]
  refine ⟨hg, ht, hloc, fun w hw hd => ?_, hK⟩
  rw [henter w]
  exact hcall w hw hd
/-- A value that is known only where it stands in memory that the region has made. -/
theorem wpG_val (Ψ : List Value → Value → Nat → Nat → World → Prop) (ho : ops[k]? = some o) (hk : kind k = .s Ψ) (hg : o.guard = none) (ht : E.top = none) (hloc : ∀ u lo hi, GLoc ⟨lo, hi, Ψ (gArgs o a) u lo hi, true⟩)
    (hrun : ∀ w, C w → (∀ d ∈ gDeps md ops fu k, (E.at_ d).hi ≤ w.heap.size ∧ (E.at_ d).φ w) → ∃ u w', (execOp a.eval o).run P w = .ok (.value u) w' ∧ C w' ∧ GEff b0 w w' ∧ Ψ (gArgs o a) u w.heap.size w'.heap.size w')
    (hK : ∀ u lo hi, GSat C b0 (E.upd k ⟨lo, hi, Ψ (gArgs o a) u lo hi, true⟩) → wpG P md ops C b0 fu kind Q rest (k + 1) (a.put o.dst u) (E.upd k ⟨lo, hi, Ψ (gArgs o a) u lo hi, true⟩)) : wpG P md ops C b0 fu kind Q (o :: rest) k a E := by
  refine ⟨o, ho, ?_⟩
  rw [hk]
  refine ⟨hg, ht, hloc, fun w hw hd => ?_, hK⟩
  obtain ⟨u, w', hr, h⟩ := hrun w hw hd
  rw [hr]
  exact h
/-- A box is made. -/
theorem wpG_box {w0 : World} (n : Nat) (Z : Array Value) (T : TypeId) (ho : ops[k]? = some o) (hk : kind k = .s (fun _ => gBox n)) (hg : o.guard = none) (ht : E.top = none) (hn : Z.size = n)
    (hrun : ∀ w, (execOp a.eval o).run P w = .ok (.value (.pointer (some ⟨w.heap.size, 0, none⟩))) (w.alloc (.cells Z T)))
    (hK : ∀ u lo hi, GSat (inC w0) w0.heap.size (E.upd k ⟨lo, hi, gBox n u lo hi, true⟩) → wpG P md ops (inC w0) w0.heap.size fu kind Q rest (k + 1) (a.put o.dst u) (E.upd k ⟨lo, hi, gBox n u lo hi, true⟩)) : wpG P md ops (inC w0) w0.heap.size fu kind Q (o :: rest) k a E := by
  have hbw : ∀ w : World, Below w.heap.size w (w.alloc (.cells Z T)) := fun w => (Below.refl _ _).alloc (Nat.le_refl _) _
  refine wpG_val (fun _ => gBox n) ho hk hg ht (loc_box n) (fun w hw _ => ⟨_, _, hrun w, hw.step (hbw w), eff_of_below (hbw w), rfl, by simp, fun i => Z.getD i undef, Cells.new w Z T n _ fun i hi => ?_⟩) hK
  simp [Array.getD, show i < Z.size by omega]
/-- An empty slice is made. -/
def gNil : Value → Nat → Nat → World → Prop := fun u lo hi w => u = .slice (some ⟨lo, 0, none⟩) 0 0
theorem wpG_nil {w0 : World} (T : TypeId) (ho : ops[k]? = some o) (hk : kind k = .s (fun _ => gNil)) (hg : o.guard = none) (ht : E.top = none)
    (hrun : ∀ w, (execOp a.eval o).run P w = .ok (.value (.slice (some ⟨w.heap.size, 0, none⟩) 0 0)) (w.alloc (.cells #[] T)))
    (hK : ∀ u lo hi, GSat (inC w0) w0.heap.size (E.upd k ⟨lo, hi, gNil u lo hi, true⟩) → wpG P md ops (inC w0) w0.heap.size fu kind Q rest (k + 1) (a.put o.dst u) (E.upd k ⟨lo, hi, gNil u lo hi, true⟩)) : wpG P md ops (inC w0) w0.heap.size fu kind Q (o :: rest) k a E := by
  have hbw : ∀ w : World, Below w.heap.size w (w.alloc (.cells #[] T)) := fun w => (Below.refl _ _).alloc (Nat.le_refl _) _
  exact wpG_val (fun _ => gNil) ho hk hg ht (fun u lo hi => loc_pure _) (fun w hw _ => ⟨_, _, hrun w, hw.step (hbw w), eff_of_below (hbw w), rfl⟩) hK
/-- A list that is not empty, appended to a slice without room. -/
theorem wpG_appendNew {w0 : World} {α : Type} {enc : α → List Value} (s x : Operand) (t : TypeId) (hop : o.op = .call { callee := .builtin .append, args := #[s, x], argTypes := #[t, t] })
    (e : TypeId) (z : Value) (size bytes : Nat) (h1 : P.underlying t = some (.slice e)) (hinfo : (P.info? e).map (fun i => (i.zero, i.size, i.bytes)) = some (some z, size, bytes)) (h6 : z.cells.size = size) (h7 : 0 < size)
    (gs : Addr) (hs : a.eval s = .slice (some gs) 0 0) (ys : List α) (A : Option Addr) (c : Nat) (hx : a.eval x = .slice A ys.length c) (hr : ∀ w, inC w0 w → RdL w w.heap.size A size enc ys) (hne : 0 < ys.length)
    (henc : ∀ x, (enc x).length = size) (hn : ys.length ≤ 1000000000) (hb : bytes ≤ 1000)
    (ho : ops[k]? = some o) (hk : kind k = .s (fun _ u lo hi w' => ∃ A c, u = .slice A ys.length c ∧ OwnL w' lo hi A size enc ys)) (hg : o.guard = none) (ht : E.top = none)
    (hK : ∀ u lo hi, GSat (inC w0) w0.heap.size (E.upd k ⟨lo, hi, (fun w' => ∃ A c, u = .slice A ys.length c ∧ OwnL w' lo hi A size enc ys), true⟩) → wpG P md ops (inC w0) w0.heap.size fu kind Q rest (k + 1) (a.put o.dst u) (E.upd k ⟨lo, hi, (fun w' => ∃ A c, u = .slice A ys.length c ∧ OwnL w' lo hi A size enc ys), true⟩)) :
    wpG P md ops (inC w0) w0.heap.size fu kind Q (o :: rest) k a E := by
  obtain ⟨i, hi, hzz⟩ := Option.map_eq_some_iff.1 hinfo
  simp only [Prod.mk.injEq] at hzz
  obtain ⟨hz, hs', hb'⟩ := hzz
  refine wpG_val (fun _ u lo hi w' => ∃ A c, u = .slice A ys.length c ∧ OwnL w' lo hi A size enc ys) ho hk hg ht (fun u lo hi => loc_ex fun _ => loc_ex fun _ => loc_and (loc_pure _) (loc_own (Nat.le_refl _) (Nat.le_refl _))) (fun w hw _ => ?_) hK
  have hrd := hr w hw
  obtain ⟨g, off, hA, _, _⟩ := hrd.at (k := 0) hne
  subst hA
  have hmul : (0 + ys.length) * bytes ≤ 1000000000 * 1000 := Nat.mul_le_mul (by omega) hb
  obtain ⟨v', w', hrun, r1, r2⟩ := run_append_arg_grows (P := P) (w := w) t o.type e i z size bytes h1 hi hz hs' hb' h6 h7 gs 0 0 [] (by simp) (fun j u hj => by simp at hj) ⟨g, off, none⟩ ys.length c (flat enc ys) (flat_len henc ys)
    (fun j u hu => by
      obtain ⟨i, hi, k, rfl, hk⟩ := flat_inv henc ys j u hu
      obtain ⟨g', off', hA', _, hcell⟩ := hrd.at hi
      simp only [Option.some.injEq, Addr.mk.injEq, and_true] at hA'
      obtain ⟨rfl, rfl⟩ := hA'
      have e : (⟨g, off, none⟩ : Addr).add (i * size + k) = ⟨g, off + (i * size + k), none⟩ := by unfold Addr.add; split <;> simp_all
      rw [e]; exact hcell k u hk) (by omega) (by unfold maxLen; omega) (by omega)
  have hbw : Below w.heap.size w w' := ⟨r2.os, r2.tape, r2.output, r2.size, fun m hm => r2.block m hm (by simp)⟩
  have hg2 : Grow w' w.heap.size e size enc v' ys := by
    unfold Grow
    have : 0 + ys.length = ys.length := by omega
    rw [this, List.nil_append] at r1; exact r1
  obtain ⟨A', c', hv, ho'⟩ := hg2.own henc
  exact ⟨v', w', by simp [execOp, hop, resolve, invoke, builtin, hs, hx, hrun, Result.andThen], hw.step hbw, eff_of_below hbw, A', c', hv, ho'⟩
/-- The store into a box, where nothing but values follows. -/
theorem wpG_t (F : World → World) (ho : ops[k]? = some o) (hk : kind k = .t) (hg : o.guard = none) (ht : E.top = none)
    (hrun : ∀ w, GHolds C b0 E w → (execOp a.eval o).run P w = .ok .skip (F w) ∧ C (F w))
    (hK : wpG P md ops C b0 fu kind Q rest (k + 1) (a.put o.dst undef) { E with top := some (fun w' => C w' ∧ ∃ w, GHolds C b0 E w ∧ w' = F w) }) : wpG P md ops C b0 fu kind Q (o :: rest) k a E := by
  refine ⟨o, ho, ?_⟩
  rw [hk]
  refine ⟨hg, ht, fun w hw => ⟨_, (hrun w hw).1, (hrun w hw).2⟩, ?_⟩
  have e : (fun w' => C w' ∧ gTop P C b0 o a E w') = fun w' => C w' ∧ ∃ w, GHolds C b0 E w ∧ w' = F w := by
    funext w'
    refine propext ⟨fun ⟨hc, w, hw, hr⟩ => ⟨hc, w, hw, ?_⟩, fun ⟨hc, w, hw, hr⟩ => ⟨hc, w, hw, ?_⟩⟩
    · rw [(hrun w hw).1] at hr; injection hr with _ hr; exact hr.symm
    · rw [(hrun w hw).1, hr]
  rw [e]
  exact hK
theorem cls_none {E : GEnv} (ht : E.top = none) : ∀ w, GHolds C b0 E w → C w := fun _ h => h.cls ht
end
theorem Cells.newD (w : World) (c : Array Value) (t : TypeId) : Cells (w.alloc (.cells c t)) w.heap.size c.size (fun i => c.getD i undef) := Cells.new w c t _ _ fun i hi => by simp [Array.getD, hi]
/-- Where a result's blocks lie. -/
theorem GHolds.rng {C : World → Prop} {b0 : Nat} {E : GEnv} {w : World} (h : GHolds C b0 E w) (ht : E.top = none) (i : Nat) (hon : (E.at_ i).on = true) : b0 ≤ (E.at_ i).lo ∧ (E.at_ i).lo ≤ (E.at_ i).hi ∧ (E.at_ i).hi ≤ w.heap.size := by
  have h1 := (holds_recs h ht).1 i
  rcases h1.2.1 with h2 | h2
  · exact ⟨h2.2.1, h2.2.2, h1.1⟩
  · rw [hon] at h2; cases h2.2
/-- What is known of one result where all is known. -/
theorem GHolds.rec {C : World → Prop} {b0 : Nat} {E : GEnv} {w : World} (h : GHolds C b0 E w) (ht : E.top = none) (i : Nat) : (E.at_ i).hi ≤ w.heap.size ∧ (((E.at_ i).on = true ∧ b0 ≤ (E.at_ i).lo ∧ (E.at_ i).lo ≤ (E.at_ i).hi) ∨ ((E.at_ i).hi = 0 ∧ (E.at_ i).on = false)) ∧ (E.at_ i).φ w := (holds_recs h ht).1 i
theorem GHolds.apart {C : World → Prop} {b0 : Nat} {E : GEnv} {w : World} (h : GHolds C b0 E w) (ht : E.top = none) (i j : Nat) (hij : i ≠ j) : (E.at_ i).hi ≤ (E.at_ j).lo ∨ (E.at_ j).hi ≤ (E.at_ i).lo := (holds_recs h ht).2 i j hij
theorem Chg.setN {b c g : Nat} {a : World} (h1 : b ≤ g) (h2 : g < c) : ∀ (vs : List Value) {w : World} {p : Nat}, Chg b c a w → Chg b c a (setN w g p vs)
  | [], w, p, h => h
  | v :: vs, w, p, h => Chg.setN h1 h2 vs (h.setCell (p := ⟨g, p, none⟩) h1 h2 v)
theorem setN_size (g : Nat) : ∀ (vs : List Value) (w : World) (p : Nat), (setN w g p vs).heap.size = w.heap.size
  | [], w, p => rfl
  | v :: vs, w, p => by rw [setN, setN_size g vs]; simp
theorem updN_zero (f : Nat → Value) (vs : List Value) (i : Nat) (hi : i < vs.length) : updN f 0 vs i = vs.getD i undef := by
  unfold updN; rw [if_pos ⟨Nat.zero_le _, by omega⟩, Nat.sub_zero]
theorem Cells.boxed {w : World} {g n : Nat} {f : Nat → Value} (h : Cells w g n f) (vs : List Value) (hn : vs.length = n) : Cells (Go.Proofs.YtkegbbndmfnolaaGreatDoor.setN w g 0 vs) g n (fun i => vs.getD i undef) :=
  (h.setN vs (b := 0) (by omega)).congr fun i hi => updN_zero f vs i (by omega)
/-- A world that is w but for one block of n cells, and but for draws. -/
structure LaterX (w : World) (r n : Nat) where
  W : World
  ho : W.os = w.os
  hp : W.output = w.output
  ht : W.tape = w.tape
  hs : W.heap.size = w.heap.size
  hb : ∀ k, k ≠ r → W.heap[k]? = w.heap[k]?
  hc : ∃ f, Cells W r n f
def inX (w : World) (r n : Nat) : World → Prop := fun w' => ∃ x : LaterX w r n, w' = x.W
theorem LaterX.cell {w : World} {r n : Nat} {p : Addr} {v : Value} (h : w.cell? p = some v) (hp : p.block ≠ r) (x : LaterX w r n) : x.W.cell? p = some v := (World.cell?_of_block (a := p) (x.hb p.block hp)).trans h
theorem inX.size (w : World) (r n : Nat) : ∀ w', inX w r n w' → w.heap.size ≤ w'.heap.size := fun w' h => by obtain ⟨x, rfl⟩ := h; exact Nat.le_of_eq x.hs.symm
theorem inX.drew {w : World} {r n : Nat} {f : Nat → Value} (h : Cells w r n f) : inX w r n w.drew := ⟨⟨w.drew, rfl, rfl, rfl, rfl, fun _ _ => rfl, f, h⟩, rfl⟩
theorem inX.set {w w' : World} {r n : Nat} (h : inX w r n w') (vs : List Value) (hn : vs.length = n) : inX w r n (setN w' r 0 vs) := by
  obtain ⟨x, rfl⟩ := h
  obtain ⟨f, hf⟩ := x.hc
  have kk : Chg r (r + 1) x.W (setN x.W r 0 vs) := Chg.setN (Nat.le_refl _) (Nat.lt_succ_self _) vs (Chg.refl _ _ x.W)
  refine ⟨⟨_, kk.os.trans x.ho, kk.output.trans x.hp, kk.tape.trans x.ht, (setN_size _ _ _ _).trans x.hs, fun k hk => ?_, _, hf.boxed vs hn⟩, rfl⟩
  rcases Nat.lt_or_ge k x.W.heap.size with h | h
  · exact (kk.block k h (by omega)).trans (x.hb k hk)
  · rw [Array.getElem?_eq_none (by rw [setN_size]; exact h), Array.getElem?_eq_none (by rw [← x.hs]; exact h)]
theorem inX.chg {w w' : World} {r n : Nat} (h : inX w r n w') : Chg r (r + 1) w w' := by
  obtain ⟨x, rfl⟩ := h
  exact ⟨x.ho, x.ht, x.hp, Nat.le_of_eq x.hs.symm, fun k hk hr => x.hb k (by omega)⟩
theorem inX.cells {w w' : World} {r n : Nat} (h : inX w r n w') : ∃ f, Cells w' r n f := by obtain ⟨x, rfl⟩ := h; exact x.hc
end Go.Proofs.YtkegbbndmfnolaaGreatDoor

/-
  New bands: contracts of both sides.
-/
namespace Go.Proofs.YtkegbbndmfnolaaGreatDoor
open Go.RowKit
set_option linter.unusedVariables false
set_option linter.unusedSimpArgs false
set_option maxRecDepth 100000

/-- The ringers of a new band. -/
def newRs (n : Nat) : List Rgr := (List.range n).map fun i : Nat => ⟨(i : Int) + 1, false⟩
def pS : ByteArray := ⟨#[112]⟩
/-- A band's cells. -/
def bdV (nm : ByteArray) (st : Int) (A1 : Option Addr) (n1 c1 : Nat) (b s : ByteArray) (stp : Int) (cal tru : ByteArray) (A3 : Option Addr) (n3 c3 : Nat) : Array Value :=
  #[.string nm, .int .i64 st, .slice A1 n1 c1, .string b, .string s, .int .i64 stp, .string cal, .string tru, .slice A3 n3 c3]
/-- A new band is handed back; its two slices' blocks lie apart. -/
def BdOut (nm : ByteArray) (st : Int) (x : List ByteArray) (b s : ByteArray) (stp : Int) (cal tru : ByteArray) (rx : List Rgr) (w : World) (e : Ending) (w' : World) : Prop :=
  ∃ A1 c1 A3 c3 gs, e = .returned (.agg #[.string nm, .int .i64 st, .slice A1 x.length c1, .string b, .string s, .int .i64 stp, .string cal, .string tru, .slice A3 rx.length c3]) ∧ w.heap.size ≤ gs ∧ gs ≤ w'.heap.size ∧ OwnL w' w.heap.size gs A1 1 encString x ∧ OwnL w' gs w'.heap.size A3 2 Rgr.enc rx ∧ Below w.heap.size w w'













end Go.Proofs.YtkegbbndmfnolaaGreatDoor

/-
  A band as a result: what it holds, where its slices lie; marks on it; NewBand of both sides.
-/
namespace Go.Proofs.YtkegbbndmfnolaaGreatDoor
open Go.RowKit
set_option linter.unusedVariables false
set_option linter.unusedSimpArgs false
set_option maxRecDepth 100000

/-- What a band holds. -/
structure Bd where
  name : ByteArray
  stage : Int
  x : List ByteArray
  bob : ByteArray
  sing : ByteArray
  step : Int
  call : ByteArray
  tru : ByteArray
  rx : List Rgr
def Bd.zero : Bd := ⟨⟨#[]⟩, 0, [], ⟨#[]⟩, ⟨#[]⟩, 0, ⟨#[]⟩, ⟨#[]⟩, []⟩
/-- The value is that band; its slices lie in two ranges of blocks. -/
def BdAt (d : Bd) (v : Value) (lo hi : Nat) (w : World) : Prop :=
  ∃ A1 c1 A3 c3 gs, v = .agg #[.string d.name, .int .i64 d.stage, .slice A1 d.x.length c1, .string d.bob, .string d.sing, .int .i64 d.step, .string d.call, .string d.tru, .slice A3 d.rx.length c3] ∧ lo ≤ gs ∧ gs ≤ hi ∧ OwnL w lo gs A1 1 encString d.x ∧ OwnL w gs hi A3 2 Rgr.enc d.rx
theorem BdAt.later {d : Bd} {v : Value} {lo hi : Nat} {w w' : World} (h : BdAt d v lo hi w) (hb : Below w.heap.size w w') : BdAt d v lo hi w' := by
  obtain ⟨A1, c1, A3, c3, gs, hv, h1, h2, o1, o3⟩ := h
  exact ⟨A1, c1, A3, c3, gs, hv, h1, h2, o1.later hb, o3.later hb⟩
theorem BdAt.chg {d : Bd} {v : Value} {lo hi b c : Nat} {w w' : World} (h : BdAt d v lo hi w) (k : Chg b c w w') (hr : hi ≤ b ∨ c ≤ lo) : BdAt d v lo hi w' := by
  obtain ⟨A1, c1, A3, c3, gs, hv, h1, h2, o1, o3⟩ := h
  exact ⟨A1, c1, A3, c3, gs, hv, h1, h2, o1.chg k (by omega), o3.chg k (by omega)⟩
theorem BdAt.open {d : Bd} {A1 A3 : Option Addr} {c1 c3 lo hi : Nat} {w : World} (h : BdAt d (.agg #[.string d.name, .int .i64 d.stage, .slice A1 d.x.length c1, .string d.bob, .string d.sing, .int .i64 d.step, .string d.call, .string d.tru, .slice A3 d.rx.length c3]) lo hi w) : ∃ gs, lo ≤ gs ∧ gs ≤ hi ∧ OwnL w lo gs A1 1 encString d.x ∧ OwnL w gs hi A3 2 Rgr.enc d.rx := by
  obtain ⟨A1', c1', A3', c3', gs, hv, h1, h2, o1, o3⟩ := h
  obtain ⟨⟨rfl, rfl⟩, rfl, rfl⟩ : (A1 = A1' ∧ c1 = c1') ∧ A3 = A3' ∧ c3 = c3' := by simpa using hv
  exact ⟨gs, h1, h2, o1, o3⟩
def BdRet (d : Bd) (ok : Bool) (w : World) (e : Ending) (w' : World) : Prop := ∃ v, e = .returned (.tuple #[v, .bool ok]) ∧ BdAt d v w.heap.size w'.heap.size w' ∧ Below w.heap.size w w'
def BdOne (d : Bd) (w : World) (e : Ending) (w' : World) : Prop := ∃ v, e = .returned v ∧ BdAt d v w.heap.size w'.heap.size w' ∧ Below w.heap.size w w'
theorem BdAt.zero (lo hi : Nat) (w : World) (h : lo ≤ hi) : BdAt Bd.zero (.agg #[.string ⟨#[]⟩, .int .i64 0, .slice none 0 0, .string ⟨#[]⟩, .string ⟨#[]⟩, .int .i64 0, .string ⟨#[]⟩, .string ⟨#[]⟩, .slice none 0 0]) lo hi w :=
  ⟨none, 0, none, 0, lo, rfl, Nat.le_refl _, h, .inl rfl, .inl rfl⟩


end Go.Proofs.YtkegbbndmfnolaaGreatDoor

/-
  The row that a change makes of rounds, in plain words: pairs of neighbours that exchange.
-/
namespace Go.Proofs.YtkegbbndmfnolaaGreatDoor
open Go.RowKit
set_option linter.unusedVariables false
set_option linter.unusedSimpArgs false

theorem nodupN_le : ∀ (l : List Nat) (n : Nat), l.Nodup → (∀ x ∈ l, x < n) → l.length ≤ n
  | l, 0, _, h => by
    cases l with
    | nil => simp
    | cons x l => have := h x (by simp); omega
  | l, n + 1, hn, h => by
    have h1 := nodupN_le (l.erase n) n (hn.erase n) (fun x hx => by
      have := (hn.mem_erase_iff).1 hx
      have := h x this.2; omega)
    have := List.length_erase (a := n) (l := l)
    split at this <;> omega
/-- A change lets a place stay. -/
def stays (c : ByteArray) (p : Nat) : Prop := ∃ i : Nat, i < c.size ∧ bat c i - 48 = (p : Int)
open Classical in
/-- The lower places of the pairs that exchange, from place p on. -/
noncomputable def swF (c : ByteArray) (n : Nat) : Nat → Nat → List Nat
  | 0, _ => []
  | f + 1, p => if p < n then (if stays c p then swF c n f (p + 1) else p :: swF c n f (p + 2)) else []
theorem swF_fuel (c : ByteArray) (n : Nat) : ∀ (f g p : Nat), n ≤ p + f → n ≤ p + g → swF c n f p = swF c n g p
  | 0, 0, p, _, _ => rfl
  | 0, g + 1, p, h, _ => by simp only [swF]; rw [if_neg (by omega)]
  | f + 1, 0, p, _, h => by simp only [swF]; rw [if_neg (by omega)]
  | f + 1, g + 1, p, h1, h2 => by
    simp only [swF]
    rw [swF_fuel c n f g (p + 1) (by omega) (by omega), swF_fuel c n f g (p + 2) (by omega) (by omega)]
noncomputable def swFrom (c : ByteArray) (n p : Nat) : List Nat := swF c n (n - p) p
noncomputable def swL (c : ByteArray) (n : Nat) : List Nat := swFrom c n 1
theorem swFrom_end {c : ByteArray} {n p : Nat} (h : n ≤ p) : swFrom c n p = [] := by
  unfold swFrom; rw [show n - p = 0 by omega]; rfl
theorem swFrom_stay {c : ByteArray} {n p : Nat} (h : p < n) (hs : stays c p) : swFrom c n p = swFrom c n (p + 1) := by
  unfold swFrom
  obtain ⟨f, hf⟩ : ∃ f, n - p = f + 1 := ⟨n - p - 1, by omega⟩
  rw [hf]; simp only [swF]; rw [if_pos h, if_pos hs]
  exact swF_fuel c n _ _ _ (by omega) (by omega)
theorem swFrom_swap {c : ByteArray} {n p : Nat} (h : p < n) (hs : ¬ stays c p) : swFrom c n p = p :: swFrom c n (p + 2) := by
  unfold swFrom
  obtain ⟨f, hf⟩ : ∃ f, n - p = f + 1 := ⟨n - p - 1, by omega⟩
  rw [hf]; simp only [swF]; rw [if_pos h, if_neg hs]
  rw [swF_fuel c n _ (n - (p + 2)) _ (by omega) (by omega)]
def Sep (L : List Nat) : Prop := L.Pairwise fun a b => a + 1 < b
theorem swFrom_ge (c : ByteArray) (n : Nat) : ∀ (f p : Nat), n ≤ p + f → ∀ q ∈ swFrom c n p, p ≤ q ∧ q < n
  | 0, p, h, q, hq => by rw [swFrom_end (by omega)] at hq; simp at hq
  | f + 1, p, h, q, hq => by
    by_cases hp : p < n
    · by_cases hs : stays c p
      · rw [swFrom_stay hp hs] at hq; have := swFrom_ge c n f (p + 1) (by omega) q hq; omega
      · rw [swFrom_swap hp hs] at hq
        rcases List.mem_cons.1 hq with rfl | hq
        · omega
        · have := swFrom_ge c n f (p + 2) (by omega) q hq; omega
    · rw [swFrom_end (by omega)] at hq; simp at hq
theorem swFrom_sep (c : ByteArray) (n : Nat) : ∀ (f p : Nat), n ≤ p + f → Sep (swFrom c n p)
  | 0, p, h => by rw [swFrom_end (by omega)]; exact List.Pairwise.nil
  | f + 1, p, h => by
    by_cases hp : p < n
    · by_cases hs : stays c p
      · rw [swFrom_stay hp hs]; exact swFrom_sep c n f (p + 1) (by omega)
      · rw [swFrom_swap hp hs]
        exact List.Pairwise.cons (fun q hq => by have := (swFrom_ge c n f (p + 2) (by omega) q hq).1; omega) (swFrom_sep c n f (p + 2) (by omega))
    · rw [swFrom_end (by omega)]; exact List.Pairwise.nil
theorem sep_no : ∀ {L : List Nat}, Sep L → ∀ {a : Nat}, a ∈ L → a + 1 ∈ L → False
  | [], _, a, h, _ => by simp at h
  | x :: L, hs, a, h1, h2 => by
    obtain ⟨hx, hL⟩ := List.pairwise_cons.1 hs
    rcases List.mem_cons.1 h1 with rfl | h1 <;> rcases List.mem_cons.1 h2 with h2 | h2
    · omega
    · have := hx _ h2; omega
    · have := hx _ h1; omega
    · exact sep_no hL h1 h2
/-- Where a place's bell goes. -/
def pt (L : List Nat) (p : Nat) : Nat := if p ∈ L then p + 1 else if 1 ≤ p ∧ p - 1 ∈ L then p - 1 else p
theorem pt_nil (p : Nat) : pt [] p = p := by simp [pt]
theorem pt_snoc {L : List Nat} {q : Nat} (h : ∀ r ∈ L, r + 1 < q) (p : Nat) (hp : 1 ≤ p) : pt (L ++ [q]) p = if p = q then q + 1 else if p = q + 1 then q else pt L p := by
  unfold pt
  simp only [List.mem_append, List.mem_singleton]
  by_cases e1 : p = q
  · subst e1; simp
  · rw [if_neg e1]
    by_cases e2 : p = q + 1
    · subst e2
      have : ¬ (q + 1 ∈ L) := fun hm => by have := h _ hm; omega
      rw [if_pos rfl, if_neg (by simp [this]), if_pos ⟨by omega, by right; omega⟩]; omega
    · rw [if_neg e2]
      have : ¬ p - 1 = q ∨ p = 0 := by omega
      by_cases m1 : p ∈ L
      · rw [if_pos (.inl m1), if_pos m1]
      · rw [if_neg (by simp [m1, e1]), if_neg m1]
        by_cases m2 : p - 1 ∈ L
        · rw [if_pos ⟨hp, .inl m2⟩, if_pos ⟨hp, m2⟩]
        · rw [if_neg (by rintro ⟨_, h | h⟩; exact m2 h; omega), if_neg (fun x => m2 x.2)]
theorem pt_invol {L : List Nat} (hs : Sep L) (p : Nat) : pt L (pt L p) = p := by
  unfold pt
  by_cases m1 : p ∈ L
  · rw [if_pos m1, if_neg (fun h => sep_no hs m1 h), if_pos ⟨by omega, by simpa using m1⟩]; omega
  · rw [if_neg m1]
    by_cases m2 : 1 ≤ p ∧ p - 1 ∈ L
    · rw [if_pos m2, if_pos m2.2]; omega
    · rw [if_neg m2, if_neg m1, if_neg m2]
theorem pt_bd {L : List Nat} {n : Nat} (h : ∀ r ∈ L, 1 ≤ r ∧ r < n) {p : Nat} (h1 : 1 ≤ p) (h2 : p ≤ n) : 1 ≤ pt L p ∧ pt L p ≤ n := by
  unfold pt
  by_cases m1 : p ∈ L
  · rw [if_pos m1]; have := h p m1; omega
  · rw [if_neg m1]
    by_cases m2 : 1 ≤ p ∧ p - 1 ∈ L
    · rw [if_pos m2]; have := h _ m2.2; omega
    · rw [if_neg m2]; omega
/-- The row that pairs make of rounds. -/
def ptL (L : List Nat) (n : Nat) : List Int := (List.range n).map fun i : Nat => ((48 + pt L (i + 1) : Nat) : Int)
def ptS (L : List Nat) (n : Nat) : ByteArray := mkS (ptL L n)
theorem ptL_len (L : List Nat) (n : Nat) : (ptL L n).length = n := by simp [ptL]
theorem ptS_size (L : List Nat) (n : Nat) : (ptS L n).size = n := by unfold ptS; rw [size_mkS, ptL_len]
theorem ptS_bat {L : List Nat} {n : Nat} (h : ∀ r ∈ L, 1 ≤ r ∧ r < n) (hn : n ≤ 8) {i : Nat} (hi : i < n) : bat (ptS L n) i = ((48 + pt L (i + 1) : Nat) : Int) := by
  have hb := pt_bd h (p := i + 1) (by omega) (by omega)
  have he : (ptL L n)[i]'(by rw [ptL_len]; exact hi) = ((48 + pt L (i + 1) : Nat) : Int) := by simp [ptL]
  unfold ptS
  rw [bat_mkS _ i (by rw [ptL_len]; exact hi) (by rw [he]; omega) (by rw [he]; omega), he]
theorem ptS_row {L : List Nat} {n : Nat} (h : ∀ r ∈ L, 1 ≤ r ∧ r < n) (hs : Sep L) (h3 : 3 ≤ n) (h8 : n ≤ 8) : isRow (ptS L n) := by
  refine ⟨by rw [ptS_size]; exact h3, by rw [ptS_size]; exact h8, fun i hi => ?_, fun i j hij hj => ?_⟩
  · rw [ptS_size] at hi ⊢
    rw [ptS_bat h h8 hi]
    have := pt_bd h (p := i + 1) (by omega) (by omega); omega
  · rw [ptS_size] at hj
    rw [ptS_bat h h8 (by omega), ptS_bat h h8 hj]
    intro e
    have e2 : pt L (i + 1) = pt L (j + 1) := by omega
    have := congrArg (pt L) e2
    rw [pt_invol hs, pt_invol hs] at this
    omega
theorem swL_bd (c : ByteArray) (n : Nat) : ∀ r ∈ swL c n, 1 ≤ r ∧ r < n := swFrom_ge c n n 1 (by omega)
theorem swL_sep (c : ByteArray) (n : Nat) : Sep (swL c n) := swFrom_sep c n n 1 (by omega)
/-- The row that a change of stage n makes of rounds. -/
noncomputable def chgS (n : Nat) (c : ByteArray) : ByteArray := ptS (swL c n) n
/-- Where a change of stage n brings what is at a place. -/
noncomputable def mvP (n : Nat) (c : ByteArray) (p : Nat) : Nat := pt (swL c n) p
end Go.Proofs.YtkegbbndmfnolaaGreatDoor
