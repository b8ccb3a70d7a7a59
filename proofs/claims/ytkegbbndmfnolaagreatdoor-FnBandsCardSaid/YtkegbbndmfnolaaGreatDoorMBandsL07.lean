import Derived.Test.YtkegbbndmfnolaaGreatDoorMBandsL06
import Derived.Test.YtkegbbndmfnolaaGreatDoorMBandsL03
import Derived.ArgAppend
/-
 Steps of the one walk through a region that draws its order and makes memory. Words of our own that know no program.
-/
namespace Go.Proofs.YtkegbbndmfnolaaGreatDoor
open Go.RowKit
set_option linter.unusedVariables false
set_option linter.unusedSimpArgs false

section
variable {lo hi : Nat}
theorem loc_pure (p : Prop) : GLoc ⟨lo, hi, fun _ => p, true⟩ := fun _ _ _ _ _ h => h
theorem loc_ex {α : Sort _} {φ : α → World → Prop} (h : ∀ x, GLoc ⟨lo, hi, φ x, true⟩) : GLoc ⟨lo, hi, fun w => ∃ x, φ x w, true⟩ := fun w w' h1 h2 h3 ⟨x, hx⟩ => ⟨x, h x w w' h1 h2 h3 hx⟩
theorem loc_and {φ ψ : World → Prop} (h : GLoc ⟨lo, hi, φ, true⟩) (k : GLoc ⟨lo, hi, ψ, true⟩) : GLoc ⟨lo, hi, fun w => φ w ∧ ψ w, true⟩ := fun w w' h1 h2 h3 ⟨a, b⟩ => ⟨h w w' h1 h2 h3 a, k w w' h1 h2 h3 b⟩
theorem loc_imp {p : Prop} {φ : World → Prop} (h : p → GLoc ⟨lo, hi, φ, true⟩) : GLoc ⟨lo, hi, fun w => p ∧ φ w, true⟩ := fun w w' h1 h2 h3 ⟨a, b⟩ => ⟨a, h a w w' h1 h2 h3 b⟩
theorem cells_keep {w w' : World} {g n : Nat} {f : Nat → Value} (h : Cells w g n f) (h1 : w.heap.size ≤ w'.heap.size) (h2 : w'.heap[g]? = w.heap[g]?) : Cells w' g n f :=
 ⟨Nat.lt_of_lt_of_le h.1 h1, fun i hi => ⟨(World.cell?_of_block (a := ⟨g, i, none⟩) h2).trans (h.2 i hi).1, (World.frozen?_of_block (a := ⟨g, i, none⟩) h2).trans (h.2 i hi).2⟩⟩
theorem loc_own {α : Type} {enc : α → List Value} {size b c : Nat} {A : Option Addr} {l : List α} (h1 : lo ≤ b) (h2 : c ≤ hi) : GLoc ⟨lo, hi, fun w => OwnL w b c A size enc l, true⟩ := fun w w' k1 k2 _ h => by
 rcases h with h | ⟨g, f, hA, g1, g2, hc, hf⟩
 ·exact .inl h
 ·exact .inr ⟨g, f, hA, g1, g2, cells_keep hc k1 (k2 g (Nat.le_trans h1 g1) (Nat.lt_of_lt_of_le g2 h2)), hf⟩
end
/-- A box of n cells that the region itself makes. -/
def gBox (n : Nat) : Value → Nat → Nat → World → Prop := fun u lo hi w => u = .pointer (some ⟨lo, 0, none⟩) ∧ hi = lo + 1 ∧ ∃ f, Cells w lo n f
theorem loc_box (n : Nat) (u : Value) (lo hi : Nat) : GLoc ⟨lo, hi, gBox n u lo hi, true⟩ := fun w w' h1 h2 h3 h => by
 obtain ⟨a, b, f, c⟩ := h
 exact ⟨a, b, f, cells_keep c h1 (h2 lo (Nat.le_refl _) (by show lo < hi; omega))⟩

theorem Later.cell {w : World} {p : Addr} {v : Value} (h : w.cell? p = some v) (hp : p.block < w.heap.size) (x : Later w) : x.W.cell? p = some v := (x.hb.cell hp).trans h
theorem Later.frozen {w : World} {p : Addr} {b : Bool} (h : w.frozen? p = b) (hp : p.block < w.heap.size) (x : Later w) : x.W.frozen? p = b := (x.hb.frozen hp).trans h
def inC (w : World) : World → Prop := fun w' => ∃ x : Later w, w' = x.W
theorem inC.below {w w' : World} (h : inC w w') : Below w.heap.size w w' := by obtain ⟨x, rfl⟩ := h; exact x.hb
theorem inC.of {w w' : World} (h : Below w.heap.size w w') : inC w w' := ⟨⟨w', h⟩, rfl⟩
theorem inC.size (w : World) : ∀ w', inC w w' → w.heap.size ≤ w'.heap.size := fun w' h => h.below.size
theorem inC.step {w w' w'' : World} (h : inC w w') (hb : Below w'.heap.size w' w'') : inC w w'' := inC.of (h.below.trans (hb.mono h.below.size))
theorem eff_of_below {b0 : Nat} {w w' : World} (h : Below w.heap.size w w') : GEff b0 w w' := ⟨h.size, fun k _ hk => h.block k hk⟩

section
variable {P : Program} {ops : Array Oper} {md : Region.Mode} {C : World → Prop} {b0 fu : Nat} {kind : Nat → GKind} {Q : Act → GEnv → Prop}
/-- A run of operations that hand values on. -/
theorem wpG_quiets : ∀ (n : Nat) (l : List Oper) (k : Nat) (a : Act) (E : GEnv), (∀ w, GHolds C b0 E w → C w) → (∀ j, j < n → l[j]? = ops[k + j]? ∧ (∃ o, ops[k + j]? = some o ∧ qOpB o.op = true) ∧ kind (k + j) = .q) →
  wpQuiet P ops C (fun a' => wpG P md ops C b0 fu kind Q (l.drop n) (k + n) a' E) (l.take n) a → wpG P md ops C b0 fu kind Q l k a E
 | 0, l, k, a, E, _, _, h => by simpa [wpQuiet] using h
 | n + 1, [], k, a, E, _, hk, h => by
  obtain ⟨h1, ⟨o, ho, _⟩, _⟩ := hk 0 (by omega)
  rw [ho] at h1; simp at h1
 | n + 1, o :: l, k, a, E, hcls, hk, h => by
  obtain ⟨h1, ⟨o', ho, hq⟩, hkd⟩ := hk 0 (by omega)
  simp only [Nat.add_zero, List.getElem?_cons_zero] at h1 ho hkd
  obtain rfl : o = o' := by rw [ho] at h1; injection h1
  have ih := fun a' => wpG_quiets n l (k + 1) a' E hcls (fun j hj => by
   have := hk (j + 1) (by omega)
   rw [List.getElem?_cons_succ] at this
   rw [show k + 1 + j = k + (j + 1) by omega]; exact this)
  simp only [List.take_succ_cons, List.drop_succ_cons] at h
  refine ⟨o, ho, ?_⟩
  rw [hkd]
  refine ⟨hcls, ?_⟩
  unfold wpQuiet at h
  have e : k + 1 + n = k + (n + 1) := by omega
  by_cases hw : Region.wanted o (yielded ops a.tmps) = true
  ·rw [if_pos hw] at h
   obtain ⟨v, h2, h3⟩ := h
   exact ⟨v, .inl (.inl hq), .inl ⟨hw, h2⟩, ih _ (by rw [e]; exact h3)⟩
  ·rw [if_neg hw] at h
   exact ⟨undef, .inl (.inl hq), .inr ⟨by simpa using hw, rfl⟩, ih _ (by rw [e]; exact h)⟩
variable {o : Oper} {rest : List Oper} {k : Nat} {a : Act} {E : GEnv}
/-- An operation that is passed over. -/
theorem wpG_skip (ho : ops[k]? = some o) (hk : kind k = .q) (hcls : ∀ w, GHolds C b0 E w → C w) (hw : Region.wanted o (yielded ops a.tmps) = false)
  (hK : wpG P md ops C b0 fu kind Q rest (k + 1) (a.put o.dst undef) E) : wpG P md ops C b0 fu kind Q (o :: rest) k a E := by
 refine ⟨o, ho, ?_⟩
 rw [hk]
 exact ⟨hcls, undef, .inr (.inr hw), .inr ⟨hw, rfl⟩, hK⟩
/-- An operation that hands a value on in every world of the class. -/
theorem wpG_stay (ho : ops[k]? = some o) (hk : kind k = .q) (hcls : ∀ w, GHolds C b0 E w → C w) (hw : Region.wanted o (yielded ops a.tmps) = true) (v : Value) (hrun : ∀ w, C w → (execOp a.eval o).run P w = .ok (.value v) w)
  (hK : wpG P md ops C b0 fu kind Q rest (k + 1) (a.put o.dst v) E) : wpG P md ops C b0 fu kind Q (o :: rest) k a E := by
 refine ⟨o, ho, ?_⟩
 rw [hk]
 refine ⟨hcls, v, .inl (.inr fun w hw => ⟨v, hrun w hw⟩), .inl ⟨hw, fun w hCw => ?_⟩, hK⟩
 unfold Oper.quietAt
 rw [hrun w hCw]
 exact ⟨rfl, rfl⟩
/-- A call that leaves the world as it is. -/
theorem wpG_pure (ho : ops[k]? = some o) (hk : kind k = .q) (hcls : ∀ w, GHolds C b0 E w → C w) (hn : ∀ k, (kind k).code ≠ 1) (hw : Region.wanted o (yielded ops a.tmps) = true) (f : FuncId) (vals : Array Value) (v : Value)
  (henter : ∀ w, (execOp a.eval o).run P w = .ok (.enter f vals) w) (hcall : ∀ w, C w → Calls P f vals w fun e w' => e = .returned v ∧ w' = w)
  (hK : wpG P md ops C b0 fu kind Q rest (k + 1) (a.put o.dst v) E) : wpG P md ops C b0 fu kind Q (o :: rest) k a E := by
 refine ⟨o, ho, ?_⟩
 rw [hk]
 refine ⟨hcls, v, .inr (.inl ⟨hn, f, vals, henter, hcall⟩), .inl ⟨hw, fun w hCw => ?_⟩, hK⟩
 unfold Oper.quietAt
 rw [henter w]
 exact ⟨rfl, (hcall w hCw).mono fun e w' ⟨h1, h2⟩ => ⟨h1, by rw [h2]; exact hCw⟩⟩
theorem codes_not1 {ks : List GKind} (h : ks.all (fun x => x.code != 1) = true) : ∀ k, ((fun i => ks.getD i GKind.q) k).code ≠ 1 := fun k => by
 show (ks.getD k .q).code ≠ 1
 rw [List.getD_eq_getElem?_getD]
 cases hk : ks[k]? with
 | none => simp [GKind.code]
 | some x =>
  have := List.all_eq_true.1 h x (List.mem_of_getElem? hk)
  simpa using this
/-- A call of a Go function. -/
theorem wpG_call (Ψ : List Value → Value → Nat → Nat → World → Prop) (ho : ops[k]? = some o) (hk : kind k = .s Ψ) (hg : o.guard = none) (ht : E.top = none) (hloc : ∀ u lo hi, GLoc ⟨lo, hi, Ψ (gArgs o a) u lo hi, true⟩) (f : FuncId) (vals : Array Value)
  (henter : ∀ w, (execOp a.eval o).run P w = .ok (.enter f vals) w)
  (hcall : ∀ w, C w → (∀ d ∈ gDeps md ops fu k, (E.at_ d).hi ≤ w.heap.size ∧ (E.at_ d).φ w) → Calls P f vals w fun e w' => ∃ u, e = .returned u ∧ C w' ∧ GEff b0 w w' ∧ Ψ (gArgs o a) u w.heap.size w'.heap.size w')
  (hK : ∀ u lo hi, GSat C b0 (E.upd k ⟨lo, hi, Ψ (gArgs o a) u lo hi, true⟩) → wpG P md ops C b0 fu kind Q rest (k + 1) (a.put o.dst u) (E.upd k ⟨lo, hi, Ψ (gArgs o a) u lo hi, true⟩)) : wpG P md ops C b0 fu kind Q (o :: rest) k a E := by
 refine ⟨o, ho, ?_⟩
 rw [hk]
 refine ⟨hg, ht, hloc, fun w hw hd => ?_, hK⟩
 rw [henter w]
 exact hcall w hw hd
/-- A value that is known only where it stands in memory that the region has made. -/
theorem wpG_val (Ψ : List Value → Value → Nat → Nat → World → Prop) (ho : ops[k]? = some o) (hk : kind k = .s Ψ) (hg : o.guard = none) (ht : E.top = none) (hloc : ∀ u lo hi, GLoc ⟨lo, hi, Ψ (gArgs o a) u lo hi, true⟩)
  (hrun : ∀ w, C w → (∀ d ∈ gDeps md ops fu k, (E.at_ d).hi ≤ w.heap.size ∧ (E.at_ d).φ w) → ∃ u w', (execOp a.eval o).run P w = .ok (.value u) w' ∧ C w' ∧ GEff b0 w w' ∧ Ψ (gArgs o a) u w.heap.size w'.heap.size w')
  (hK : ∀ u lo hi, GSat C b0 (E.upd k ⟨lo, hi, Ψ (gArgs o a) u lo hi, true⟩) → wpG P md ops C b0 fu kind Q rest (k + 1) (a.put o.dst u) (E.upd k ⟨lo, hi, Ψ (gArgs o a) u lo hi, true⟩)) : wpG P md ops C b0 fu kind Q (o :: rest) k a E := by
 refine ⟨o, ho, ?_⟩
 rw [hk]
 refine ⟨hg, ht, hloc, fun w hw hd => ?_, hK⟩
 obtain ⟨u, w', hr, h⟩ := hrun w hw hd
 rw [hr]
 exact h
/-- A box is made. -/
theorem wpG_box {w0 : World} (n : Nat) (Z : Array Value) (T : TypeId) (ho : ops[k]? = some o) (hk : kind k = .s (fun _ => gBox n)) (hg : o.guard = none) (ht : E.top = none) (hn : Z.size = n)
  (hrun : ∀ w, (execOp a.eval o).run P w = .ok (.value (.pointer (some ⟨w.heap.size, 0, none⟩))) (w.alloc (.cells Z T)))
  (hK : ∀ u lo hi, GSat (inC w0) w0.heap.size (E.upd k ⟨lo, hi, gBox n u lo hi, true⟩) → wpG P md ops (inC w0) w0.heap.size fu kind Q rest (k + 1) (a.put o.dst u) (E.upd k ⟨lo, hi, gBox n u lo hi, true⟩)) : wpG P md ops (inC w0) w0.heap.size fu kind Q (o :: rest) k a E := by
 have hbw : ∀ w : World, Below w.heap.size w (w.alloc (.cells Z T)) := fun w => (Below.refl _ _).alloc (Nat.le_refl _) _
 refine wpG_val (fun _ => gBox n) ho hk hg ht (loc_box n) (fun w hw _ => ⟨_, _, hrun w, hw.step (hbw w), eff_of_below (hbw w), rfl, by simp, fun i => Z.getD i undef, Cells.new w Z T n _ fun i hi => ?_⟩) hK
 simp [Array.getD, show i < Z.size by omega]
/-- An empty slice is made. -/
def gNil : Value → Nat → Nat → World → Prop := fun u lo hi w => u = .slice (some ⟨lo, 0, none⟩) 0 0
theorem wpG_nil {w0 : World} (T : TypeId) (ho : ops[k]? = some o) (hk : kind k = .s (fun _ => gNil)) (hg : o.guard = none) (ht : E.top = none)
  (hrun : ∀ w, (execOp a.eval o).run P w = .ok (.value (.slice (some ⟨w.heap.size, 0, none⟩) 0 0)) (w.alloc (.cells #[] T)))
  (hK : ∀ u lo hi, GSat (inC w0) w0.heap.size (E.upd k ⟨lo, hi, gNil u lo hi, true⟩) → wpG P md ops (inC w0) w0.heap.size fu kind Q rest (k + 1) (a.put o.dst u) (E.upd k ⟨lo, hi, gNil u lo hi, true⟩)) : wpG P md ops (inC w0) w0.heap.size fu kind Q (o :: rest) k a E := by
 have hbw : ∀ w : World, Below w.heap.size w (w.alloc (.cells #[] T)) := fun w => (Below.refl _ _).alloc (Nat.le_refl _) _
 exact wpG_val (fun _ => gNil) ho hk hg ht (fun u lo hi => loc_pure _) (fun w hw _ => ⟨_, _, hrun w, hw.step (hbw w), eff_of_below (hbw w), rfl⟩) hK
/-- A list that is not empty, appended to a slice without room. -/
theorem wpG_appendNew {w0 : World} {α : Type} {enc : α → List Value} (s x : Operand) (t : TypeId) (hop : o.op = .call { callee := .builtin .append, args := #[s, x], argTypes := #[t, t] })
  (e : TypeId) (z : Value) (size bytes : Nat) (h1 : P.underlying t = some (.slice e)) (hinfo : (P.info? e).map (fun i => (i.zero, i.size, i.bytes)) = some (some z, size, bytes)) (h6 : z.cells.size = size) (h7 : 0 < size)
  (gs : Addr) (hs : a.eval s = .slice (some gs) 0 0) (ys : List α) (A : Option Addr) (c : Nat) (hx : a.eval x = .slice A ys.length c) (hr : ∀ w, inC w0 w → RdL w w.heap.size A size enc ys) (hne : 0 < ys.length)
  (henc : ∀ x, (enc x).length = size) (hn : ys.length ≤ 1000000000) (hb : bytes ≤ 1000)
  (ho : ops[k]? = some o) (hk : kind k = .s (fun _ u lo hi w' => ∃ A c, u = .slice A ys.length c ∧ OwnL w' lo hi A size enc ys)) (hg : o.guard = none) (ht : E.top = none)
  (hK : ∀ u lo hi, GSat (inC w0) w0.heap.size (E.upd k ⟨lo, hi, (fun w' => ∃ A c, u = .slice A ys.length c ∧ OwnL w' lo hi A size enc ys), true⟩) → wpG P md ops (inC w0) w0.heap.size fu kind Q rest (k + 1) (a.put o.dst u) (E.upd k ⟨lo, hi, (fun w' => ∃ A c, u = .slice A ys.length c ∧ OwnL w' lo hi A size enc ys), true⟩)) :
  wpG P md ops (inC w0) w0.heap.size fu kind Q (o :: rest) k a E := by
 obtain ⟨i, hi, hzz⟩ := Option.map_eq_some_iff.1 hinfo
 simp only [Prod.mk.injEq] at hzz
 obtain ⟨hz, hs', hb'⟩ := hzz
 refine wpG_val (fun _ u lo hi w' => ∃ A c, u = .slice A ys.length c ∧ OwnL w' lo hi A size enc ys) ho hk hg ht (fun u lo hi => loc_ex fun _ => loc_ex fun _ => loc_and (loc_pure _) (loc_own (Nat.le_refl _) (Nat.le_refl _))) (fun w hw _ => ?_) hK
 have hrd := hr w hw
 obtain ⟨g, off, hA, _, _⟩ := hrd.at (k := 0) hne
 subst hA
 have hmul : (0 + ys.length) * bytes ≤ 1000000000 * 1000 := Nat.mul_le_mul (by omega) hb
 obtain ⟨v', w', hrun, r1, r2⟩ := run_append_arg_grows (P := P) (w := w) t o.type e i z size bytes h1 hi hz hs' hb' h6 h7 gs 0 0 [] (by simp) (fun j u hj => by simp at hj) ⟨g, off, none⟩ ys.length c (flat enc ys) (flat_len henc ys)
  (fun j u hu => by
   obtain ⟨i, hi, k, rfl, hk⟩ := flat_inv henc ys j u hu
   obtain ⟨g', off', hA', _, hcell⟩ := hrd.at hi
   simp only [Option.some.injEq, Addr.mk.injEq, and_true] at hA'
   obtain ⟨rfl, rfl⟩ := hA'
   have e : (⟨g, off, none⟩ : Addr).add (i * size + k) = ⟨g, off + (i * size + k), none⟩ := by unfold Addr.add; split <;> simp_all
   rw [e]; exact hcell k u hk) (by omega) (by unfold maxLen; omega) (by omega)
 have hbw : Below w.heap.size w w' := ⟨r2.os, r2.tape, r2.output, r2.size, fun m hm => r2.block m hm (by simp)⟩
 have hg2 : Grow w' w.heap.size e size enc v' ys := by
  unfold Grow
  have : 0 + ys.length = ys.length := by omega
  rw [this, List.nil_append] at r1; exact r1
 obtain ⟨A', c', hv, ho'⟩ := hg2.own henc
 exact ⟨v', w', by simp [execOp, hop, resolve, invoke, builtin, hs, hx, hrun, Result.andThen], hw.step hbw, eff_of_below hbw, A', c', hv, ho'⟩
/-- The store into a box, where nothing but values follows. -/
theorem wpG_t (F : World → World) (ho : ops[k]? = some o) (hk : kind k = .t) (hg : o.guard = none) (ht : E.top = none)
  (hrun : ∀ w, GHolds C b0 E w → (execOp a.eval o).run P w = .ok .skip (F w) ∧ C (F w))
  (hK : wpG P md ops C b0 fu kind Q rest (k + 1) (a.put o.dst undef) { E with top := some (fun w' => C w' ∧ ∃ w, GHolds C b0 E w ∧ w' = F w) }) : wpG P md ops C b0 fu kind Q (o :: rest) k a E := by
 refine ⟨o, ho, ?_⟩
 rw [hk]
 refine ⟨hg, ht, fun w hw => ⟨_, (hrun w hw).1, (hrun w hw).2⟩, ?_⟩
 have e : (fun w' => C w' ∧ gTop P C b0 o a E w') = fun w' => C w' ∧ ∃ w, GHolds C b0 E w ∧ w' = F w := by
  funext w'
  refine propext ⟨fun ⟨hc, w, hw, hr⟩ => ⟨hc, w, hw, ?_⟩, fun ⟨hc, w, hw, hr⟩ => ⟨hc, w, hw, ?_⟩⟩
  ·rw [(hrun w hw).1] at hr; injection hr with _ hr; exact hr.symm
  ·rw [(hrun w hw).1, hr]
 rw [e]
 exact hK
/-- A store that comes last, wherever it goes. -/
theorem wpG_u (F : World → World) (ho : ops[k]? = some o) (hk : kind k = .u) (hg : o.guard = none) (ht : E.top = none)
  (hrun : ∀ w, GHolds C b0 E w → (execOp a.eval o).run P w = .ok .skip (F w))
  (hK : wpG P md ops C b0 fu kind Q rest (k + 1) (a.put o.dst undef) { E with top := some (fun w' => ∃ w, GHolds C b0 E w ∧ w' = F w) }) : wpG P md ops C b0 fu kind Q (o :: rest) k a E := by
 refine ⟨o, ho, ?_⟩
 rw [hk]
 refine ⟨hg, ht, fun w hw => ⟨_, hrun w hw⟩, ?_⟩
 have e : gTop P C b0 o a E = fun w' => ∃ w, GHolds C b0 E w ∧ w' = F w := by
  funext w'
  refine propext ⟨fun ⟨w, hw, hr⟩ => ⟨w, hw, ?_⟩, fun ⟨w, hw, hr⟩ => ⟨w, hw, ?_⟩⟩
  ·rw [hrun w hw] at hr; injection hr with _ hr; exact hr.symm
  ·rw [hrun w hw, hr]
 rw [e]
 exact hK
theorem cls_none {E : GEnv} (ht : E.top = none) : ∀ w, GHolds C b0 E w → C w := fun _ h => h.cls ht
end
theorem Cells.newD (w : World) (c : Array Value) (t : TypeId) : Cells (w.alloc (.cells c t)) w.heap.size c.size (fun i => c.getD i undef) := Cells.new w c t _ _ fun i hi => by simp [Array.getD, hi]
/-- Where a result's blocks lie. -/
theorem GHolds.rng {C : World → Prop} {b0 : Nat} {E : GEnv} {w : World} (h : GHolds C b0 E w) (ht : E.top = none) (i : Nat) (hon : (E.at_ i).on = true) : b0 ≤ (E.at_ i).lo ∧ (E.at_ i).lo ≤ (E.at_ i).hi ∧ (E.at_ i).hi ≤ w.heap.size := by
 have h1 := (holds_recs h ht).1 i
 rcases h1.2.1 with h2 | h2
 ·exact ⟨h2.2.1, h2.2.2, h1.1⟩
 ·rw [hon] at h2; cases h2.2
theorem gDep_mem {md : Region.Mode} {ops : Array Oper} {fu i d : Nat} (h : (gDeps md ops fu i).contains d = true) : d ∈ gDeps md ops fu i := by simpa using h
/-- What is known of one result where all is known. -/
theorem GHolds.rec {C : World → Prop} {b0 : Nat} {E : GEnv} {w : World} (h : GHolds C b0 E w) (ht : E.top = none) (i : Nat) : (E.at_ i).hi ≤ w.heap.size ∧ (((E.at_ i).on = true ∧ b0 ≤ (E.at_ i).lo ∧ (E.at_ i).lo ≤ (E.at_ i).hi) ∨ ((E.at_ i).hi = 0 ∧ (E.at_ i).on = false)) ∧ (E.at_ i).φ w := (holds_recs h ht).1 i
theorem GHolds.apart {C : World → Prop} {b0 : Nat} {E : GEnv} {w : World} (h : GHolds C b0 E w) (ht : E.top = none) (i j : Nat) (hij : i ≠ j) : (E.at_ i).hi ≤ (E.at_ j).lo ∨ (E.at_ j).hi ≤ (E.at_ i).lo := (holds_recs h ht).2 i j hij
theorem Chg.setN {b c g : Nat} {a : World} (h1 : b ≤ g) (h2 : g < c) : ∀ (vs : List Value) {w : World} {p : Nat}, Chg b c a w → Chg b c a (setN w g p vs)
 | [], w, p, h => h
 | v :: vs, w, p, h => Chg.setN h1 h2 vs (h.setCell (p := ⟨g, p, none⟩) h1 h2 v)
theorem Chg.then_below {b c : Nat} {w w' w'' : World} (h : Chg b c w w') (k : Below w.heap.size w' w'') : Chg b c w w'' := ⟨k.os.trans h.os, k.tape.trans h.tape, k.output.trans h.output, Nat.le_trans h.size k.size, fun i hi hr => (k.block i hi).trans (h.block i hi hr)⟩
theorem setN_size (g : Nat) : ∀ (vs : List Value) (w : World) (p : Nat), (setN w g p vs).heap.size = w.heap.size
 | [], w, p => rfl
 | v :: vs, w, p => by rw [setN, setN_size g vs]; simp
theorem updN_zero (f : Nat → Value) (vs : List Value) (i : Nat) (hi : i < vs.length) : updN f 0 vs i = vs.getD i undef := by
 unfold updN; rw [if_pos ⟨Nat.zero_le _, by omega⟩, Nat.sub_zero]
theorem Cells.boxed {w : World} {g n : Nat} {f : Nat → Value} (h : Cells w g n f) (vs : List Value) (hn : vs.length = n) : Cells (Go.Proofs.YtkegbbndmfnolaaGreatDoor.setN w g 0 vs) g n (fun i => vs.getD i undef) :=
 (h.setN vs (b := 0) (by omega)).congr fun i hi => updN_zero f vs i (by omega)
/-- A world that is w but for one block of n cells, and but for draws. -/
structure LaterX (w : World) (r n : Nat) where
 W : World
 ho : W.os = w.os
 hp : W.output = w.output
 ht : W.tape = w.tape
 hs : W.heap.size = w.heap.size
 hb : ∀ k, k ≠ r → W.heap[k]? = w.heap[k]?
 hc : ∃ f, Cells W r n f
def inX (w : World) (r n : Nat) : World → Prop := fun w' => ∃ x : LaterX w r n, w' = x.W
theorem LaterX.cell {w : World} {r n : Nat} {p : Addr} {v : Value} (h : w.cell? p = some v) (hp : p.block ≠ r) (x : LaterX w r n) : x.W.cell? p = some v := (World.cell?_of_block (a := p) (x.hb p.block hp)).trans h
theorem inX.size (w : World) (r n : Nat) : ∀ w', inX w r n w' → w.heap.size ≤ w'.heap.size := fun w' h => by obtain ⟨x, rfl⟩ := h; exact Nat.le_of_eq x.hs.symm
theorem inX.drew {w : World} {r n : Nat} {f : Nat → Value} (h : Cells w r n f) : inX w r n w.drew := ⟨⟨w.drew, rfl, rfl, rfl, rfl, fun _ _ => rfl, f, h⟩, rfl⟩
theorem inX.set {w w' : World} {r n : Nat} (h : inX w r n w') (vs : List Value) (hn : vs.length = n) : inX w r n (setN w' r 0 vs) := by
 obtain ⟨x, rfl⟩ := h
 obtain ⟨f, hf⟩ := x.hc
 have kk : Chg r (r + 1) x.W (setN x.W r 0 vs) := Chg.setN (Nat.le_refl _) (Nat.lt_succ_self _) vs (Chg.refl _ _ x.W)
 refine ⟨⟨_, kk.os.trans x.ho, kk.output.trans x.hp, kk.tape.trans x.ht, (setN_size _ _ _ _).trans x.hs, fun k hk => ?_, _, hf.boxed vs hn⟩, rfl⟩
 rcases Nat.lt_or_ge k x.W.heap.size with h | h
 ·exact (kk.block k h (by omega)).trans (x.hb k hk)
 ·rw [Array.getElem?_eq_none (by rw [setN_size]; exact h), Array.getElem?_eq_none (by rw [← x.hs]; exact h)]
theorem inX.chg {w w' : World} {r n : Nat} (h : inX w r n w') : Chg r (r + 1) w w' := by
 obtain ⟨x, rfl⟩ := h
 exact ⟨x.ho, x.ht, x.hp, Nat.le_of_eq x.hs.symm, fun k hk hr => x.hb k (by omega)⟩
theorem inX.cells {w w' : World} {r n : Nat} (h : inX w r n w') : ∃ f, Cells w' r n f := by obtain ⟨x, rfl⟩ := h; exact x.hc
end Go.Proofs.YtkegbbndmfnolaaGreatDoor
