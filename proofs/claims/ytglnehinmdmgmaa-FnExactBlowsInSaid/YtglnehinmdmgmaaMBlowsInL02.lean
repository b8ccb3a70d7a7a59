import Derived.Test.YtglnehinmdmgmaaMBlowsInL00
import Derived.Deep.AppendLies
import Derived.Laws.OwnMore
/-
  Words of our own that know no program: a slice that reads as a list; a slice of the call's own; cells filled one element after the other.
-/
namespace Go.Proofs.Ytglnehinmdmgmaa
open Go.RowKit
set_option linter.unusedVariables false
set_option linter.unusedSimpArgs false

/-- A slice (its address, its length the list's) reads as a list; each element is so many cells; it lies below block b. -/
def RdL {α : Type} (w : World) (b : Nat) (A : Option Addr) (size : Nat) (enc : α → List Value) (l : List α) : Prop :=
  l = [] ∨ ∃ g off, A = some ⟨g, off, none⟩ ∧ g < b ∧ ∀ (i : Nat) (hi : i < l.length) (j : Nat) (u : Value), (enc l[i])[j]? = some u → w.cell? ⟨g, off + (i * size + j), none⟩ = some u

section
variable {α : Type} {w w' : World} {b b' size : Nat} {A : Option Addr} {enc : α → List Value} {l : List α}
theorem RdL.nil : RdL w b A size enc [] := .inl rfl
theorem RdL.keep (h : RdL w b A size enc l) (hk : ∀ p : Addr, p.block < b → w'.cell? p = w.cell? p) : RdL w' b A size enc l := by
  rcases h with h | ⟨g, off, rfl, hg, hc⟩
  · exact .inl h
  · exact .inr ⟨g, off, rfl, hg, fun i hi j u hu => (hk _ hg).trans (hc i hi j u hu)⟩
theorem RdL.more (h : RdL w b A size enc l) (hb : b ≤ b') : RdL w b' A size enc l := by
  rcases h with h | ⟨g, off, rfl, hg, hc⟩
  · exact .inl h
  · exact .inr ⟨g, off, rfl, by omega, hc⟩
theorem RdL.below {c : Nat} (h : RdL w b A size enc l) (hb : Below c w w') (hc : b ≤ c) : RdL w' b A size enc l := h.keep fun _ hp => hb.cell (Nat.lt_of_lt_of_le hp hc)
theorem RdL.drewN (h : RdL w b A size enc l) (k : Nat) : RdL (w.drewN k) b A size enc l := h
theorem RdL.alloc (h : RdL w b A size enc l) (hb : b ≤ w.heap.size) (o : Obj) : RdL (w.alloc o) b A size enc l := h.keep fun p hp => World.cell?_alloc_lt w o p (by omega)
theorem RdL.setCell (h : RdL w b A size enc l) {p : Addr} (hp : b ≤ p.block) (u : Value) : RdL (w.setCell p u) b A size enc l :=
  h.keep fun q hq => World.cell?_setCell_other w p q u (fun e => by subst e; omega)
/-- The element at a place: its slice's address, and its cells. -/
theorem RdL.at (h : RdL w b A size enc l) {k : Nat} (hk : k < l.length) : ∃ g off, A = some ⟨g, off, none⟩ ∧ g < b ∧ ∀ (j : Nat) (u : Value), (enc l[k])[j]? = some u → w.cell? ⟨g, off + (k * size + j), none⟩ = some u := by
  rcases h with h | ⟨g, off, rfl, hg, hc⟩
  · subst h; simp at hk
  · exact ⟨g, off, rfl, hg, fun j u hu => hc k hk j u hu⟩
end

/-! ### Cells filled one element after the other -/
def updN (f : Nat → Value) (b : Nat) (vs : List Value) : Nat → Value := fun p => if b ≤ p ∧ p < b + vs.length then vs.getD (p - b) undef else f p
theorem updN_nil (f : Nat → Value) (b : Nat) : updN f b [] = f := by funext p; simp only [updN]; rw [if_neg (by simp <;> omega)]
/-- k elements are laid, then what stood there. -/
def fill {α : Type} (enc : α → List Value) (size : Nat) (l : List α) (z : Nat → Value) (k : Nat) : Nat → Value :=
  fun p => if h : p / size < k ∧ p / size < l.length then (enc (l[p / size]'h.2)).getD (p % size) undef else z p
theorem fill_zero {α : Type} (enc : α → List Value) (size : Nat) (l : List α) (z : Nat → Value) : fill enc size l z 0 = z := by
  funext p; unfold fill; rw [dif_neg (fun h => absurd h.1 (Nat.not_lt_zero _))]
theorem fill_step {α : Type} (enc : α → List Value) (size : Nat) (l : List α) (z : Nat → Value) (hsz : 0 < size) (henc : ∀ x, (enc x).length = size) (k : Nat) (hk : k < l.length) (b : Nat) (hb : b = k * size) :
    updN (fill enc size l z k) b (enc l[k]) = fill enc size l z (k + 1) := by
  subst hb
  funext p
  unfold updN
  rw [henc]
  by_cases h : k * size ≤ p ∧ p < k * size + size
  · rw [if_pos h]
    have e : p / size = k := by
      apply Nat.div_eq_of_lt_le
      · exact h.1
      · rw [Nat.succ_mul]; exact h.2
    have e2 : p - k * size = p % size := by
      have := Nat.div_add_mod p size
      rw [e, Nat.mul_comm] at this; omega
    unfold fill
    rw [dif_pos ⟨by omega, by omega⟩, e2]
    simp only [e]
  · rw [if_neg h]
    have e : p / size ≠ k := by
      intro e
      have h1 := Nat.div_add_mod p size
      have h2 := Nat.mod_lt p hsz
      rw [e, Nat.mul_comm] at h1
      omega
    unfold fill
    by_cases h3 : p / size < k ∧ p / size < l.length
    · rw [dif_pos h3, dif_pos ⟨by omega, h3.2⟩]
    · rw [dif_neg h3, dif_neg (by omega)]
theorem fill_at {α : Type} (enc : α → List Value) (size : Nat) (l : List α) (z : Nat → Value) (hsz : 0 < size) (k i j : Nat) (hi : i < k) (hl : i < l.length) (hj : j < size) (u : Value) (hu : (enc l[i])[j]? = some u) : fill enc size l z k (i * size + j) = u := by
  have e : (i * size + j) / size = i := by
    rw [Nat.mul_comm, Nat.mul_add_div hsz, Nat.div_eq_of_lt hj]; omega
  have e2 : (i * size + j) % size = j := by
    rw [Nat.mul_comm, Nat.mul_add_mod, Nat.mod_eq_of_lt hj]
  unfold fill
  rw [dif_pos ⟨by omega, by omega⟩]
  simp only [e, e2]
  rw [List.getD_eq_getElem?_getD, hu]; rfl

/-- So many values stored one behind the other. -/
def setN (w : World) (g b : Nat) : List Value → World
  | [] => w
  | v :: vs => setN (w.setCell ⟨g, b, none⟩ v) g (b + 1) vs
theorem updN_cons (f : Nat → Value) (b : Nat) (v : Value) (vs : List Value) : updN (upd f b v) (b + 1) vs = updN f b (v :: vs) := by
  funext p
  unfold updN upd
  by_cases h : p = b
  · subst h
    rw [if_neg (by omega), if_pos rfl, if_pos ⟨by omega, by simp <;> omega⟩]
    simp
  · by_cases h2 : b + 1 ≤ p ∧ p < b + 1 + vs.length
    · rw [if_pos h2, if_pos ⟨by omega, by simp <;> omega⟩]
      rw [show p - b = (p - (b + 1)) + 1 from by omega]
      simp
    · rw [if_neg h2, if_neg h, if_neg (by simp <;> omega)]
theorem Cells.setN {g n : Nat} : ∀ (vs : List Value) {w : World} {f : Nat → Value} {b : Nat}, Cells w g n f → b + vs.length ≤ n → Cells (setN w g b vs) g n (updN f b vs)
  | [], w, f, b, h, _ => by rw [updN_nil]; exact h
  | v :: vs, w, f, b, h, hb => by
    simp only [List.length_cons] at hb
    have := Cells.setN vs (b := b + 1) (h.set (i := b) (by omega) v) (by omega)
    rw [updN_cons] at this
    exact this
theorem Below.setN {c g : Nat} {a : World} (hg : c ≤ g) : ∀ (vs : List Value) {w : World} {b : Nat}, Below c a w → Below c a (setN w g b vs)
  | [], w, b, h => h
  | v :: vs, w, b, h => Below.setN hg vs (h.setCell (p := ⟨g, b, none⟩) hg v)
theorem Cells.fillN {α : Type} {enc : α → List Value} {size : Nat} {l : List α} {z : Nat → Value} {k g b : Nat} {w : World} (h : Cells w g (l.length * size) (fill enc size l z k)) (hsz : 0 < size) (henc : ∀ x, (enc x).length = size) (hk : k < l.length)
    (hb : b = k * size) (vs : List Value) (hv : enc l[k] = vs) : Cells (Go.Proofs.Ytglnehinmdmgmaa.setN w g b vs) g (l.length * size) (fill enc size l z (k + 1)) := by
  rw [← fill_step enc size l z hsz henc k hk b hb, hv]
  refine h.setN vs ?_
  rw [← hv, henc, hb]
  have : (k + 1) * size ≤ l.length * size := Nat.mul_le_mul_right size hk
  rw [Nat.succ_mul] at this; omega

/-! ### A slice of the call's own: its block lies from b on, ahead of c -/
def OwnL {α : Type} (w : World) (b c : Nat) (A : Option Addr) (size : Nat) (enc : α → List Value) (l : List α) : Prop :=
  l = [] ∨ ∃ g f, A = some ⟨g, 0, none⟩ ∧ b ≤ g ∧ g < c ∧ Cells w g (l.length * size) f ∧ ∀ (i : Nat) (hi : i < l.length) (j : Nat) (u : Value), (enc l[i])[j]? = some u → f (i * size + j) = u

/-- Only blocks from b on, ahead of c, and new ones have turned. -/
structure Chg (b c : Nat) (w w' : World) : Prop where
  os : w'.os = w.os
  tape : w'.tape = w.tape
  output : w'.output = w.output
  size : w.heap.size ≤ w'.heap.size
  block : ∀ k, k < w.heap.size → k < b ∨ c ≤ k → w'.heap[k]? = w.heap[k]?

section
variable {w w' w'' : World} {b c b' c' : Nat}
theorem Chg.of_below (h : Below w.heap.size w w') : Chg b c w w' := ⟨h.os, h.tape, h.output, h.size, fun k hk _ => h.block k hk⟩
theorem Chg.refl (b c : Nat) (w : World) : Chg b c w w := Chg.of_below (Below.refl _ _)
theorem Chg.trans (h : Chg b c w w') (k : Chg b c w' w'') : Chg b c w w'' :=
  ⟨k.os.trans h.os, k.tape.trans h.tape, k.output.trans h.output, Nat.le_trans h.size k.size, fun i hi hr => (k.block i (Nat.lt_of_lt_of_le hi h.size) hr).trans (h.block i hi hr)⟩
theorem Chg.mono (h : Chg b c w w') (hb : b' ≤ b) (hc : c ≤ c') : Chg b' c' w w' := ⟨h.os, h.tape, h.output, h.size, fun k hk hr => h.block k hk (by omega)⟩
theorem Chg.setCell {a : World} (h : Chg b c a w) {p : Addr} (hb : b ≤ p.block) (hc : p.block < c) (u : Value) : Chg b c a (w.setCell p u) :=
  ⟨h.os, h.tape, h.output, by simpa using h.size, fun k hk hr => (Below.heap_setCell w p u k (by omega)).trans (h.block k hk hr)⟩
theorem Below.chg {B : Nat} {a : World} (h : Below B a w) (k : Chg b c w w') (hb : B ≤ b) (hB : B ≤ w.heap.size) : Below B a w' :=
  ⟨k.os.trans h.os, k.tape.trans h.tape, k.output.trans h.output, Nat.le_trans h.size k.size, fun i hi => (k.block i (by omega) (by omega)).trans (h.block i hi)⟩
theorem Chg.below {a : World} (h : Chg b c a w) (k : Below w.heap.size w w') : Chg b c a w' := h.trans (Chg.of_below k)
theorem Chg.cell (h : Chg b c w w') {p : Addr} (hp : p.block < w.heap.size) (hr : p.block < b ∨ c ≤ p.block) : w'.cell? p = w.cell? p := World.cell?_of_block (w := w) (h.block p.block hp hr)
theorem Chg.frozen (h : Chg b c w w') {p : Addr} (hp : p.block < w.heap.size) (hr : p.block < b ∨ c ≤ p.block) : w'.frozen? p = w.frozen? p := World.frozen?_of_block (w := w) (h.block p.block hp hr)
theorem Cells.chg {g n : Nat} {f : Nat → Value} (h : Cells w g n f) (k : Chg b c w w') (hr : g < b ∨ c ≤ g) : Cells w' g n f :=
  ⟨Nat.lt_of_lt_of_le h.1 k.size, fun i hi => ⟨(k.cell (p := ⟨g, i, none⟩) h.1 hr).trans (h.2 i hi).1, (k.frozen (p := ⟨g, i, none⟩) h.1 hr).trans (h.2 i hi).2⟩⟩
end

section
variable {α : Type} {w w' : World} {b b' c c' size : Nat} {A : Option Addr} {enc : α → List Value} {l : List α}
theorem RdL.chg {e : Nat} (h : RdL w e A size enc l) (he : e ≤ w.heap.size) (k : Chg b c w w') (hr : e ≤ b) : RdL w' e A size enc l := h.keep fun _ hp => k.cell (by omega) (by omega)
theorem OwnL.nil : OwnL w b c A size enc [] := .inl rfl
theorem idx_lt {i n j size : Nat} (hi : i < n) (hj : j < size) : i * size + j < n * size := by
  have : (i + 1) * size ≤ n * size := Nat.mul_le_mul_right size hi
  rw [Nat.succ_mul] at this; omega
theorem OwnL.rd (h : OwnL w b c A size enc l) (henc : ∀ x, (enc x).length = size) : RdL w w.heap.size A size enc l := by
  rcases h with h | ⟨g, f, rfl, _, _, hc, hf⟩
  · exact .inl h
  · refine .inr ⟨g, 0, rfl, hc.lt, fun i hi j u hu => ?_⟩
    have hj : j < size := by rw [← henc l[i]]; exact (List.getElem?_eq_some_iff.1 hu).1
    rw [Nat.zero_add, hc.cell (idx_lt hi hj), hf i hi j u hu]
theorem OwnL.later (h : OwnL w b c A size enc l) (hb : Below w.heap.size w w') : OwnL w' b c A size enc l := by
  rcases h with h | ⟨g, f, rfl, hg, hg2, hc, hf⟩
  · exact .inl h
  · exact .inr ⟨g, f, rfl, hg, hg2, hc.later hb, hf⟩
theorem OwnL.chg (h : OwnL w b c A size enc l) (k : Chg b' c' w w') (hr : c ≤ b' ∨ c' ≤ b) : OwnL w' b c A size enc l := by
  rcases h with h | ⟨g, f, rfl, hg, hg2, hc, hf⟩
  · exact .inl h
  · exact .inr ⟨g, f, rfl, hg, hg2, hc.chg k (by omega), hf⟩
theorem OwnL.mono (h : OwnL w b c A size enc l) (hb : b' ≤ b) (hc : c ≤ c') : OwnL w b' c' A size enc l := by
  rcases h with h | ⟨g, f, rfl, hg, hg2, hc, hf⟩
  · exact .inl h
  · exact .inr ⟨g, f, rfl, by omega, by omega, hc, hf⟩
theorem OwnL.of_fill {g : Nat} {z : Nat → Value} {k : Nat} (hc : Cells w g (l.length * size) (fill enc size l z k)) (hk : l.length ≤ k) (hb : b ≤ g) (hg : g < c) (henc : ∀ x, (enc x).length = size) :
    OwnL w b c (some ⟨g, 0, none⟩) size enc l := by
  refine .inr ⟨g, _, rfl, hb, hg, hc, fun i hi j u hu => ?_⟩
  have hj : j < size := by rw [← henc l[i]]; exact (List.getElem?_eq_some_iff.1 hu).1
  exact fill_at enc size l z (by omega) k i j (by omega) hi hj u hu
/-- The cells of an own slice that is not empty. -/
theorem OwnL.cells (h : OwnL w b c A size enc l) (hl : 0 < l.length) : ∃ g f, A = some ⟨g, 0, none⟩ ∧ b ≤ g ∧ g < c ∧ Cells w g (l.length * size) f := by
  rcases h with h | ⟨g, f, rfl, hg, hg2, hc, hf⟩
  · subst h; simp at hl
  · exact ⟨g, f, rfl, hg, hg2, hc⟩
/-- An element was laid, cell by cell. -/
theorem Cells.as_fill {l : List α} {z : Nat → Value} {k g p n : Nat} {F : Nat → Value} (h : Cells w g n F) (vs : List Value) (hF : F = updN (fill enc size l z k) p vs)
    (hsz : 0 < size) (henc : ∀ x, (enc x).length = size) (hk : k < l.length) (hp : p = k * size) (hv : enc l[k] = vs) : Cells w g n (fill enc size l z (k + 1)) := by
  rw [← fill_step enc size l z hsz henc k hk p hp, hv, ← hF]
  exact h
end

section
variable {P : Program} {ops : Array Oper} {rest : List Oper} {o : Oper} {a : Act} {Q : Exit → Act → World → Prop} {w : World}
/-- 'make([]T, n)', an element of however many cells: what it gives, the world left open. -/
theorem wpList_make_cellsN (hgd : o.guard = none) (t : TypeId) (x : Operand) (ho : o.op = .makeSlice t x x) (e : TypeId) (z : Value) (size bytes : Nat)
    (ht : P.underlying t = some (.slice e)) (hinfo : (P.info? e).map (fun i => (i.zero, i.size, i.bytes)) = some (some z, size, bytes)) (hz1 : z.cells.size = size)
    (k : IntKind) (n : Nat) (hx : a.eval x = .int k (n : Int)) (hbytes : bytes * n ≤ 281474976710656) (h63 : n ≤ 9223372036854775807)
    (h : ∀ w', Cells w' w.heap.size (n * size) (fun i => z.cells.getD (i % size) undef) → Below w.heap.size w w' →
      wpList P ops Q rest (a.put o.dst (.slice (some ⟨w.heap.size, 0, none⟩) n n)) w') : wpList P ops Q (o :: rest) a w := by
  refine wpList_plain hgd fun K hK => ?_
  obtain ⟨i, hi, hzz⟩ := Option.map_eq_some_iff.1 hinfo
  simp only [Prod.mk.injEq] at hzz
  obtain ⟨hz, hs, hb⟩ := hzz
  have hbb : (i.bytes : Int) * (n : Int) ≤ 281474976710656 := by
    rw [hb]
    have h : ((bytes * n : Nat) : Int) ≤ 281474976710656 := by omega
    rwa [Int.natCast_mul] at h
  have hr := run_make (P := P) w t e i z ht hi hz k k n n (by omega) (Int.le_refl _) hbb (by omega)
  simp only [Int.toNat_natCast] at hr
  refine wp_of_run (w' := w.alloc (.cells (madeCells z.cells (n * i.size)) e)) ?_ (hK _ _ (h _ ?_ ?_))
  · unfold execOp
    rw [ho]
    simp only [hx]
    simp [hr]
  · refine Cells.new w _ e _ _ fun p hp => ?_
    rw [hs]
    have hsz : 0 < size := by rcases Nat.eq_zero_or_pos size with h0 | h0; (subst h0; simp at hp); exact h0
    have hm := Nat.mod_lt p hsz
    simp [madeCells, hp, hz1, Array.getD, hm]
  · exact (Below.refl _ _).alloc (Nat.le_refl _) _
end
end Go.Proofs.Ytglnehinmdmgmaa
