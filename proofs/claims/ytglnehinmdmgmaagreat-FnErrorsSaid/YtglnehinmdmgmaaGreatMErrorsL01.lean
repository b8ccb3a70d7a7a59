import Derived.Test.YtglnehinmdmgmaaGreatMErrorsL00
import Derived.Deep.AppendLies
import Derived.Laws.OwnMore
import Derived.Laws.AppendOwn
import Derived.Maps.AppendAt
import Derived.Test.YtglnehinmdmgmaaGreatRows
import Derived.ProofKit
import Derived.OpenShut
import Derived.ShutString
import Derived.Below
import Derived.Carry
import Derived.Deep.Slices
import Derived.Deep.Fields
import Derived.StillTailTactics
import Derived.Deep.RegionHeld3
/-
  Equality of two strings, as the walk asks it.
-/
namespace Go.Proofs.YtglnehinmdmgmaaGreat
theorem toList_inj {s t : ByteArray} : s.toList = t.toList ↔ s = t := by
  constructor
  · intro h
    rw [ByteArray.toList_eq, ByteArray.toList_eq] at h
    exact ByteArray.ext (Array.ext' h)
  · intro h; rw [h]
theorem eqB_t {s t : ByteArray} (h : s = t) : (s.toList == t.toList) = true := by rw [h]; simp
theorem eqB_f {s t : ByteArray} (h : ¬ s = t) : (s.toList == t.toList) = false := by rw [beq_eq_false_iff_ne]; exact fun e => h (toList_inj.1 e)
end Go.Proofs.YtglnehinmdmgmaaGreat

/-
  Words of our own that know no program: a slice that reads as a list; a slice of the call's own; cells filled one element after the other.
-/
namespace Go.Proofs.YtglnehinmdmgmaaGreat
open Go.RowKit
set_option linter.unusedVariables false
set_option linter.unusedSimpArgs false

/-- A slice (its address, its length the list's) reads as a list; each element is so many cells; it lies below block b. -/
def RdL {α : Type} (w : World) (b : Nat) (A : Option Addr) (size : Nat) (enc : α → List Value) (l : List α) : Prop :=
  l = [] ∨ ∃ g off, A = some ⟨g, off, none⟩ ∧ g < b ∧ ∀ (i : Nat) (hi : i < l.length) (j : Nat) (u : Value), (enc l[i])[j]? = some u → w.cell? ⟨g, off + (i * size + j), none⟩ = some u

section
variable {α : Type} {w w' : World} {b b' size : Nat} {A : Option Addr} {enc : α → List Value} {l : List α}
theorem RdL.nil : RdL w b A size enc [] := .inl rfl
theorem RdL.keep (h : RdL w b A size enc l) (hk : ∀ p : Addr, p.block < b → w'.cell? p = w.cell? p) : RdL w' b A size enc l := by
  rcases h with h | ⟨g, off, rfl, hg, hc⟩
  · exact .inl h
  · exact .inr ⟨g, off, rfl, hg, fun i hi j u hu => (hk _ hg).trans (hc i hi j u hu)⟩
theorem RdL.more (h : RdL w b A size enc l) (hb : b ≤ b') : RdL w b' A size enc l := by
  rcases h with h | ⟨g, off, rfl, hg, hc⟩
  · exact .inl h
  · exact .inr ⟨g, off, rfl, by omega, hc⟩
theorem RdL.below {c : Nat} (h : RdL w b A size enc l) (hb : Below c w w') (hc : b ≤ c) : RdL w' b A size enc l := h.keep fun _ hp => hb.cell (Nat.lt_of_lt_of_le hp hc)
theorem RdL.drewN (h : RdL w b A size enc l) (k : Nat) : RdL (w.drewN k) b A size enc l := h
theorem RdL.alloc (h : RdL w b A size enc l) (hb : b ≤ w.heap.size) (o : Obj) : RdL (w.alloc o) b A size enc l := h.keep fun p hp => World.cell?_alloc_lt w o p (by omega)
theorem RdL.setCell (h : RdL w b A size enc l) {p : Addr} (hp : b ≤ p.block) (u : Value) : RdL (w.setCell p u) b A size enc l :=
  h.keep fun q hq => World.cell?_setCell_other w p q u (fun e => by subst e; omega)
/-- The element at a place: its slice's address, and its cells. -/
theorem RdL.at (h : RdL w b A size enc l) {k : Nat} (hk : k < l.length) : ∃ g off, A = some ⟨g, off, none⟩ ∧ g < b ∧ ∀ (j : Nat) (u : Value), (enc l[k])[j]? = some u → w.cell? ⟨g, off + (k * size + j), none⟩ = some u := by
  rcases h with h | ⟨g, off, rfl, hg, hc⟩
  · subst h; simp at hk
  · exact ⟨g, off, rfl, hg, fun j u hu => hc k hk j u hu⟩
end

/-! ### Cells filled one element after the other -/
def updN (f : Nat → Value) (b : Nat) (vs : List Value) : Nat → Value := fun p => if b ≤ p ∧ p < b + vs.length then vs.getD (p - b) undef else f p
theorem updN_nil (f : Nat → Value) (b : Nat) : updN f b [] = f := by funext p; simp only [updN]; rw [if_neg (by simp <;> omega)]
/-- k elements are laid, then what stood there. -/
def fill {α : Type} (enc : α → List Value) (size : Nat) (l : List α) (z : Nat → Value) (k : Nat) : Nat → Value :=
  fun p => if h : p / size < k ∧ p / size < l.length then (enc (l[p / size]'h.2)).getD (p % size) undef else z p
/-- So many values stored one behind the other. -/
def setN (w : World) (g b : Nat) : List Value → World
  | [] => w
  | v :: vs => setN (w.setCell ⟨g, b, none⟩ v) g (b + 1) vs
theorem updN_cons (f : Nat → Value) (b : Nat) (v : Value) (vs : List Value) : updN (upd f b v) (b + 1) vs = updN f b (v :: vs) := by
  funext p
  unfold updN upd
  by_cases h : p = b
  · subst h
    rw [if_neg (by omega), if_pos rfl, if_pos ⟨by omega, by simp <;> omega⟩]
    simp
  · by_cases h2 : b + 1 ≤ p ∧ p < b + 1 + vs.length
    · rw [if_pos h2, if_pos ⟨by omega, by simp <;> omega⟩]
      rw [show p - b = (p - (b + 1)) + 1 from by omega]
      simp
    · rw [if_neg h2, if_neg h, if_neg (by simp <;> omega)]
theorem Cells.setN {g n : Nat} : ∀ (vs : List Value) {w : World} {f : Nat → Value} {b : Nat}, Cells w g n f → b + vs.length ≤ n → Cells (setN w g b vs) g n (updN f b vs)
  | [], w, f, b, h, _ => by rw [updN_nil]; exact h
  | v :: vs, w, f, b, h, hb => by
    simp only [List.length_cons] at hb
    have := Cells.setN vs (b := b + 1) (h.set (i := b) (by omega) v) (by omega)
    rw [updN_cons] at this
    exact this
theorem Below.setN {c g : Nat} {a : World} (hg : c ≤ g) : ∀ (vs : List Value) {w : World} {b : Nat}, Below c a w → Below c a (setN w g b vs)
  | [], w, b, h => h
  | v :: vs, w, b, h => Below.setN hg vs (h.setCell (p := ⟨g, b, none⟩) hg v)
/-! ### A slice of the call's own: its block lies from b on, ahead of c -/
def OwnL {α : Type} (w : World) (b c : Nat) (A : Option Addr) (size : Nat) (enc : α → List Value) (l : List α) : Prop :=
  l = [] ∨ ∃ g f, A = some ⟨g, 0, none⟩ ∧ b ≤ g ∧ g < c ∧ Cells w g (l.length * size) f ∧ ∀ (i : Nat) (hi : i < l.length) (j : Nat) (u : Value), (enc l[i])[j]? = some u → f (i * size + j) = u

/-- Only blocks from b on, ahead of c, and new ones have turned. -/
structure Chg (b c : Nat) (w w' : World) : Prop where
  os : w'.os = w.os
  tape : w'.tape = w.tape
  output : w'.output = w.output
  size : w.heap.size ≤ w'.heap.size
  block : ∀ k, k < w.heap.size → k < b ∨ c ≤ k → w'.heap[k]? = w.heap[k]?

section
variable {w w' w'' : World} {b c b' c' : Nat}
theorem Chg.of_below (h : Below w.heap.size w w') : Chg b c w w' := ⟨h.os, h.tape, h.output, h.size, fun k hk _ => h.block k hk⟩
theorem Chg.refl (b c : Nat) (w : World) : Chg b c w w := Chg.of_below (Below.refl _ _)
theorem Chg.trans (h : Chg b c w w') (k : Chg b c w' w'') : Chg b c w w'' :=
  ⟨k.os.trans h.os, k.tape.trans h.tape, k.output.trans h.output, Nat.le_trans h.size k.size, fun i hi hr => (k.block i (Nat.lt_of_lt_of_le hi h.size) hr).trans (h.block i hi hr)⟩
theorem Chg.mono (h : Chg b c w w') (hb : b' ≤ b) (hc : c ≤ c') : Chg b' c' w w' := ⟨h.os, h.tape, h.output, h.size, fun k hk hr => h.block k hk (by omega)⟩
theorem Chg.setCell {a : World} (h : Chg b c a w) {p : Addr} (hb : b ≤ p.block) (hc : p.block < c) (u : Value) : Chg b c a (w.setCell p u) :=
  ⟨h.os, h.tape, h.output, by simpa using h.size, fun k hk hr => (Below.heap_setCell w p u k (by omega)).trans (h.block k hk hr)⟩
theorem Below.chg {B : Nat} {a : World} (h : Below B a w) (k : Chg b c w w') (hb : B ≤ b) (hB : B ≤ w.heap.size) : Below B a w' :=
  ⟨k.os.trans h.os, k.tape.trans h.tape, k.output.trans h.output, Nat.le_trans h.size k.size, fun i hi => (k.block i (by omega) (by omega)).trans (h.block i hi)⟩
theorem Chg.below {a : World} (h : Chg b c a w) (k : Below w.heap.size w w') : Chg b c a w' := h.trans (Chg.of_below k)
theorem Chg.cell (h : Chg b c w w') {p : Addr} (hp : p.block < w.heap.size) (hr : p.block < b ∨ c ≤ p.block) : w'.cell? p = w.cell? p := World.cell?_of_block (w := w) (h.block p.block hp hr)
theorem Chg.frozen (h : Chg b c w w') {p : Addr} (hp : p.block < w.heap.size) (hr : p.block < b ∨ c ≤ p.block) : w'.frozen? p = w.frozen? p := World.frozen?_of_block (w := w) (h.block p.block hp hr)
theorem Cells.chg {g n : Nat} {f : Nat → Value} (h : Cells w g n f) (k : Chg b c w w') (hr : g < b ∨ c ≤ g) : Cells w' g n f :=
  ⟨Nat.lt_of_lt_of_le h.1 k.size, fun i hi => ⟨(k.cell (p := ⟨g, i, none⟩) h.1 hr).trans (h.2 i hi).1, (k.frozen (p := ⟨g, i, none⟩) h.1 hr).trans (h.2 i hi).2⟩⟩
end

section
variable {α : Type} {w w' : World} {b b' c c' size : Nat} {A : Option Addr} {enc : α → List Value} {l : List α}
theorem RdL.chg {e : Nat} (h : RdL w e A size enc l) (he : e ≤ w.heap.size) (k : Chg b c w w') (hr : e ≤ b) : RdL w' e A size enc l := h.keep fun _ hp => k.cell (by omega) (by omega)
theorem OwnL.nil : OwnL w b c A size enc [] := .inl rfl
theorem idx_lt {i n j size : Nat} (hi : i < n) (hj : j < size) : i * size + j < n * size := by
  have : (i + 1) * size ≤ n * size := Nat.mul_le_mul_right size hi
  rw [Nat.succ_mul] at this; omega
theorem OwnL.rd (h : OwnL w b c A size enc l) (henc : ∀ x, (enc x).length = size) : RdL w w.heap.size A size enc l := by
  rcases h with h | ⟨g, f, rfl, _, _, hc, hf⟩
  · exact .inl h
  · refine .inr ⟨g, 0, rfl, hc.lt, fun i hi j u hu => ?_⟩
    have hj : j < size := by rw [← henc l[i]]; exact (List.getElem?_eq_some_iff.1 hu).1
    rw [Nat.zero_add, hc.cell (idx_lt hi hj), hf i hi j u hu]
theorem OwnL.later (h : OwnL w b c A size enc l) (hb : Below w.heap.size w w') : OwnL w' b c A size enc l := by
  rcases h with h | ⟨g, f, rfl, hg, hg2, hc, hf⟩
  · exact .inl h
  · exact .inr ⟨g, f, rfl, hg, hg2, hc.later hb, hf⟩
theorem OwnL.chg (h : OwnL w b c A size enc l) (k : Chg b' c' w w') (hr : c ≤ b' ∨ c' ≤ b) : OwnL w' b c A size enc l := by
  rcases h with h | ⟨g, f, rfl, hg, hg2, hc, hf⟩
  · exact .inl h
  · exact .inr ⟨g, f, rfl, hg, hg2, hc.chg k (by omega), hf⟩
theorem OwnL.mono (h : OwnL w b c A size enc l) (hb : b' ≤ b) (hc : c ≤ c') : OwnL w b' c' A size enc l := by
  rcases h with h | ⟨g, f, rfl, hg, hg2, hc, hf⟩
  · exact .inl h
  · exact .inr ⟨g, f, rfl, by omega, by omega, hc, hf⟩
/-- The cells of an own slice that is not empty. -/
theorem OwnL.cells (h : OwnL w b c A size enc l) (hl : 0 < l.length) : ∃ g f, A = some ⟨g, 0, none⟩ ∧ b ≤ g ∧ g < c ∧ Cells w g (l.length * size) f := by
  rcases h with h | ⟨g, f, rfl, hg, hg2, hc, hf⟩
  · subst h; simp at hl
  · exact ⟨g, f, rfl, hg, hg2, hc⟩
end

section
variable {P : Program} {ops : Array Oper} {rest : List Oper} {o : Oper} {a : Act} {Q : Exit → Act → World → Prop} {w : World}
end
end Go.Proofs.YtglnehinmdmgmaaGreat

/-
  Words of our own that know no program: a list that the call itself makes, one append after the other.
-/
namespace Go.Proofs.YtglnehinmdmgmaaGreat
open Go.RowKit
set_option linter.unusedVariables false
set_option linter.unusedSimpArgs false

/-- The cells of a list, one element after the other. -/
def flat {α : Type} (enc : α → List Value) : List α → List Value
  | [] => []
  | x :: l => enc x ++ flat enc l
section
variable {α : Type} {enc : α → List Value} {size : Nat}
theorem flat_append (l m : List α) : flat enc (l ++ m) = flat enc l ++ flat enc m := by
  induction l with
  | nil => rfl
  | cons x l ih => simp [flat, ih]
theorem flat_len (henc : ∀ x, (enc x).length = size) (l : List α) : (flat enc l).length = l.length * size := by
  induction l with
  | nil => simp [flat]
  | cons x l ih => simp [flat, ih, henc, Nat.succ_mul]; omega
theorem flat_at (henc : ∀ x, (enc x).length = size) : ∀ (l : List α) (i : Nat) (hi : i < l.length) (j : Nat) (u : Value), (enc l[i])[j]? = some u → (flat enc l)[i * size + j]? = some u
  | x :: l, 0, hi, j, u, hu => by
    have hj : j < (enc x).length := (List.getElem?_eq_some_iff.1 hu).1
    simp only [flat]
    rw [Nat.zero_mul, Nat.zero_add, List.getElem?_append_left hj]
    exact hu
  | x :: l, i + 1, hi, j, u, hu => by
    simp only [flat]
    rw [List.getElem?_append_right (by rw [henc, Nat.succ_mul]; omega), henc]
    have := flat_at henc l i (by simpa using hi) j u (by simpa using hu)
    rw [show (i + 1) * size + j - size = i * size + j by rw [Nat.succ_mul]; omega]
    exact this
end

/-- The value v is a slice of the call's own (nil, or at the head of a block from base on) that holds the list. -/
def Grow {α : Type} (w : World) (base : Nat) (e : TypeId) (size : Nat) (enc : α → List Value) (v : Value) (l : List α) : Prop :=
  w.ownsRow base e size v l.length (flat enc l)

section
variable {α : Type} {w w' : World} {base : Nat} {e : TypeId} {size : Nat} {enc : α → List Value} {v : Value} {l : List α}
theorem Grow.nil : Grow w base e size enc (.slice none 0 0) ([] : List α) := ⟨by simp [flat], .inl ⟨rfl, rfl⟩⟩
/-- '[]T{}': a new block without cells. -/
theorem Grow.empty {b : Nat} (hb : b ≤ w.heap.size) : Grow (w.alloc (.cells #[] e)) b e size enc (.slice (some ⟨w.heap.size, 0, none⟩) 0 0) ([] : List α) :=
  ⟨by simp [flat], .inr ⟨w.heap.size, 0, #[], rfl, hb, heap_alloc_new w _, Nat.le_refl _, by simp [maxLen], by simp, by simp [flat]⟩⟩
theorem Grow.later (h : Grow w base e size enc v l) (hb : Below w.heap.size w w') : Grow w' base e size enc v l := by
  refine ⟨h.1, ?_⟩
  rcases h.2 with ⟨h1, h2⟩ | ⟨g, cap, cur, h1, h2, h3, h4⟩
  · exact .inl ⟨h1, h2⟩
  · refine .inr ⟨g, cap, cur, h1, h2, ?_, h4⟩
    have hlt : g < w.heap.size := by
      rcases Nat.lt_or_ge g w.heap.size with x | x
      · exact x
      · rw [Array.getElem?_eq_none x] at h3; cases h3
    exact (hb.block g hlt).trans h3
/-- A store below the base. -/
theorem Grow.set (h : Grow w base e size enc v l) {p : Addr} (hp : p.block < base) (u : Value) : Grow (w.setCell p u) base e size enc v l := by
  refine ⟨h.1, ?_⟩
  rcases h.2 with ⟨h1, h2⟩ | ⟨g, cap, cur, h1, h2, h3, h4⟩
  · exact .inl ⟨h1, h2⟩
  · exact .inr ⟨g, cap, cur, h1, h2, (Below.heap_setCell w p u g (by omega)).trans h3, h4⟩
theorem Grow.drewN (h : Grow w base e size enc v l) (n : Nat) : Grow (w.drewN n) base e size enc v l := h
theorem Grow.alloc (h : Grow w base e size enc v l) (o : Obj) : Grow (w.alloc o) base e size enc v l := h.later ((Below.refl _ _).alloc (Nat.le_refl _) o)
/-- What it is good for: a slice of the call's own. -/
theorem Grow.own (h : Grow w base e size enc v l) (henc : ∀ x, (enc x).length = size) : ∃ A c, v = .slice A l.length c ∧ OwnL w base w.heap.size A size enc l := by
  rcases h.2 with ⟨h1, h2⟩ | ⟨g, cap, cur, h1, h2, h3, h4, h5, h6, h7⟩
  · have : l = [] := List.eq_nil_of_length_eq_zero h2
    subst this
    exact ⟨none, 0, h1, .inl rfl⟩
  · refine ⟨_, cap, h1, .inr ⟨g, fun i => (flat enc l).getD i undef, rfl, h2, ?_, ?_, ?_⟩⟩
    · rcases Nat.lt_or_ge g w.heap.size with x | x
      · exact x
      · rw [Array.getElem?_eq_none x] at h3; cases h3
    · refine ⟨?_, fun i hi => ⟨?_, ?_⟩⟩
      · rcases Nat.lt_or_ge g w.heap.size with x | x
        · exact x
        · rw [Array.getElem?_eq_none x] at h3; cases h3
      · rw [cell_of_row w g i cur e (0, 0) h3]
        have hl := flat_len henc l
        have : (flat enc l)[i]? = cur[i]? := by
          rw [← h7, List.getElem?_take_of_lt (by omega)]
          simp
        rw [← this]
        show _ = some ((flat enc l).getD i undef)
        rw [List.getD_eq_getElem?_getD, List.getElem?_eq_getElem (by omega)]
        rfl
      · simp [World.frozen?, h3]
    · intro i hi j u hu
      show (flat enc l).getD (i * size + j) undef = u
      rw [List.getD_eq_getElem?_getD, flat_at henc l i hi j u hu]
      rfl
end

section
variable {P : Program} {ops : Array Oper} {rest : List Oper} {o : Oper} {a : Act} {Q : Exit → Act → World → Prop} {w : World}
/-- 'l = append(l, x)': its elements were just built in a block of their own. -/
theorem wpList_push {α : Type} (hgd : o.guard = none) (s x : Operand) (t : TypeId) (ho : o.op = .call { callee := .builtin .append, args := #[s, x], argTypes := #[t, t] })
    (base : Nat) (e : TypeId) (z : Value) (size bytes : Nat) (enc : α → List Value)
    (ht : P.underlying t = some (.slice e)) (hinfo : (P.info? e).map (fun i => (i.zero, i.size, i.bytes)) = some (some z, size, bytes)) (hzs : z.cells.size = size) (hsz : 0 < size)
    {news : List Value} {e' : TypeId} {g : Nat} (v : Value) (l ys : List α) (c : Nat) (hs : a.eval s = v) (hx : a.eval x = .slice (some ⟨g, 0, none⟩) ys.length c) (hg0 : g = w.heap.size)
    (hown : Grow w base e size enc v l) (hne : news = flat enc ys) (henc : ∀ x, (enc x).length = size) (h1 : ∀ u ∈ news, u.oneCell' = true)
    (hn : l.length + ys.length ≤ 1000000000) (hb : bytes ≤ 1000) (hbase : base ≤ w.heap.size)
    (h : ∀ v' w', Grow w' base e size enc v' (l ++ ys) → Below base w w' → w.grownBy w' v.ownBlock → wpList P ops Q rest (a.put o.dst v') w') :
    wpList P ops Q (o :: rest) a (w.alloc (.cells news.toArray e')) := by
  obtain ⟨i, hi, hzz⟩ := Option.map_eq_some_iff.1 hinfo
  simp only [Prod.mk.injEq] at hzz
  obtain ⟨hz, hs', hb'⟩ := hzz
  subst hne
  subst hg0
  have hmul : (l.length + ys.length) * bytes ≤ 1000000000 * 1000 := Nat.mul_le_mul hn hb
  refine wpList_append_own (P := P) _ hgd s x t ho base e i z size bytes ht hi hz hs' hb' hzs hsz v l.length (flat enc l) hs (hown.alloc _) ⟨w.heap.size, 0, none⟩ ys.length c (flat enc ys) hx (flat_len henc ys)
    (fun j u hu => by
      have e : (⟨w.heap.size, 0, none⟩ : Addr).add j = ⟨w.heap.size, j, none⟩ := by unfold Addr.add; split <;> simp_all
      rw [e, World.cell?_alloc_new]; simpa using hu) h1 (by unfold maxLen; omega) (by omega) (by simp; omega) ?_
  intro v' w' hown' hg _
  have hr : ∀ k, v.ownBlock = some k → base ≤ k := fun k hk => by
    rcases hown.2 with ⟨rfl, _⟩ | ⟨g, cap, cur, rfl, hbg, _⟩
    · simp [Value.ownBlock] at hk
    · simp [Value.ownBlock] at hk; omega
  refine h v' w' ?_ ?_ ?_
  · unfold Grow
    rw [List.length_append, flat_append]
    exact hown'
  · exact ((Below.refl base w).alloc hbase _).grown hg (by simp; omega) hr
  · exact ⟨hg.os, hg.tape, hg.output, Nat.le_trans (by simp) hg.size, fun k hk hne => (hg.block k (by simp; omega) hne).trans (Below.heap_alloc w _ k hk)⟩
end
end Go.Proofs.YtglnehinmdmgmaaGreat

/-
  Contract of markText: the mark of a number.
-/
namespace Go.Proofs.YtglnehinmdmgmaaGreat
open Go.RowKit
set_option linter.unusedVariables false
set_option linter.unusedSimpArgs false
set_option maxRecDepth 100000

/-- What a law's size function tells: too large, or what is left. -/
def SzOk (r left : Int) (n : Nat) (sm : Prop) : Prop := r < 0 ∨ (0 ≤ r ∧ r ≤ left ∧ (n : Int) ≤ left ∧ sm)
/-- The decimal digits of a number, none for 0. -/
def digN : Nat → Nat → List Int
  | 0, _ => []
  | f + 1, k => if k = 0 then [] else digN f (k / 10) ++ [48 + ((k % 10 : Nat) : Int)]
def digs (k : Nat) : List Int := digN k k
theorem mkS_app (l m : List Int) : mkS l ++ mkS m = mkS (l ++ m) := by
  apply ByteArray.ext
  simp [mkS, ByteArray.data_append]
/-- The mark of a number from 1 on. -/
def markT (k : Nat) : ByteArray := mkS ([109] ++ digs k)

end Go.Proofs.YtglnehinmdmgmaaGreat

/-
  A law's last step, once for all: a call that answers true and leaves every block that was there as it was meets the row's post.
-/
namespace Go.Proofs.YtglnehinmdmgmaaGreat
open Go.ChangeShapes Go.WideShapes Go.ChangeAt Go.RowKit

theorem trodAll_below {H : Type} {enc : TypeId × Value → H} {P : Program} (hl : laidOutB P = true) {W W' : World} (hb : Below W.heap.size W W') :
    ∀ (ts : List TypeId) (vs : List Value) (ds : List (DataW H)) (ps : List MemPlace), ts.all (fun t => P.readableRec t && decide (t < P.types.size)) = true →
      DataW.TrodAll enc P W 0 (fun _ => true) true ts vs ds ps → (∀ x ∈ ps, x.block < W.heap.size) →
      DataW.TrodAll enc P W' 0 (fun b => decide (b < W.heap.size)) true ts vs ds ps := by
  intro ts
  induction ts with
  | nil =>
    intro vs ds ps _ h _
    obtain ⟨rfl, rfl, rfl⟩ := trodAll_nil h
    exact trodAll_mk0
  | cons t ts ih =>
    intro vs ds ps hr h hlt
    obtain ⟨v, vs', d, ds', p, q, rfl, rfl, rfl, h0, h1⟩ := trodAll_cons h
    rw [List.all_cons, Bool.and_eq_true, Bool.and_eq_true, decide_eq_true_eq] at hr
    exact trodAll_cons_mk (Below.trod hl hr.1.1 hr.1.2 h0 hb (fun x hx => hlt x (List.mem_append.2 (.inl hx)))) (ih _ _ _ hr.2 h1 (fun x hx => hlt x (List.mem_append.2 (.inr hx))))

theorem law_post {H : Type} {enc : TypeId × Value → H} {P : Program} {f : Func} {s : ChangeSpec} {apart : Bool} {W W' : World} {args : Array Value} {ds : List (DataW H)} {before : List MemPlace} {tb : TypeId}
    (hl : laidOutB P = true) (hr : f.params.toList.all (fun t => P.readableRec t && decide (t < P.types.size)) = true)
    (ht : f.resultTypes = #[tb]) (hu : P.underlying tb = some .bool) (hv : s.vars = []) (hs : s.fn H (ds ++ []) = { results := [.lit (.bool true)], args := ds })
    (hW : DataW.Whole enc P f.params.toList s.vars apart W args.toList ds [] before) (hb : Below W.heap.size W W') :
    s.post enc P f apart true false false W args (.bool true) W' := by
  have hlt : ∀ p ∈ before, p.block < W.heap.size := fun p hp => by simpa using hW.lt p hp
  have hW' := hW
  obtain ⟨p, q, hA, hV, rfl, _, _⟩ := hW
  rw [hv] at hV
  obtain ⟨_, rfl⟩ := trodVars_none hV
  refine ⟨ds, [], p ++ [], [], p, [], hW', ?_, ?_, ?_, World.keptBut_mono (fun x hx => ⟨hx, ?_⟩) (hb.frame (· ∈ p ++ [])), fun h => by cases h⟩
  · rw [hs, ht]
    exact trodAll_cons_mk (shut_bool hu _) trodAll_mk0
  · rw [hs]
    exact trodAll_below hl hb _ _ _ _ hr hA (fun x hx => hlt x (List.mem_append.2 (.inl hx)))
  · rw [hs, hv]
    rfl
  · right; left; simpa using hx
end Go.Proofs.YtglnehinmdmgmaaGreat

/-
  A law's arguments, opened: a slice reads as a list of elements; a struct by value.
-/
namespace Go.Proofs.YtglnehinmdmgmaaGreat
open Go.ChangeShapes Go.WideShapes Go.ChangeAt Go.RowKit Go.Deep
set_option linter.unusedVariables false
set_option linter.unusedSimpArgs false

theorem choose_list {α : Type} (Q : Nat → α → Prop) : ∀ n, (∀ i, i < n → ∃ x, Q i x) → ∃ l : List α, l.length = n ∧ ∀ (i : Nat) (hi : i < l.length), Q i l[i]
  | 0, _ => ⟨[], rfl, fun i hi => by simp at hi⟩
  | n + 1, h => by
    obtain ⟨l, hl, hq⟩ := choose_list Q n (fun i hi => h i (by omega))
    obtain ⟨x, hx⟩ := h n (by omega)
    refine ⟨l ++ [x], by simp [hl], fun i hi => ?_⟩
    by_cases e : i < l.length
    · rw [List.getElem_append_left e]; exact hq i e
    · obtain rfl : i = n := by simp at hi; omega
      rw [List.getElem_append_right (by omega)]
      simpa using hx

section
variable {H : Type} {enc : TypeId × Value → H} {P : Program} {w : World} {base : Nat} {spare : Nat → Bool} {held : Bool}
theorem open_list {α : Type} {r : Reach} {b0 : Nat} {t e : TypeId} {v : Value} {d : DataW H} {p : List MemPlace} (ht : P.underlying t = some (.slice e)) (C : Nat) (hC : P.cellsOf e = C) (hC0 : 0 < C)
    (en : α → List Value) (ok : α → Prop) (hel : ∀ (n : Nat) (cs : List Value) (y : DataW H × List MemPlace), DataW.trod enc P w base spare held n e cs = some y → ∃ x : α, cs = en x ∧ ok x)
    (hv : Value.okWide P w r b0 t v) (h : DataW.Trod enc P w base spare held t v d p) :
    ∃ (A : Option Addr) (l : List α) (c : Nat), v = .slice A l.length c ∧ l.length ≤ maxLen ∧ RdL w w.heap.size A C en l ∧ ∀ x ∈ l, ok x := by
  obtain ⟨a0, len, cap, rfl⟩ := okWide_slice ht hv
  obtain ⟨fuel, hf⟩ := h
  have hf' : DataW.trod enc P w base spare held fuel t [.slice a0 len cap] = some (d, p) := by simpa [Value.cells] using hf
  rcases open_slice ht hf' with ⟨h0, _⟩ | ⟨a, len', cap', m, n, D, Pl, hcs, _, hl, hm, hmm, _, hi⟩
  · simp only [List.cons.injEq, Value.slice.injEq, and_true] at h0
    obtain ⟨rfl, rfl, rfl⟩ := h0
    exact ⟨none, [], 0, rfl, by simp, .inl rfl, by simp⟩
  · simp only [List.cons.injEq, Value.slice.injEq, and_true] at hcs
    obtain ⟨rfl, rfl, rfl⟩ := hcs
    have hle : len ≤ m := by rw [hmm]; split <;> omega
    obtain ⟨l, hlen, hq⟩ := choose_list (fun i x => (∀ (j : Nat) (u : Value), (en x)[j]? = some u → w.cell? (a.add (i * C + j)) = some u) ∧ ok x) len (fun i hi' => by
      obtain ⟨cs', hc, ht'⟩ := hi i (by omega)
      obtain ⟨x, rfl, hok⟩ := hel _ _ _ ht'
      rw [hC] at hc
      obtain ⟨_, hcl, hat⟩ := World.cells?_some hc
      refine ⟨x, fun j u hu => ?_, hok⟩
      have hj : j < C := by rw [← hcl]; exact (List.getElem?_eq_some_iff.1 hu).1
      rw [← Go.Deep.add_add, hat j hj, hu])
    subst hlen
    refine ⟨some a, l, cap, rfl, by omega, ?_, fun x hx => ?_⟩
    · rcases Nat.eq_zero_or_pos l.length with h0 | hpos
      · exact .inl (List.eq_nil_of_length_eq_zero h0)
      · -- the address has no spot
        obtain ⟨cs', hc, ht'⟩ := hi 0 (by omega)
        obtain ⟨x, rfl, _⟩ := hel _ _ _ ht'
        rw [hC] at hc
        obtain ⟨_, hcl, hat⟩ := World.cells?_some hc
        have h00 := hat 0 hC0
        have hadd : (a.add (0 * C)).add 0 = a := by rw [Nat.zero_mul]; unfold Addr.add; simp
        rw [hadd, List.getElem?_eq_getElem (by omega)] at h00
        have hlt := World.block_lt_of_cell? _ _ h00
        obtain ⟨g, off, sp⟩ := a
        have hsp : sp = none := by
          unfold World.cell? at h00
          split at h00
          · cases sp with
            | none => rfl
            | some _ => simp at h00
          · cases h00
        subst hsp
        refine .inr ⟨g, off, rfl, hlt, fun i hi' j u hu => ?_⟩
        have := (hq i hi').1 j u hu
        have e : (⟨g, off, none⟩ : Addr).add (i * C + j) = ⟨g, off + (i * C + j), none⟩ := by unfold Addr.add; split <;> simp_all
        rw [e] at this
        exact this
    · obtain ⟨i, hi', rfl⟩ := List.getElem_of_mem hx
      exact (hq i hi').2
end
end Go.Proofs.YtglnehinmdmgmaaGreat

/-
  Contracts of the helper functions that the laws use for lists of Int.
-/
namespace Go.Proofs.YtglnehinmdmgmaaGreat
open Go.RowKit Go.ChangeShapes Go.WideShapes
set_option linter.unusedVariables false
set_option linter.unusedSimpArgs false
set_option maxRecDepth 100000


def encInt (x : Int) : List Value := [.int .i64 x]
theorem encInt_len (x : Int) : (encInt x).length = 1 := rfl
def Int_small (lim : Int) (x : Int) : Prop := True
theorem Int_info : (Tryz.prog.info? 3).map (fun i => (i.zero, i.size, i.bytes)) = some (some (.int .i64 0), 1, 8) := by kernel_rfl

/-- What the marks make of a list of so many elements. -/
def markIntL (m q : Nat) : List Int := (List.range m).map fun i : Nat => (((q + i : Nat) : Int) : Int)
end Go.Proofs.YtglnehinmdmgmaaGreat