import Derived.Test.YtglnehinmdmgmaaMBlowsInL07
import Derived.Test.YtglnehinmdmgmaaMBlowsInL06
import Derived.Deep.AppendLies
import Derived.Deep.RegionLaw
import Derived.Test.YtglnehinmdmgmaaMBlowsInL00
import Derived.Deep.QuietTactic
import Derived.BigQuiet
/-
  Contracts of the helper functions that the laws use for lists of lists of integers.
-/
namespace Go.Proofs.Ytglnehinmdmgmaa
open Go.RowKit Go.ChangeShapes Go.WideShapes
set_option linter.unusedVariables false
set_option linter.unusedSimpArgs false
set_option maxRecDepth 100000

/-- A list of integers in memory: what it holds, its address, its room. -/
structure Sl where
  x : List Int
  A : Option Addr
  c : Nat
def Sl.enc (s : Sl) : List Value := [.slice s.A s.x.length s.c]
theorem Sl_enc_len (s : Sl) : (Sl.enc s).length = 1 := rfl
theorem IntS_info : (Try.prog.info? 45).map (fun i => (i.zero, i.size, i.bytes)) = some (some (.slice none 0 0), 1, 24) := by kernel_rfl
/-- How many numbers there are. -/
def tot (l : List (List Int)) : Nat := (l.map List.length).sum
abbrev RdNS (w : World) (b : Nat) (A : Option Addr) (D : List Sl) : Prop := RdN w b A 1 Sl.enc Sl.A Sl.x 1 encInt D
abbrev OwnNS (w : World) (b c : Nat) (A : Option Addr) (D : List Sl) : Prop := OwnN w b c A 1 Sl.enc Sl.A Sl.x 1 encInt D
def RdS (w : World) (b : Nat) (A : Option Addr) (l : List (List Int)) : Prop := ∃ D : List Sl, D.map Sl.x = l ∧ RdNS w b A D
def OwnS (w : World) (b c : Nat) (A : Option Addr) (l : List (List Int)) : Prop := ∃ D : List Sl, D.map Sl.x = l ∧ OwnNS w b c A D
section
variable {w w' : World} {b b' c c' : Nat} {A : Option Addr} {l : List (List Int)}
theorem OwnS.nil : OwnS w b c A [] := ⟨[], rfl, OwnN.nil⟩
theorem OwnS.rd (h : OwnS w b c A l) (_ : True) : RdS w w.heap.size A l := by obtain ⟨D, hD, h⟩ := h; exact ⟨D, hD, h.rd Sl_enc_len encInt_len⟩
theorem OwnS.later (h : OwnS w b c A l) (hb : Below w.heap.size w w') : OwnS w' b c A l := by obtain ⟨D, hD, h⟩ := h; exact ⟨D, hD, h.later hb⟩
theorem OwnS.chg (h : OwnS w b c A l) (k : Chg b' c' w w') (hr : c ≤ b' ∨ c' ≤ b) : OwnS w' b c A l := by obtain ⟨D, hD, h⟩ := h; exact ⟨D, hD, h.chg k hr⟩
theorem OwnS.mono (h : OwnS w b c A l) (hb : b' ≤ b) (hc : c ≤ c') : OwnS w b' c' A l := by obtain ⟨D, hD, h⟩ := h; exact ⟨D, hD, h.mono hb hc⟩
end

/-- What the marks make of lists of such lengths. -/
def markIntSL : List Nat → Nat → List (List Int)
  | [], _ => []
  | n :: ns, q => markIntL n q :: markIntSL ns (q + n)
end Go.Proofs.Ytglnehinmdmgmaa

/-
  Words of our own that know no program: an append that tells which block it may have turned.
-/
namespace Go.Proofs.Ytglnehinmdmgmaa
open Go.RowKit
set_option linter.unusedVariables false
set_option linter.unusedSimpArgs false

section
variable {P : Program} {ops : Array Oper} {rest : List Oper} {o : Oper} {a : Act} {Q : Exit → Act → World → Prop} {w : World}
/-- 'l = append(l, x)', as wpList_push; the new slice's block is the old one's, or new. -/
theorem wpList_pushA {α : Type} (hgd : o.guard = none) (s x : Operand) (t : TypeId) (ho : o.op = .call { callee := .builtin .append, args := #[s, x], argTypes := #[t, t] })
    (base : Nat) (e : TypeId) (z : Value) (size bytes : Nat) (enc : α → List Value)
    (ht : P.underlying t = some (.slice e)) (hinfo : (P.info? e).map (fun i => (i.zero, i.size, i.bytes)) = some (some z, size, bytes)) (hzs : z.cells.size = size) (hsz : 0 < size)
    {news : List Value} {e' : TypeId} {g : Nat} (v : Value) (l ys : List α) (c : Nat) (hs : a.eval s = v) (hx : a.eval x = .slice (some ⟨g, 0, none⟩) ys.length c) (hg0 : g = w.heap.size)
    (hown : Grow w base e size enc v l) (hne : news = flat enc ys) (henc : ∀ x, (enc x).length = size) (h1 : ∀ u ∈ news, u.oneCell' = true)
    (hn : l.length + ys.length ≤ 1000000000) (hb : bytes ≤ 1000) (hbase : base ≤ w.heap.size)
    (h : ∀ v' w', Grow w' base e size enc v' (l ++ ys) → Below base w w' → w.grownBy w' v.ownBlock → (v'.ownBlock = v.ownBlock ∨ v'.ownBlock = some (w.heap.size + 1)) → wpList P ops Q rest (a.put o.dst v') w') :
    wpList P ops Q (o :: rest) a (w.alloc (.cells news.toArray e')) := by
  obtain ⟨i, hi, hzz⟩ := Option.map_eq_some_iff.1 hinfo
  simp only [Prod.mk.injEq] at hzz
  obtain ⟨hz, hs', hb'⟩ := hzz
  subst hne
  subst hg0
  have hmul : (l.length + ys.length) * bytes ≤ 1000000000 * 1000 := Nat.mul_le_mul hn hb
  refine wpList_append_own_at (P := P) _ hgd s x t ho base e i z size bytes ht hi hz hs' hb' hzs hsz v l.length (flat enc l) hs (hown.alloc _) ⟨w.heap.size, 0, none⟩ ys.length c (flat enc ys) hx (flat_len henc ys)
    (fun j u hu => by
      have e : (⟨w.heap.size, 0, none⟩ : Addr).add j = ⟨w.heap.size, j, none⟩ := by unfold Addr.add; split <;> simp_all
      rw [e, World.cell?_alloc_new]; simpa using hu) h1 (by unfold maxLen; omega) (by omega) (by simp; omega) ?_
  intro v' w' hown' hg _ hblk
  have hr : ∀ k, v.ownBlock = some k → base ≤ k := fun k hk => by
    rcases hown.2 with ⟨rfl, _⟩ | ⟨g, cap, cur, rfl, hbg, _⟩
    · simp [Value.ownBlock] at hk
    · simp [Value.ownBlock] at hk; omega
  refine h v' w' ?_ ?_ ?_ ?_
  · unfold Grow
    rw [List.length_append, flat_append]
    exact hown'
  · exact ((Below.refl base w).alloc hbase _).grown hg (by simp; omega) hr
  · exact ⟨hg.os, hg.tape, hg.output, Nat.le_trans (by simp) hg.size, fun k hk hne => (hg.block k (by simp; omega) hne).trans (Below.heap_alloc w _ k hk)⟩
  · simpa using hblk
end
section
variable {P : Program} {ops : Array Oper} {o : Oper} {a : Act} {w : World} {K : Act → World → Prop} {Q : Exit → Act → World → Prop} {E : Prop}
/-- 'l = append(l, x)' at a step of a region that draws its order. -/
theorem step_pushA {α : Type} (hgd : o.guard = none) (s x : Operand) (t : TypeId) (ho : o.op = .call { callee := .builtin .append, args := #[s, x], argTypes := #[t, t] })
    (base : Nat) (e : TypeId) (z : Value) (size bytes : Nat) (enc : α → List Value)
    (ht : P.underlying t = some (.slice e)) (hinfo : (P.info? e).map (fun i => (i.zero, i.size, i.bytes)) = some (some z, size, bytes)) (hzs : z.cells.size = size) (hsz : 0 < size)
    {news : List Value} {e' : TypeId} {g : Nat} (v : Value) (l ys : List α) (c : Nat) (hs : a.eval s = v) (hx : a.eval x = .slice (some ⟨g, 0, none⟩) ys.length c) (hg0 : g = w.heap.size)
    (hown : Grow w base e size enc v l) (hne : news = flat enc ys) (henc : ∀ x, (enc x).length = size) (h1 : ∀ u ∈ news, u.oneCell' = true) (hys : 0 < ys.length)
    (hn : l.length + ys.length ≤ 1000000000) (hb : bytes ≤ 1000) (hbase : base ≤ w.heap.size)
    (h : ∀ v' w', Grow w' base e size enc v' (l ++ ys) → Below base w w' → w.grownBy w' v.ownBlock → (v'.ownBlock = v.ownBlock ∨ v'.ownBlock = some (w.heap.size + 1)) → K (a.put o.dst v') w') :
    if Region.wanted o (yielded ops a.tmps) = true then Oper.wp P o a (w.alloc (.cells news.toArray e')) K Q else E := by
  obtain ⟨i, hi, hzz⟩ := Option.map_eq_some_iff.1 hinfo
  simp only [Prod.mk.injEq] at hzz
  obtain ⟨hz, hs', hb'⟩ := hzz
  subst hne
  subst hg0
  have hmul : (l.length + ys.length) * bytes ≤ 1000000000 * 1000 := Nat.mul_le_mul hn hb
  refine step_append_lies _ hgd s x t ho base e i z size bytes ht hi hz hs' hb' hzs hsz v l.length (flat enc l) hs (hown.alloc _) ⟨w.heap.size, 0, none⟩ ys.length c (flat enc ys) hx (flat_len henc ys)
    (fun j u hu => by
      have e : (⟨w.heap.size, 0, none⟩ : Addr).add j = ⟨w.heap.size, j, none⟩ := by unfold Addr.add; split <;> simp_all
      rw [e, World.cell?_alloc_new]; simpa using hu) h1 hys (by unfold maxLen; omega) (by omega) (by simp; omega) _ rfl ?_
  intro g cap w' hown' hg hblk _
  have hr : ∀ k, v.ownBlock = some k → base ≤ k := fun k hk => by
    rcases hown.2 with ⟨rfl, _⟩ | ⟨g, cap, cur, rfl, hbg, _⟩
    · simp [Value.ownBlock] at hk
    · simp [Value.ownBlock] at hk; omega
  refine h _ w' ?_ ?_ ?_ ?_
  · unfold Grow
    rw [List.length_append, flat_append]
    exact hown'
  · exact ((Below.refl base w).alloc hbase _).grown hg (by simp; omega) hr
  · exact ⟨hg.os, hg.tape, hg.output, Nat.le_trans (by simp) hg.size, fun k hk hne => (hg.block k (by simp; omega) hne).trans (Below.heap_alloc w _ k hk)⟩
  · rcases hblk with hb2 | hb2
    · left; rw [hb2]; rfl
    · right; rw [hb2]; simp [Value.ownBlock]
end
/-- What an append leaves as it was. -/
theorem OwnS.grown {w w' : World} {b c : Nat} {A : Option Addr} {l : List (List Int)} {o : Option Nat} (h : OwnS w b c A l) (hg : w.grownBy w' o) (ho : ∀ g, o = some g → g < b ∨ c ≤ g) : OwnS w' b c A l := by
  cases o with
  | none => exact h.later ⟨hg.os, hg.tape, hg.output, hg.size, fun k hk => hg.block k hk (by simp)⟩
  | some g =>
    refine h.chg (b' := g) (c' := g + 1) ⟨hg.os, hg.tape, hg.output, hg.size, fun k hk hr => hg.block k hk (fun e => by injection e with e; omega)⟩ ?_
    have := ho g rfl; omega
theorem Grow.block_lt {α : Type} {enc : α → List Value} {w : World} {base : Nat} {e : TypeId} {size : Nat} {v : Value} {l : List α} (h : Grow w base e size enc v l) : ∀ g, v.ownBlock = some g → g < w.heap.size := fun k hk => by
  rcases h.2 with ⟨rfl, _⟩ | ⟨g, cap, cur, rfl, hbg, hg, _⟩
  · simp [Value.ownBlock] at hk
  · simp [Value.ownBlock] at hk
    subst hk
    rcases Nat.lt_or_ge g w.heap.size with x | x
    · exact x
    · rw [Array.getElem?_eq_none x] at hg; cases hg
end Go.Proofs.Ytglnehinmdmgmaa

/-
  A region that draws its order, whose operations only read and whose callees only make new memory: one walk in the order of the text.
-/
namespace Go.Proofs.Ytglnehinmdmgmaa
open Go.RowKit
set_option linter.unusedVariables false
set_option linter.unusedSimpArgs false

/-- A world in which, below the heap's size of w, all is as in w. -/
structure Later (w : World) where
  W : World
  hb : Below w.heap.size w W
instance (w : World) : Inhabited (Later w) := ⟨⟨w, Below.refl _ _⟩⟩
theorem Later.call {P : Program} {f : FuncId} {args : Array Value} {w : World} {x : Later w} {v : Value} (h : Calls P f args x.W fun e w' => e = .returned v ∧ Below x.W.heap.size x.W w') :
    Calls P f args x.W fun e w'' => e = .returned v ∧ ∃ y : Later w, w'' = y.W :=
  h.mono fun _ w' ⟨he, hb⟩ => ⟨he, ⟨w', x.hb.trans (hb.mono x.hb.size)⟩, rfl⟩
theorem Later.same {P : Program} {f : FuncId} {args : Array Value} {w : World} {x : Later w} {v : Value} (h : Calls P f args x.W fun e w' => e = .returned v ∧ x.W = w') :
    Calls P f args x.W fun e w'' => e = .returned v ∧ ∃ y : Later w, w'' = y.W :=
  h.mono fun _ w' ⟨he, hb⟩ => ⟨he, x, hb.symm⟩
theorem calls_bool {P : Program} {f : FuncId} {args : Array Value} {w : World} {b b' : Bool} {R : World → Prop} (h : Calls P f args w fun e w' => e = .returned (.bool b) ∧ R w') (e : b = b') : Calls P f args w fun e w' => e = .returned (.bool b') ∧ R w' := by
  subst e; exact h
theorem Later.drew {P : Program} {f : FuncId} {args : Array Value} {w : World} {x : Later w} {v : Value} (h : Calls P f args x.W fun e w' => e = .returned v ∧ ∃ n, w' = x.W.drewN n) :
    Calls P f args x.W fun e w'' => e = .returned v ∧ ∃ y : Later w, w'' = y.W :=
  h.mono fun _ w' ⟨he, n, hb⟩ => ⟨he, ⟨w', by rw [hb]; exact below_drewN x.hb n⟩, rfl⟩
end Go.Proofs.Ytglnehinmdmgmaa

/-
  Words of our own that know no program: a whole list appended; an own list of integers written.
-/
namespace Go.Proofs.Ytglnehinmdmgmaa
open Go.RowKit
set_option linter.unusedVariables false
set_option linter.unusedSimpArgs false

section
variable {P : Program} {ops : Array Oper} {rest : List Oper} {o : Oper} {a : Act} {Q : Exit → Act → World → Prop} {w : World}
end
theorem Grow.capN {α : Type} {w : World} {base : Nat} {e : TypeId} {size : Nat} {enc : α → List Value} {l : List α} {A : Option Addr} {n c : Nat} (h : Grow w base e size enc (.slice A n c) l) : n ≤ c := by
  rcases h.2 with ⟨h1, h2⟩ | ⟨g, cap, cur, h1, h2, h3, h4, h5, _⟩
  · injection h1 with _ e1 e2; omega
  · injection h1 with _ e1 e2; omega
section
variable {w : World} {b c g : Nat} {l : List Int}
end
end Go.Proofs.Ytglnehinmdmgmaa
