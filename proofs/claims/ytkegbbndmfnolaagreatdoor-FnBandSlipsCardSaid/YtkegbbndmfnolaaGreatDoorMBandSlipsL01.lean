import Derived.Test.YtkegbbndmfnolaaGreatDoorMBandSlipsL00
import Derived.Laws.AppendOwn
import Derived.Maps.AppendAt
import Derived.Test.YtkegbbndmfnolaaGreatDoorRows
import Derived.ProofKit
import Derived.OpenShut
import Derived.ShutString
import Derived.Below
import Derived.Carry
import Derived.Deep.Slices
import Derived.Deep.Fields
import Derived.StillTailTactics
import Derived.Deep.RegionHeld3
/-
  Words of our own that know no program: a list that the call itself makes, one append after the other.
-/
namespace Go.Proofs.YtkegbbndmfnolaaGreatDoor
open Go.RowKit
set_option linter.unusedVariables false
set_option linter.unusedSimpArgs false

/-- The cells of a list, one element after the other. -/
def flat {α : Type} (enc : α → List Value) : List α → List Value
  | [] => []
  | x :: l => enc x ++ flat enc l
section
variable {α : Type} {enc : α → List Value} {size : Nat}
theorem flat_append (l m : List α) : flat enc (l ++ m) = flat enc l ++ flat enc m := by
  induction l with
  | nil => rfl
  | cons x l ih => simp [flat, ih]
theorem flat_len (henc : ∀ x, (enc x).length = size) (l : List α) : (flat enc l).length = l.length * size := by
  induction l with
  | nil => simp [flat]
  | cons x l ih => simp [flat, ih, henc, Nat.succ_mul]; omega
theorem flat_at (henc : ∀ x, (enc x).length = size) : ∀ (l : List α) (i : Nat) (hi : i < l.length) (j : Nat) (u : Value), (enc l[i])[j]? = some u → (flat enc l)[i * size + j]? = some u
  | x :: l, 0, hi, j, u, hu => by
    have hj : j < (enc x).length := (List.getElem?_eq_some_iff.1 hu).1
    simp only [flat]
    rw [Nat.zero_mul, Nat.zero_add, List.getElem?_append_left hj]
    exact hu
  | x :: l, i + 1, hi, j, u, hu => by
    simp only [flat]
    rw [List.getElem?_append_right (by rw [henc, Nat.succ_mul]; omega), henc]
    have := flat_at henc l i (by simpa using hi) j u (by simpa using hu)
    rw [show (i + 1) * size + j - size = i * size + j by rw [Nat.succ_mul]; omega]
    exact this
end

/-- The value v is a slice of the call's own (nil, or at the head of a block from base on) that holds the list. -/
def Grow {α : Type} (w : World) (base : Nat) (e : TypeId) (size : Nat) (enc : α → List Value) (v : Value) (l : List α) : Prop :=
  w.ownsRow base e size v l.length (flat enc l)

section
variable {α : Type} {w w' : World} {base : Nat} {e : TypeId} {size : Nat} {enc : α → List Value} {v : Value} {l : List α}
theorem Grow.nil : Grow w base e size enc (.slice none 0 0) ([] : List α) := ⟨by simp [flat], .inl ⟨rfl, rfl⟩⟩
/-- '[]T{}': a new block without cells. -/
theorem Grow.empty {b : Nat} (hb : b ≤ w.heap.size) : Grow (w.alloc (.cells #[] e)) b e size enc (.slice (some ⟨w.heap.size, 0, none⟩) 0 0) ([] : List α) :=
  ⟨by simp [flat], .inr ⟨w.heap.size, 0, #[], rfl, hb, heap_alloc_new w _, Nat.le_refl _, by simp [maxLen], by simp, by simp [flat]⟩⟩
theorem Grow.later (h : Grow w base e size enc v l) (hb : Below w.heap.size w w') : Grow w' base e size enc v l := by
  refine ⟨h.1, ?_⟩
  rcases h.2 with ⟨h1, h2⟩ | ⟨g, cap, cur, h1, h2, h3, h4⟩
  · exact .inl ⟨h1, h2⟩
  · refine .inr ⟨g, cap, cur, h1, h2, ?_, h4⟩
    have hlt : g < w.heap.size := by
      rcases Nat.lt_or_ge g w.heap.size with x | x
      · exact x
      · rw [Array.getElem?_eq_none x] at h3; cases h3
    exact (hb.block g hlt).trans h3
/-- A store below the base. -/
theorem Grow.set (h : Grow w base e size enc v l) {p : Addr} (hp : p.block < base) (u : Value) : Grow (w.setCell p u) base e size enc v l := by
  refine ⟨h.1, ?_⟩
  rcases h.2 with ⟨h1, h2⟩ | ⟨g, cap, cur, h1, h2, h3, h4⟩
  · exact .inl ⟨h1, h2⟩
  · exact .inr ⟨g, cap, cur, h1, h2, (Below.heap_setCell w p u g (by omega)).trans h3, h4⟩
theorem Grow.drewN (h : Grow w base e size enc v l) (n : Nat) : Grow (w.drewN n) base e size enc v l := h
theorem Grow.alloc (h : Grow w base e size enc v l) (o : Obj) : Grow (w.alloc o) base e size enc v l := h.later ((Below.refl _ _).alloc (Nat.le_refl _) o)
/-- What it is good for: a slice of the call's own. -/
theorem Grow.own (h : Grow w base e size enc v l) (henc : ∀ x, (enc x).length = size) : ∃ A c, v = .slice A l.length c ∧ OwnL w base w.heap.size A size enc l := by
  rcases h.2 with ⟨h1, h2⟩ | ⟨g, cap, cur, h1, h2, h3, h4, h5, h6, h7⟩
  · have : l = [] := List.eq_nil_of_length_eq_zero h2
    subst this
    exact ⟨none, 0, h1, .inl rfl⟩
  · refine ⟨_, cap, h1, .inr ⟨g, fun i => (flat enc l).getD i undef, rfl, h2, ?_, ?_, ?_⟩⟩
    · rcases Nat.lt_or_ge g w.heap.size with x | x
      · exact x
      · rw [Array.getElem?_eq_none x] at h3; cases h3
    · refine ⟨?_, fun i hi => ⟨?_, ?_⟩⟩
      · rcases Nat.lt_or_ge g w.heap.size with x | x
        · exact x
        · rw [Array.getElem?_eq_none x] at h3; cases h3
      · rw [cell_of_row w g i cur e (0, 0) h3]
        have hl := flat_len henc l
        have : (flat enc l)[i]? = cur[i]? := by
          rw [← h7, List.getElem?_take_of_lt (by omega)]
          simp
        rw [← this]
        show _ = some ((flat enc l).getD i undef)
        rw [List.getD_eq_getElem?_getD, List.getElem?_eq_getElem (by omega)]
        rfl
      · simp [World.frozen?, h3]
    · intro i hi j u hu
      show (flat enc l).getD (i * size + j) undef = u
      rw [List.getD_eq_getElem?_getD, flat_at henc l i hi j u hu]
      rfl
end

section
variable {P : Program} {ops : Array Oper} {rest : List Oper} {o : Oper} {a : Act} {Q : Exit → Act → World → Prop} {w : World}
/-- 'l = append(l, x)': its elements were just built in a block of their own. -/
theorem wpList_push {α : Type} (hgd : o.guard = none) (s x : Operand) (t : TypeId) (ho : o.op = .call { callee := .builtin .append, args := #[s, x], argTypes := #[t, t] })
    (base : Nat) (e : TypeId) (z : Value) (size bytes : Nat) (enc : α → List Value)
    (ht : P.underlying t = some (.slice e)) (hinfo : (P.info? e).map (fun i => (i.zero, i.size, i.bytes)) = some (some z, size, bytes)) (hzs : z.cells.size = size) (hsz : 0 < size)
    {news : List Value} {e' : TypeId} {g : Nat} (v : Value) (l ys : List α) (c : Nat) (hs : a.eval s = v) (hx : a.eval x = .slice (some ⟨g, 0, none⟩) ys.length c) (hg0 : g = w.heap.size)
    (hown : Grow w base e size enc v l) (hne : news = flat enc ys) (henc : ∀ x, (enc x).length = size) (h1 : ∀ u ∈ news, u.oneCell' = true)
    (hn : l.length + ys.length ≤ 1000000000) (hb : bytes ≤ 1000) (hbase : base ≤ w.heap.size)
    (h : ∀ v' w', Grow w' base e size enc v' (l ++ ys) → Below base w w' → w.grownBy w' v.ownBlock → wpList P ops Q rest (a.put o.dst v') w') :
    wpList P ops Q (o :: rest) a (w.alloc (.cells news.toArray e')) := by
  obtain ⟨i, hi, hzz⟩ := Option.map_eq_some_iff.1 hinfo
  simp only [Prod.mk.injEq] at hzz
  obtain ⟨hz, hs', hb'⟩ := hzz
  subst hne
  subst hg0
  have hmul : (l.length + ys.length) * bytes ≤ 1000000000 * 1000 := Nat.mul_le_mul hn hb
  refine wpList_append_own (P := P) _ hgd s x t ho base e i z size bytes ht hi hz hs' hb' hzs hsz v l.length (flat enc l) hs (hown.alloc _) ⟨w.heap.size, 0, none⟩ ys.length c (flat enc ys) hx (flat_len henc ys)
    (fun j u hu => by
      have e : (⟨w.heap.size, 0, none⟩ : Addr).add j = ⟨w.heap.size, j, none⟩ := by unfold Addr.add; split <;> simp_all
      rw [e, World.cell?_alloc_new]; simpa using hu) h1 (by unfold maxLen; omega) (by omega) (by simp; omega) ?_
  intro v' w' hown' hg _
  have hr : ∀ k, v.ownBlock = some k → base ≤ k := fun k hk => by
    rcases hown.2 with ⟨rfl, _⟩ | ⟨g, cap, cur, rfl, hbg, _⟩
    · simp [Value.ownBlock] at hk
    · simp [Value.ownBlock] at hk; omega
  refine h v' w' ?_ ?_ ?_
  · unfold Grow
    rw [List.length_append, flat_append]
    exact hown'
  · exact ((Below.refl base w).alloc hbase _).grown hg (by simp; omega) hr
  · exact ⟨hg.os, hg.tape, hg.output, Nat.le_trans (by simp) hg.size, fun k hk hne => (hg.block k (by simp; omega) hne).trans (Below.heap_alloc w _ k hk)⟩
end
end Go.Proofs.YtkegbbndmfnolaaGreatDoor

/-
  Contract of markText: the mark of a number.
-/
namespace Go.Proofs.YtkegbbndmfnolaaGreatDoor
open Go.RowKit
set_option linter.unusedVariables false
set_option linter.unusedSimpArgs false
set_option maxRecDepth 100000

/-- What a law's size function tells: too large, or what is left. -/
def SzOk (r left : Int) (n : Nat) (sm : Prop) : Prop := r < 0 ∨ (0 ≤ r ∧ r ≤ left ∧ (n : Int) ≤ left ∧ sm)
/-- The decimal digits of a number, none for 0. -/
def digN : Nat → Nat → List Int
  | 0, _ => []
  | f + 1, k => if k = 0 then [] else digN f (k / 10) ++ [48 + ((k % 10 : Nat) : Int)]
def digs (k : Nat) : List Int := digN k k
theorem mkS_app (l m : List Int) : mkS l ++ mkS m = mkS (l ++ m) := by
  apply ByteArray.ext
  simp [mkS, ByteArray.data_append]
/-- The mark of a number from 1 on. -/
def markT (k : Nat) : ByteArray := mkS ([109] ++ digs k)

end Go.Proofs.YtkegbbndmfnolaaGreatDoor

/-
  A law's last step, once for all: a call that answers true and leaves every block that was there as it was meets the row's post.
-/
namespace Go.Proofs.YtkegbbndmfnolaaGreatDoor
open Go.ChangeShapes Go.WideShapes Go.ChangeAt Go.RowKit

theorem trodAll_below {H : Type} {enc : TypeId × Value → H} {P : Program} (hl : laidOutB P = true) {W W' : World} (hb : Below W.heap.size W W') :
    ∀ (ts : List TypeId) (vs : List Value) (ds : List (DataW H)) (ps : List MemPlace), ts.all (fun t => P.readableRec t && decide (t < P.types.size)) = true →
      DataW.TrodAll enc P W 0 (fun _ => true) true ts vs ds ps → (∀ x ∈ ps, x.block < W.heap.size) →
      DataW.TrodAll enc P W' 0 (fun b => decide (b < W.heap.size)) true ts vs ds ps := by
  intro ts
  induction ts with
  | nil =>
    intro vs ds ps _ h _
    obtain ⟨rfl, rfl, rfl⟩ := trodAll_nil h
    exact trodAll_mk0
  | cons t ts ih =>
    intro vs ds ps hr h hlt
    obtain ⟨v, vs', d, ds', p, q, rfl, rfl, rfl, h0, h1⟩ := trodAll_cons h
    rw [List.all_cons, Bool.and_eq_true, Bool.and_eq_true, decide_eq_true_eq] at hr
    exact trodAll_cons_mk (Below.trod hl hr.1.1 hr.1.2 h0 hb (fun x hx => hlt x (List.mem_append.2 (.inl hx)))) (ih _ _ _ hr.2 h1 (fun x hx => hlt x (List.mem_append.2 (.inr hx))))

theorem law_post {H : Type} {enc : TypeId × Value → H} {P : Program} {f : Func} {s : ChangeSpec} {apart : Bool} {W W' : World} {args : Array Value} {ds : List (DataW H)} {before : List MemPlace} {tb : TypeId}
    (hl : laidOutB P = true) (hr : f.params.toList.all (fun t => P.readableRec t && decide (t < P.types.size)) = true)
    (ht : f.resultTypes = #[tb]) (hu : P.underlying tb = some .bool) (hv : s.vars = []) (hs : s.fn H (ds ++ []) = { results := [.lit (.bool true)], args := ds })
    (hW : DataW.Whole enc P f.params.toList s.vars apart W args.toList ds [] before) (hb : Below W.heap.size W W') :
    s.post enc P f apart true false false W args (.bool true) W' := by
  have hlt : ∀ p ∈ before, p.block < W.heap.size := fun p hp => by simpa using hW.lt p hp
  have hW' := hW
  obtain ⟨p, q, hA, hV, rfl, _, _⟩ := hW
  rw [hv] at hV
  obtain ⟨_, rfl⟩ := trodVars_none hV
  refine ⟨ds, [], p ++ [], [], p, [], hW', ?_, ?_, ?_, World.keptBut_mono (fun x hx => ⟨hx, ?_⟩) (hb.frame (· ∈ p ++ [])), fun h => by cases h⟩
  · rw [hs, ht]
    exact trodAll_cons_mk (shut_bool hu _) trodAll_mk0
  · rw [hs]
    exact trodAll_below hl hb _ _ _ _ hr hA (fun x hx => hlt x (List.mem_append.2 (.inl hx)))
  · rw [hs, hv]
    rfl
  · right; left; simpa using hx
end Go.Proofs.YtkegbbndmfnolaaGreatDoor

/-
  A law's arguments, opened: a slice reads as a list of elements; a struct by value.
-/
namespace Go.Proofs.YtkegbbndmfnolaaGreatDoor
open Go.ChangeShapes Go.WideShapes Go.ChangeAt Go.RowKit Go.Deep
set_option linter.unusedVariables false
set_option linter.unusedSimpArgs false

theorem choose_list {α : Type} (Q : Nat → α → Prop) : ∀ n, (∀ i, i < n → ∃ x, Q i x) → ∃ l : List α, l.length = n ∧ ∀ (i : Nat) (hi : i < l.length), Q i l[i]
  | 0, _ => ⟨[], rfl, fun i hi => by simp at hi⟩
  | n + 1, h => by
    obtain ⟨l, hl, hq⟩ := choose_list Q n (fun i hi => h i (by omega))
    obtain ⟨x, hx⟩ := h n (by omega)
    refine ⟨l ++ [x], by simp [hl], fun i hi => ?_⟩
    by_cases e : i < l.length
    · rw [List.getElem_append_left e]; exact hq i e
    · obtain rfl : i = n := by simp at hi; omega
      rw [List.getElem_append_right (by omega)]
      simpa using hx

section
variable {H : Type} {enc : TypeId × Value → H} {P : Program} {w : World} {base : Nat} {spare : Nat → Bool} {held : Bool}
theorem open_list {α : Type} {r : Reach} {b0 : Nat} {t e : TypeId} {v : Value} {d : DataW H} {p : List MemPlace} (ht : P.underlying t = some (.slice e)) (C : Nat) (hC : P.cellsOf e = C) (hC0 : 0 < C)
    (en : α → List Value) (ok : α → Prop) (hel : ∀ (n : Nat) (cs : List Value) (y : DataW H × List MemPlace), DataW.trod enc P w base spare held n e cs = some y → ∃ x : α, cs = en x ∧ ok x)
    (hv : Value.okWide P w r b0 t v) (h : DataW.Trod enc P w base spare held t v d p) :
    ∃ (A : Option Addr) (l : List α) (c : Nat), v = .slice A l.length c ∧ l.length ≤ maxLen ∧ RdL w w.heap.size A C en l ∧ ∀ x ∈ l, ok x := by
  obtain ⟨a0, len, cap, rfl⟩ := okWide_slice ht hv
  obtain ⟨fuel, hf⟩ := h
  have hf' : DataW.trod enc P w base spare held fuel t [.slice a0 len cap] = some (d, p) := by simpa [Value.cells] using hf
  rcases open_slice ht hf' with ⟨h0, _⟩ | ⟨a, len', cap', m, n, D, Pl, hcs, _, hl, hm, hmm, _, hi⟩
  · simp only [List.cons.injEq, Value.slice.injEq, and_true] at h0
    obtain ⟨rfl, rfl, rfl⟩ := h0
    exact ⟨none, [], 0, rfl, by simp, .inl rfl, by simp⟩
  · simp only [List.cons.injEq, Value.slice.injEq, and_true] at hcs
    obtain ⟨rfl, rfl, rfl⟩ := hcs
    have hle : len ≤ m := by rw [hmm]; split <;> omega
    obtain ⟨l, hlen, hq⟩ := choose_list (fun i x => (∀ (j : Nat) (u : Value), (en x)[j]? = some u → w.cell? (a.add (i * C + j)) = some u) ∧ ok x) len (fun i hi' => by
      obtain ⟨cs', hc, ht'⟩ := hi i (by omega)
      obtain ⟨x, rfl, hok⟩ := hel _ _ _ ht'
      rw [hC] at hc
      obtain ⟨_, hcl, hat⟩ := World.cells?_some hc
      refine ⟨x, fun j u hu => ?_, hok⟩
      have hj : j < C := by rw [← hcl]; exact (List.getElem?_eq_some_iff.1 hu).1
      rw [← Go.Deep.add_add, hat j hj, hu])
    subst hlen
    refine ⟨some a, l, cap, rfl, by omega, ?_, fun x hx => ?_⟩
    · rcases Nat.eq_zero_or_pos l.length with h0 | hpos
      · exact .inl (List.eq_nil_of_length_eq_zero h0)
      · -- the address has no spot
        obtain ⟨cs', hc, ht'⟩ := hi 0 (by omega)
        obtain ⟨x, rfl, _⟩ := hel _ _ _ ht'
        rw [hC] at hc
        obtain ⟨_, hcl, hat⟩ := World.cells?_some hc
        have h00 := hat 0 hC0
        have hadd : (a.add (0 * C)).add 0 = a := by rw [Nat.zero_mul]; unfold Addr.add; simp
        rw [hadd, List.getElem?_eq_getElem (by omega)] at h00
        have hlt := World.block_lt_of_cell? _ _ h00
        obtain ⟨g, off, sp⟩ := a
        have hsp : sp = none := by
          unfold World.cell? at h00
          split at h00
          · cases sp with
            | none => rfl
            | some _ => simp at h00
          · cases h00
        subst hsp
        refine .inr ⟨g, off, rfl, hlt, fun i hi' j u hu => ?_⟩
        have := (hq i hi').1 j u hu
        have e : (⟨g, off, none⟩ : Addr).add (i * C + j) = ⟨g, off + (i * C + j), none⟩ := by unfold Addr.add; split <;> simp_all
        rw [e] at this
        exact this
    · obtain ⟨i, hi', rfl⟩ := List.getElem_of_mem hx
      exact (hq i hi').2
end
end Go.Proofs.YtkegbbndmfnolaaGreatDoor

/-
  Contracts of the helper functions that the laws use for lists of Int.
-/
namespace Go.Proofs.YtkegbbndmfnolaaGreatDoor
open Go.RowKit Go.ChangeShapes Go.WideShapes
set_option linter.unusedVariables false
set_option linter.unusedSimpArgs false
set_option maxRecDepth 100000


def encInt (x : Int) : List Value := [.int .i64 x]
theorem encInt_len (x : Int) : (encInt x).length = 1 := rfl
def Int_small (lim : Int) (x : Int) : Prop := True
theorem Int_info : (Tryz.prog.info? 3).map (fun i => (i.zero, i.size, i.bytes)) = some (some (.int .i64 0), 1, 8) := by kernel_rfl

/-- What the marks make of a list of so many elements. -/
def markIntL (m q : Nat) : List Int := (List.range m).map fun i : Nat => (((q + i : Nat) : Int) : Int)
end Go.Proofs.YtkegbbndmfnolaaGreatDoor
/-
  Contracts: valid changes (both sides).
-/
namespace Go.Proofs.YtkegbbndmfnolaaGreatDoor
open Go.RowKit
set_option linter.unusedVariables false
set_option linter.unusedSimpArgs false
set_option maxRecDepth 100000

def dash : ByteArray := ⟨#[45]⟩
/-- The place that byte i tells; the one ahead of it (none: 0). -/
def dg (c : ByteArray) (i : Nat) : Int := bat c i - 48
def dgP (c : ByteArray) : Nat → Int
  | 0 => 0
  | i + 1 => dg c i
def stepP (n : Int) (c : ByteArray) (i : Nat) : Prop := dgP c i < dg c i ∧ dg c i ≤ n ∧ (dg c i - dgP c i) % 2 ≠ 0
def chainP (n : Int) (c : ByteArray) : Prop := (∀ i, i < c.size → stepP n c i) ∧ (n - dgP c c.size) % 2 = 0
def changeP (n : Int) (c : ByteArray) : Prop := inB n 3 8 ∧ ((c = dash ∧ n % 2 = 0) ∨ (c ≠ dash ∧ 0 < c.size ∧ (c.size : Int) ≤ n - 2 ∧ chainP n c))
theorem dash_size : dash.size = 1 := rfl
theorem size_zero {c : ByteArray} (h : c.size = 0) : c = ⟨#[]⟩ := by
  apply ByteArray.ext
  exact Array.eq_empty_of_size_eq_zero h
theorem toList_len (c : ByteArray) : c.toList.length = c.size := by rw [ByteArray.toList_eq]; simp
theorem toList_ne {c : ByteArray} (h : 0 < c.size) : ¬ c.toList = [] := fun e => by have := toList_len c; rw [e] at this; simp at this; omega
theorem toList_isEmpty {c : ByteArray} (h : 0 < c.size) : c.toList.isEmpty = false := by
  have := toList_ne h
  cases hc : c.toList with
  | nil => exact absurd hc this
  | cons _ _ => rfl
theorem toList_dash {c : ByteArray} (h : ¬ c = dash) : (c.toList == [45]) = false := by
  rw [beq_eq_false_iff_ne]
  intro e
  apply h
  apply toList_inj.1
  rw [e, ByteArray.toList_eq]; rfl
theorem steps_bound {n : Int} {c : ByteArray} : ∀ k, (∀ j, j < k → stepP n c j) → 0 ≤ dgP c k ∧ (0 < k → dgP c k ≤ n)
  | 0, _ => by simp [dgP]
  | k + 1, h => by
    have ih := steps_bound k (fun j hj => h j (by omega))
    obtain ⟨h1, h2, _⟩ := h k (by omega)
    simp only [dgP]
    omega
set_option maxHeartbeats 1600000 in
theorem l2Change_any (n : Int) (c : ByteArray) (w : World) (hc : c.size ≤ 1048576) :
    Calls Tryz.prog 114 #[.int .i64 n, .string c] w fun e w' => e = .returned (.bool (B (changeP n c))) ∧ w = w' := by
  by_cases h1 : inB n 3 8
  · have e1 := B_t h1
    obtain ⟨h11, h12⟩ := h1
    by_cases hz : c.size = 0
    · obtain rfl := size_zero hz
      clear hz
      go_enter Tryz.func114, Tryz.ntmps114
      go_wp2_with (go_at_call 99; refine (l1In_any _ _ _ _).mono ?_; rintro e w' ⟨rfl, rfl⟩)
      go_ret
      exact ⟨ret_f (fun h => by
        rcases h.2 with ⟨h2, _⟩ | ⟨_, h2, _⟩
        · exact absurd (congrArg ByteArray.size h2) (by decide)
        · exact absurd h2 (by decide)), rfl⟩
    · have hpos : 0 < c.size := by omega
      have hE1 := toList_ne hpos
      have hE2 := toList_isEmpty hpos
      by_cases hl : n - 2 < (c.size : Int)
      · go_enter Tryz.func114, Tryz.ntmps114
        go_wp2_with (go_at_call 99; refine (l1In_any _ _ _ _).mono ?_; rintro e w' ⟨rfl, rfl⟩)
        go_ret
        exact ⟨ret_f (fun h => by
          rcases h.2 with ⟨h2, _⟩ | ⟨_, _, h2, _⟩
          · rw [h2, dash_size] at hl; omega
          · omega), rfl⟩
      · by_cases hd : c = dash
        · have hd2 : (c.toList == [45]) = true := by rw [hd, ByteArray.toList_eq]; rfl
          have Hd := Lib.hid hd
          clear hd
          by_cases hn : n % 2 = 0
          all_goals
            go_enter Tryz.func114, Tryz.ntmps114
            go_wp2_with (go_at_call 99; refine (l1In_any _ _ _ _).mono ?_; rintro e w' ⟨rfl, rfl⟩)
            go_ret
            first
              | exact ⟨by rw [B_t (show changeP n c from ⟨⟨h11, h12⟩, .inl ⟨Hd.out, hn⟩⟩)]; simp [hn], rfl⟩
              | exact ⟨by rw [B_f (show ¬ changeP n c from fun h => by
                  rcases h.2 with ⟨_, h2⟩ | ⟨h2, _⟩
                  · exact hn h2
                  · exact h2 Hd.out)]; simp [hn], rfl⟩
        · have hd2 := toList_dash hd
          have Hd := Lib.hid hd
          have hch : Hid (changeP n c ↔ chainP n c) := Lib.hid ⟨fun h => by
            rcases h.2 with ⟨h2, _⟩ | ⟨_, _, _, h2⟩
            · exact absurd h2 hd
            · exact h2, fun h => ⟨⟨h11, h12⟩, .inr ⟨hd, hpos, by omega, h⟩⟩⟩
          clear hd
          go_enter Tryz.func114, Tryz.ntmps114
          go_wp2_with (go_at_call 99; refine (l1In_any _ _ _ _).mono ?_; rintro e w' ⟨rfl, rfl⟩)
          go_loop [5, 6] (fun v i => ∃ k : Nat, k ≤ c.size ∧ i = .int .i64 k ∧ v = .int .i64 (dgP c k) ∧ (∀ j, j < k → stepP n c j)) (fun _ i => c.size - (intOf i).toNat)
          case atStart => exact ⟨0, by omega, by rfl, by rfl, fun j hj => by omega⟩
          case round =>
            obtain ⟨k, hk, rfl, rfl, hq⟩ := hrel
            obtain ⟨b0, b1⟩ := steps_bound k hq
            have Hq := Lib.hid hq
            clear hq
            obtain ⟨P, hP⟩ : ∃ P, Hid (dgP c k = P) := ⟨_, Lib.hid rfl⟩
            rw [hP.out] at b0 b1 ⊢
            have b2 : P ≤ 8 := by
              rcases Nat.eq_zero_or_pos k with h0 | h0
              · rw [← hP.out, h0]; simp [dgP]
              · have := b1 h0; omega
            have B1 := Lib.hid b1
            clear b1
            by_cases hlt : k < c.size
            · have hb0 := bat_lo c k
              have hb1 := bat_hi c k
              have hst : Hid (stepP n c k ↔ P < bat c k - 48 ∧ bat c k - 48 ≤ n ∧ (bat c k - 48 - P) % 2 ≠ 0) := Lib.hid (by unfold stepP dg; rw [hP.out])
              by_cases c1 : inB (bat c k - 48) (P + 1) n
              · have f1 := B_t c1
                obtain ⟨c11, c12⟩ := c1
                by_cases c2 : (bat c k - 48 - P) % 2 = 0
                · have hno : Hid (¬ stepP n c k) := Lib.hid (fun h => (hst.out.1 h).2.2 c2)
                  go_wp2_with (go_at_call 99; refine (l1In_any _ _ _ _).mono ?_; rintro e w' ⟨rfl, rfl⟩)
                  go_ret
                  exact ⟨ret_f (fun h => hno.out ((hch.out.1 h).1 k hlt)), rfl⟩
                · have hye : Hid (stepP n c k) := Lib.hid (hst.out.2 ⟨by omega, c12, c2⟩)
                  go_wp2_with (go_at_call 99; refine (l1In_any _ _ _ _).mono ?_; rintro e w' ⟨rfl, rfl⟩)
                  go_round
                  case rel =>
                    refine ⟨k + 1, by omega, by go_num, by simp only [dgP, dg], fun j hj => ?_⟩
                    rcases Nat.lt_or_eq_of_le (Nat.le_of_lt_succ hj) with h' | rfl
                    · exact Hq.out j h'
                    · exact hye.out
                  case measure => simp [intOf]; omega
              · have f1 := B_f c1
                have C1 := Lib.hid c1
                clear c1
                go_wp2_with (go_at_call 99; refine (l1In_any _ _ _ _).mono ?_; rintro e w' ⟨rfl, rfl⟩)
                go_ret
                exact ⟨ret_f (fun h => C1.out (by have := hst.out.1 ((hch.out.1 h).1 k hlt); exact ⟨by omega, this.2.1⟩)), rfl⟩
            · obtain rfl : k = c.size := by omega
              have b3 : P ≤ n := B1.out hpos
              by_cases hn : (n - P) % 2 = 0
              all_goals
                go_wp2
                go_ret
                first
                  | exact ⟨by rw [B_t (hch.out.2 ⟨Hq.out, by rw [hP.out]; exact hn⟩)]; simp [hn], rfl⟩
                  | exact ⟨by rw [B_f (fun h => hn (by have := (hch.out.1 h).2; rw [hP.out] at this; exact this))]; simp [hn], rfl⟩
  · have e1 := B_f h1
    have H1 := Lib.hid h1
    clear h1
    go_enter Tryz.func114, Tryz.ntmps114
    go_wp2_with (go_at_call 99; refine (l1In_any _ _ _ _).mono ?_; rintro e w' ⟨rfl, rfl⟩)
    go_ret
    exact ⟨ret_f (fun h => H1.out h.1), rfl⟩
/-- The places that a text tells. -/
def dgL (c : ByteArray) : List Int := (List.range c.size).map (dg c)
def digsP (c : ByteArray) : Prop := ∀ i : Nat, i < c.size → 49 ≤ bat c i ∧ bat c i ≤ 56
def dgTo (c : ByteArray) (k : Nat) : List Int := (List.range k).map (dg c)
theorem dgTo_succ (c : ByteArray) (k : Nat) : dgTo c (k + 1) = dgTo c k ++ [bat c k - 48] := by unfold dgTo; rw [List.range_succ, List.map_append]; rfl
theorem dgTo_len (c : ByteArray) (k : Nat) : (dgTo c k).length = k := by simp [dgTo]

set_option maxHeartbeats 1600000 in
theorem places_t (c : ByteArray) (w : World) (hc : c.size ≤ 1048576) (hp : digsP c) :
    Calls Tryz.prog 158 #[.string c] w fun e w' => ∃ A c2, e = .returned (.tuple #[.slice A (dgL c).length c2, .bool true]) ∧ OwnL w' w.heap.size w'.heap.size A 1 encInt (dgL c) ∧ Below w.heap.size w w' := by
  have HP := Lib.hid hp
  clear hp
  have hcs := hc
  go_enter Tryz.func158, Tryz.ntmps158
  go_wp2
  go_loopw [4, 9] (fun v i wr => ∃ k : Nat, k ≤ c.size ∧ i = .int .i64 k ∧ Grow wr w.heap.size 3 1 encInt v (dgTo c k) ∧ (∀ j : Nat, j < k → 49 ≤ bat c j ∧ bat c j ≤ 56) ∧ Below w.heap.size w wr) (fun _ i _ => c.size - (intOf i).toNat)
  case atStart => exact ⟨0, by omega, by rfl, Grow.empty (Nat.le_refl _), fun j hj => by omega, (Below.refl _ _).alloc (Nat.le_refl _) _⟩
  case round =>
    obtain ⟨k, hk, rfl, hg, hq, hbl⟩ := hrel
    have Hg := Lib.hid hg
    have Hq := Lib.hid hq
    have Hbl := Lib.hid hbl
    have hgs := hbl.size
    have hlen := Nat.le_of_eq (dgTo_len c k)
    clear hg hq hbl
    by_cases hlt : k < c.size
    · have hb0 := bat_lo c k
      have hb1 := bat_hi c k
      by_cases h1 : bat c k < 49
      · exact absurd (HP.out k hlt) (by omega)
      · by_cases h2 : 56 < bat c k
        · exact absurd (HP.out k hlt) (by omega)
        · have hsu := Lib.hid (dgTo_succ c k)
          have hone : ∀ u ∈ [Value.int .i64 (bat c k - 48)], u.oneCell' = true := by simp [Value.oneCell']
          have Hone := Lib.hid hone
          clear hone
          go_wp2_with (at_builtin; refine wpList_push rfl (.tmp 22) (.tmp 28) 70 rfl w.heap.size 3 _ 1 8 encInt rfl Int_info rfl (by omega) u4 (dgTo c k) [bat c k - 48] 1 rfl rfl (by simp) Hg.out rfl encInt_len Hone.out (by first | omega | (simp; omega)) (by omega) (by first | omega | (simp; omega)) ?_; intro v' w2 hg2 hb2 _)
          go_roundw
          case rel =>
            refine ⟨k + 1, by omega, by go_num, by rw [hsu.out]; exact hg2, fun j hj => ?_, Hbl.out.trans hb2⟩
            rcases Nat.lt_or_eq_of_le (Nat.le_of_lt_succ hj) with h' | rfl
            · exact Hq.out j h'
            · omega
          case measure => simp [intOf]; omega
    · obtain rfl : k = c.size := by omega
      go_wp2
      go_ret2
      obtain ⟨A, c2, hv, ho⟩ := Hg.out.own encInt_len
      exact ⟨A, c2, by rw [hv]; rfl, ho, Hbl.out⟩
set_option maxHeartbeats 1600000 in
theorem places_f (c : ByteArray) (w : World) (hc : c.size ≤ 1048576) (hp : ¬ digsP c) :
    Calls Tryz.prog 158 #[.string c] w fun e w' => e = .returned (.tuple #[.slice none 0 0, .bool false]) ∧ Below w.heap.size w w' := by
  have HP := Lib.hid hp
  clear hp
  have hcs := hc
  go_enter Tryz.func158, Tryz.ntmps158
  go_wp2
  go_loopw [4, 9] (fun v i wr => ∃ k : Nat, k ≤ c.size ∧ i = .int .i64 k ∧ Grow wr w.heap.size 3 1 encInt v (dgTo c k) ∧ (∀ j : Nat, j < k → 49 ≤ bat c j ∧ bat c j ≤ 56) ∧ Below w.heap.size w wr) (fun _ i _ => c.size - (intOf i).toNat)
  case atStart => exact ⟨0, by omega, by rfl, Grow.empty (Nat.le_refl _), fun j hj => by omega, (Below.refl _ _).alloc (Nat.le_refl _) _⟩
  case round =>
    obtain ⟨k, hk, rfl, hg, hq, hbl⟩ := hrel
    have Hg := Lib.hid hg
    have Hq := Lib.hid hq
    have Hbl := Lib.hid hbl
    have hgs := hbl.size
    have hlen := Nat.le_of_eq (dgTo_len c k)
    clear hg hq hbl
    by_cases hlt : k < c.size
    · have hb0 := bat_lo c k
      have hb1 := bat_hi c k
      by_cases h1 : bat c k < 49
      · (go_wp2 <;> (go_ret2; exact ⟨rfl, Hbl.out⟩))
      · by_cases h2 : 56 < bat c k
        · (go_wp2 <;> (go_ret2; exact ⟨rfl, Hbl.out⟩))
        · have hsu := Lib.hid (dgTo_succ c k)
          have hone : ∀ u ∈ [Value.int .i64 (bat c k - 48)], u.oneCell' = true := by simp [Value.oneCell']
          have Hone := Lib.hid hone
          clear hone
          go_wp2_with (at_builtin; refine wpList_push rfl (.tmp 22) (.tmp 28) 70 rfl w.heap.size 3 _ 1 8 encInt rfl Int_info rfl (by omega) u4 (dgTo c k) [bat c k - 48] 1 rfl rfl (by simp) Hg.out rfl encInt_len Hone.out (by first | omega | (simp; omega)) (by omega) (by first | omega | (simp; omega)) ?_; intro v' w2 hg2 hb2 _)
          go_roundw
          case rel =>
            refine ⟨k + 1, by omega, by go_num, by rw [hsu.out]; exact hg2, fun j hj => ?_, Hbl.out.trans hb2⟩
            rcases Nat.lt_or_eq_of_le (Nat.le_of_lt_succ hj) with h' | rfl
            · exact Hq.out j h'
            · omega
          case measure => simp [intOf]; omega
    · obtain rfl : k = c.size := by omega
      exact absurd (fun j hj => Hq.out j hj) HP.out
theorem ints_of {w : World} {b : Nat} {A : Option Addr} {l : List Int} (h : RdL w b A 1 encInt l) (hl : 0 < l.length) :
    ∃ g off, A = some ⟨g, off, none⟩ ∧ g < b ∧ ∀ (m : Nat) (hm : m < l.length), w.cell? ⟨g, off + m, none⟩ = some (.int .i64 l[m]) := by
  obtain ⟨g, off, hA, hg, _⟩ := h.at hl
  refine ⟨g, off, hA, hg, fun m hm => ?_⟩
  obtain ⟨g', off', hA', _, hcell⟩ := h.at hm
  rw [hA] at hA'
  simp only [Option.some.injEq, Addr.mk.injEq, and_true] at hA'
  obtain ⟨rfl, rfl⟩ := hA'
  have := hcell 0 _ rfl; rw [Nat.mul_one] at this; exact this
/-- Places that stay in a change. -/
def apP (n : Int) (l : List Int) : Prop := ∃ h : 0 < l.length, (l.length : Int) ≠ n ∧ l[0] % 2 ≠ 0 ∧ l[l.length - 1] % 2 = n % 2 ∧ l[l.length - 1] ≤ n ∧ ∀ (i : Nat) (hi : i + 1 < l.length), l[i] < l[i + 1] ∧ (l[i + 1] - l[i]) % 2 ≠ 0

set_option maxHeartbeats 3200000 in
theorem arePlaces_any (n : Int) (l : List Int) (A : Option Addr) (c : Nat) (w : World) (h : RdL w w.heap.size A 1 encInt l) (hl : l.length ≤ 1048576) (hn : 0 ≤ n ∧ n ≤ 8) (hb : ∀ x ∈ l, 1 ≤ x ∧ x ≤ 8) :
    Calls Tryz.prog 159 #[.int .i64 n, .slice A l.length c] w fun e w' => e = .returned (.bool (B (apP n l))) ∧ Below w.heap.size w w' := by
  obtain ⟨hn0, hn8⟩ := hn
  by_cases h0 : l.length = 0
  · obtain rfl := List.eq_nil_of_length_eq_zero h0
    clear h0
    go_enter Tryz.func159, Tryz.ntmps159
    go_wp2
    all_goals
      go_ret
      exact ⟨ret_f (fun h => by have := h.1; simp at this), Below.refl _ _⟩
  · have hpos : 0 < l.length := by omega
    obtain ⟨g, off, rfl, hg, hcw⟩ := ints_of h hpos
    have s0 := hcw 0 hpos
    rw [Nat.add_zero] at s0
    have s1 := hcw (l.length - 1) (by omega)
    obtain ⟨f1, f8⟩ := hb l[0] (List.getElem_mem _)
    obtain ⟨g1, g8⟩ := hb l[l.length - 1] (List.getElem_mem _)
    have hap : Hid (apP n l ↔ (l.length : Int) ≠ n ∧ l[0] % 2 ≠ 0 ∧ l[l.length - 1] % 2 = n % 2 ∧ l[l.length - 1] ≤ n ∧ ∀ (i : Nat) (hi : i + 1 < l.length), l[i] < l[i + 1] ∧ (l[i + 1] - l[i]) % 2 ≠ 0) := Lib.hid ⟨fun ⟨_, x⟩ => x, fun x => ⟨hpos, x⟩⟩
    have Hcw := Lib.hid hcw
    have Hb := Lib.hid hb
    clear h hb hcw
    generalize l[0] = F at s0 f1 f8 hap
    generalize l[l.length - 1] = G at s1 g1 g8 hap
    have z0 : ((l.length : Int) == 0) = false := by rw [beq_eq_false_iff_ne]; omega
    by_cases c1 : (l.length : Int) = n
    · have z1 : ((l.length : Int) == n) = true := by rw [beq_iff_eq]; exact c1
      have C1 := Lib.hid c1
      clear c1
      go_enter Tryz.func159, Tryz.ntmps159
      go_wp2
      all_goals
        go_ret
        exact ⟨ret_f (fun h => (hap.out.1 h).1 C1.out), Below.refl _ _⟩
    · have z1 : ((l.length : Int) == n) = false := by rw [beq_eq_false_iff_ne]; exact c1
      by_cases c2 : F % 2 = 0
      · have z2 : (F % 2 == 0) = true := by rw [beq_iff_eq]; exact c2
        have C2 := Lib.hid c2
        clear c2
        go_enter Tryz.func159, Tryz.ntmps159
        go_wp2
        all_goals
          go_ret
          exact ⟨ret_f (fun h => (hap.out.1 h).2.1 C2.out), Below.refl _ _⟩
      · have z2 : (F % 2 == 0) = false := by rw [beq_eq_false_iff_ne]; exact c2
        by_cases c3 : G % 2 = n % 2
        · have z3 : (G % 2 == n % 2) = true := by rw [beq_iff_eq]; exact c3
          by_cases c4 : n < G
          · have C4 := Lib.hid c4
            have z4 : decide (n < G) = true := decide_eq_true c4
            go_enter Tryz.func159, Tryz.ntmps159
            go_wp2
            all_goals
              go_ret
              exact ⟨ret_f (fun h => by have := (hap.out.1 h).2.2.2.1; have := C4.out; omega), Below.refl _ _⟩
          · have z4 : decide (n < G) = false := decide_eq_false c4
            have hap2 : Hid (apP n l ↔ ∀ (i : Nat) (hi : i + 1 < l.length), l[i] < l[i + 1] ∧ (l[i + 1] - l[i]) % 2 ≠ 0) := Lib.hid ⟨fun h => (hap.out.1 h).2.2.2.2, fun h => hap.out.2 ⟨c1, c2, c3, by omega, h⟩⟩
            clear c1 c2 c4
            go_enter Tryz.func159, Tryz.ntmps159
            go_wp2
            go_loopw [5] (fun i wr => ∃ k : Nat, 1 ≤ k ∧ k ≤ l.length ∧ i = .int .i64 k ∧ (∀ (j : Nat) (hj : j + 1 < l.length), j + 1 < k → l[j] < l[j + 1] ∧ (l[j + 1] - l[j]) % 2 ≠ 0) ∧ Below w.heap.size w wr) (fun i _ => l.length - (intOf i).toNat)
            case atStart => exact ⟨1, by omega, by omega, by rfl, fun j _ hj => by omega, Below.refl _ _⟩
            case round =>
              obtain ⟨k, hk1, hk, rfl, hq, hbl⟩ := hrel
              have Hq := Lib.hid hq
              have Hbl := Lib.hid hbl
              clear hq hbl
              by_cases hlt : k < l.length
              · obtain ⟨i, rfl⟩ : ∃ i, k = i + 1 := ⟨k - 1, by omega⟩
                have r0 := (Hbl.out.cell (p := ⟨g, off + i, none⟩) hg).trans (Hcw.out i (by omega))
                have r1 := (Hbl.out.cell (p := ⟨g, off + (i + 1), none⟩) hg).trans (Hcw.out (i + 1) hlt)
                have hst : Hid ((∀ (j : Nat) (hj : j + 1 < l.length), l[j] < l[j + 1] ∧ (l[j + 1] - l[j]) % 2 ≠ 0) → l[i] < l[i + 1] ∧ (l[i + 1] - l[i]) % 2 ≠ 0) := Lib.hid (fun h => h i hlt)
                obtain ⟨q1, q8⟩ := Hb.out l[i] (List.getElem_mem _)
                obtain ⟨p1, p8⟩ := Hb.out l[i + 1] (List.getElem_mem _)
                have hq2 : Hid (∀ (p : Int), (p = l[i] → True)) := Lib.hid (fun _ _ => trivial)
                generalize hpv : l[i] = pv at r0 q1 q8 hst
                generalize hqv : l[i + 1] = qv at r1 p1 p8 hst
                have Hpv := Lib.hid hpv
                have Hqv := Lib.hid hqv
                clear hpv hqv hq2
                by_cases d1 : qv ≤ pv
                · have w1 : decide (qv ≤ pv) = true := decide_eq_true d1
                  have hno : Hid (¬ apP n l) := Lib.hid (fun h => by have := (hst.out (hap2.out.1 h)).1; omega)
                  go_wp2
                  go_quiet (fail)
                  go_wp2
                  go_ret
                  exact ⟨ret_f hno.out, below_drewN Hbl.out _⟩
                · have w1 : decide (qv ≤ pv) = false := decide_eq_false d1
                  by_cases d2 : (qv - pv) % 2 = 0
                  · have w2 : ((qv - pv) % 2 == 0) = true := by rw [beq_iff_eq]; exact d2
                    have hno : Hid (¬ apP n l) := Lib.hid (fun h => (hst.out (hap2.out.1 h)).2 d2)
                    clear d2
                    go_wp2
                    go_quiet (fail)
                    go_wp2
                    go_ret
                    exact ⟨ret_f hno.out, below_drewN Hbl.out _⟩
                  · have w2 : ((qv - pv) % 2 == 0) = false := by rw [beq_eq_false_iff_ne]; exact d2
                    have D1 := Lib.hid d1
                    have D2 := Lib.hid d2
                    clear d2
                    go_wp2
                    go_quiet (fail)
                    go_wp2
                    go_roundw
                    case rel =>
                      refine ⟨i + 1 + 1, by omega, by omega, by go_num, fun j hj h1 => ?_, below_drewN Hbl.out _⟩
                      by_cases e : j = i
                      · subst e; rw [Hpv.out, Hqv.out]; exact ⟨by have := D1.out; omega, D2.out⟩
                      · exact Hq.out j hj (by omega)
                    case measure => simp [intOf]; omega
              · obtain rfl : k = l.length := by omega
                go_wp2
                go_ret
                exact ⟨ret_t (hap2.out.2 (fun j hj => Hq.out j hj hj)), Hbl.out⟩
        · have z3 : (G % 2 == n % 2) = false := by rw [beq_eq_false_iff_ne]; exact c3
          have C3 := Lib.hid c3
          go_enter Tryz.func159, Tryz.ntmps159
          go_wp2
          all_goals
            go_ret
            exact ⟨ret_f (fun h => C3.out (hap.out.1 h).2.2.1), Below.refl _ _⟩
end Go.Proofs.YtkegbbndmfnolaaGreatDoor
