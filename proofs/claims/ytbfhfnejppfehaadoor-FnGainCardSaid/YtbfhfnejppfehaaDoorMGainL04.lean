import Derived.ProofKit
import Derived.OpenShut
import Derived.ShutString
import Derived.Below
import Derived.Carry
import Derived.Test.YtbfhfnejppfehaaDoorMGainL01
import Derived.Deep.Slices
import Derived.Deep.Fields
import Derived.Test.YtbfhfnejppfehaaDoorRows
import Derived.StillTailTactics
import Derived.Deep.RegionHeld3
import Derived.Test.YtbfhfnejppfehaaDoorMGainL03
import Derived.Deep.AppendLies
import Derived.Deep.RegionLaw
/-
  A law's last step, once for all: a call that answers true and leaves every block that was there as it was meets the row's post.
-/
namespace Go.Proofs.YtbfhfnejppfehaaDoor
open Go.ChangeShapes Go.WideShapes Go.ChangeAt Go.RowKit

theorem trodAll_below {H : Type} {enc : TypeId × Value → H} {P : Program} (hl : laidOutB P = true) {W W' : World} (hb : Below W.heap.size W W') :
    ∀ (ts : List TypeId) (vs : List Value) (ds : List (DataW H)) (ps : List MemPlace), ts.all (fun t => P.readableRec t && decide (t < P.types.size)) = true →
      DataW.TrodAll enc P W 0 (fun _ => true) true ts vs ds ps → (∀ x ∈ ps, x.block < W.heap.size) →
      DataW.TrodAll enc P W' 0 (fun b => decide (b < W.heap.size)) true ts vs ds ps := by
  intro ts
  induction ts with
  | nil =>
    intro vs ds ps _ h _
    obtain ⟨rfl, rfl, rfl⟩ := trodAll_nil h
    exact trodAll_mk0
  | cons t ts ih =>
    intro vs ds ps hr h hlt
    obtain ⟨v, vs', d, ds', p, q, rfl, rfl, rfl, h0, h1⟩ := trodAll_cons h
    rw [List.all_cons, Bool.and_eq_true, Bool.and_eq_true, decide_eq_true_eq] at hr
    exact trodAll_cons_mk (Below.trod hl hr.1.1 hr.1.2 h0 hb (fun x hx => hlt x (List.mem_append.2 (.inl hx)))) (ih _ _ _ hr.2 h1 (fun x hx => hlt x (List.mem_append.2 (.inr hx))))

theorem law_post {H : Type} {enc : TypeId × Value → H} {P : Program} {f : Func} {s : ChangeSpec} {apart : Bool} {W W' : World} {args : Array Value} {ds : List (DataW H)} {before : List MemPlace} {tb : TypeId}
    (hl : laidOutB P = true) (hr : f.params.toList.all (fun t => P.readableRec t && decide (t < P.types.size)) = true)
    (ht : f.resultTypes = #[tb]) (hu : P.underlying tb = some .bool) (hv : s.vars = []) (hs : s.fn H (ds ++ []) = { results := [.lit (.bool true)], args := ds })
    (hW : DataW.Whole enc P f.params.toList s.vars apart W args.toList ds [] before) (hb : Below W.heap.size W W') :
    s.post enc P f apart true false false W args (.bool true) W' := by
  have hlt : ∀ p ∈ before, p.block < W.heap.size := fun p hp => by simpa using hW.lt p hp
  have hW' := hW
  obtain ⟨p, q, hA, hV, rfl, _, _⟩ := hW
  rw [hv] at hV
  obtain ⟨_, rfl⟩ := trodVars_none hV
  refine ⟨ds, [], p ++ [], [], p, [], hW', ?_, ?_, ?_, World.keptBut_mono (fun x hx => ⟨hx, ?_⟩) (hb.frame (· ∈ p ++ [])), fun h => by cases h⟩
  · rw [hs, ht]
    exact trodAll_cons_mk (shut_bool hu _) trodAll_mk0
  · rw [hs]
    exact trodAll_below hl hb _ _ _ _ hr hA (fun x hx => hlt x (List.mem_append.2 (.inl hx)))
  · rw [hs, hv]
    rfl
  · right; left; simpa using hx
end Go.Proofs.YtbfhfnejppfehaaDoor

/-
  A law's arguments, opened: a slice reads as a list of elements; a struct by value.
-/
namespace Go.Proofs.YtbfhfnejppfehaaDoor
open Go.ChangeShapes Go.WideShapes Go.ChangeAt Go.RowKit Go.Deep
set_option linter.unusedVariables false
set_option linter.unusedSimpArgs false

theorem choose_list {α : Type} (Q : Nat → α → Prop) : ∀ n, (∀ i, i < n → ∃ x, Q i x) → ∃ l : List α, l.length = n ∧ ∀ (i : Nat) (hi : i < l.length), Q i l[i]
  | 0, _ => ⟨[], rfl, fun i hi => by simp at hi⟩
  | n + 1, h => by
    obtain ⟨l, hl, hq⟩ := choose_list Q n (fun i hi => h i (by omega))
    obtain ⟨x, hx⟩ := h n (by omega)
    refine ⟨l ++ [x], by simp [hl], fun i hi => ?_⟩
    by_cases e : i < l.length
    · rw [List.getElem_append_left e]; exact hq i e
    · obtain rfl : i = n := by simp at hi; omega
      rw [List.getElem_append_right (by omega)]
      simpa using hx

section
variable {H : Type} {enc : TypeId × Value → H} {P : Program} {w : World} {base : Nat} {spare : Nat → Bool} {held : Bool}
theorem open_list {α : Type} {r : Reach} {b0 : Nat} {t e : TypeId} {v : Value} {d : DataW H} {p : List MemPlace} (ht : P.underlying t = some (.slice e)) (C : Nat) (hC : P.cellsOf e = C) (hC0 : 0 < C)
    (en : α → List Value) (ok : α → Prop) (hel : ∀ (n : Nat) (cs : List Value) (y : DataW H × List MemPlace), DataW.trod enc P w base spare held n e cs = some y → ∃ x : α, cs = en x ∧ ok x)
    (hv : Value.okWide P w r b0 t v) (h : DataW.Trod enc P w base spare held t v d p) :
    ∃ (A : Option Addr) (l : List α) (c : Nat), v = .slice A l.length c ∧ l.length ≤ maxLen ∧ RdL w w.heap.size A C en l ∧ ∀ x ∈ l, ok x := by
  obtain ⟨a0, len, cap, rfl⟩ := okWide_slice ht hv
  obtain ⟨fuel, hf⟩ := h
  have hf' : DataW.trod enc P w base spare held fuel t [.slice a0 len cap] = some (d, p) := by simpa [Value.cells] using hf
  rcases open_slice ht hf' with ⟨h0, _⟩ | ⟨a, len', cap', m, n, D, Pl, hcs, _, hl, hm, hmm, _, hi⟩
  · simp only [List.cons.injEq, Value.slice.injEq, and_true] at h0
    obtain ⟨rfl, rfl, rfl⟩ := h0
    exact ⟨none, [], 0, rfl, by simp, .inl rfl, by simp⟩
  · simp only [List.cons.injEq, Value.slice.injEq, and_true] at hcs
    obtain ⟨rfl, rfl, rfl⟩ := hcs
    have hle : len ≤ m := by rw [hmm]; split <;> omega
    obtain ⟨l, hlen, hq⟩ := choose_list (fun i x => (∀ (j : Nat) (u : Value), (en x)[j]? = some u → w.cell? (a.add (i * C + j)) = some u) ∧ ok x) len (fun i hi' => by
      obtain ⟨cs', hc, ht'⟩ := hi i (by omega)
      obtain ⟨x, rfl, hok⟩ := hel _ _ _ ht'
      rw [hC] at hc
      obtain ⟨_, hcl, hat⟩ := World.cells?_some hc
      refine ⟨x, fun j u hu => ?_, hok⟩
      have hj : j < C := by rw [← hcl]; exact (List.getElem?_eq_some_iff.1 hu).1
      rw [← Go.Deep.add_add, hat j hj, hu])
    subst hlen
    refine ⟨some a, l, cap, rfl, by omega, ?_, fun x hx => ?_⟩
    · rcases Nat.eq_zero_or_pos l.length with h0 | hpos
      · exact .inl (List.eq_nil_of_length_eq_zero h0)
      · -- the address has no spot
        obtain ⟨cs', hc, ht'⟩ := hi 0 (by omega)
        obtain ⟨x, rfl, _⟩ := hel _ _ _ ht'
        rw [hC] at hc
        obtain ⟨_, hcl, hat⟩ := World.cells?_some hc
        have h00 := hat 0 hC0
        have hadd : (a.add (0 * C)).add 0 = a := by rw [Nat.zero_mul]; unfold Addr.add; simp
        rw [hadd, List.getElem?_eq_getElem (by omega)] at h00
        have hlt := World.block_lt_of_cell? _ _ h00
        obtain ⟨g, off, sp⟩ := a
        have hsp : sp = none := by
          unfold World.cell? at h00
          split at h00
          · cases sp with
            | none => rfl
            | some _ => simp at h00
          · cases h00
        subst hsp
        refine .inr ⟨g, off, rfl, hlt, fun i hi' j u hu => ?_⟩
        have := (hq i hi').1 j u hu
        have e : (⟨g, off, none⟩ : Addr).add (i * C + j) = ⟨g, off + (i * C + j), none⟩ := by unfold Addr.add; split <;> simp_all
        rw [e] at this
        exact this
    · obtain ⟨i, hi', rfl⟩ := List.getElem_of_mem hx
      exact (hq i hi').2
theorem open_struct {α : Type} {r : Reach} {b0 : Nat} {t : TypeId} {fs : Array Field} {v : Value} {d : DataW H} {p : List MemPlace} (ht : P.underlying t = some (.struct fs))
    (en : α → List Value) (ok : α → Prop) (hel : ∀ (n : Nat) (cs : List Value) (y : DataW H × List MemPlace), DataW.trod enc P w base spare held n t cs = some y → ∃ x : α, cs = en x ∧ ok x)
    (hv : Value.okWide P w r b0 t v) (h : DataW.Trod enc P w base spare held t v d p) : ∃ x : α, v = .agg (en x).toArray ∧ ok x := by
  obtain ⟨cs, rfl, hsz⟩ := okWide_struct ht hv
  obtain ⟨fuel, hf⟩ := h
  obtain ⟨x, hx, hok⟩ := hel _ _ _ hf
  refine ⟨x, ?_, hok⟩
  have : cs.toList = en x := by simpa [Value.cells] using hx
  rw [← this]
end
end Go.Proofs.YtbfhfnejppfehaaDoor

/-
  Contracts of the helper functions that the laws use for lists of Int.
-/
namespace Go.Proofs.YtbfhfnejppfehaaDoor
open Go.RowKit Go.ChangeShapes Go.WideShapes
set_option linter.unusedVariables false
set_option linter.unusedSimpArgs false
set_option maxRecDepth 100000


def encInt (x : Int) : List Value := [.int .i64 x]
theorem encInt_len (x : Int) : (encInt x).length = 1 := rfl
def Int_small (lim : Int) (x : Int) : Prop := True
theorem Int_info : (Tryd.prog.info? 3).map (fun i => (i.zero, i.size, i.bytes)) = some (some (.int .i64 0), 1, 8) := by kernel_rfl

/-- What the marks make of a list of so many elements. -/
def markIntL (m q : Nat) : List Int := (List.range m).map fun i : Nat => (((q + i : Nat) : Int) : Int)
theorem markIntL_len (m q : Nat) : (markIntL m q).length = m := by simp [markIntL]
theorem markIntL_at (m q i : Nat) (hi : i < (markIntL m q).length) : (markIntL m q)[i] = (((q + i : Nat) : Int) : Int) := by simp [markIntL]
end Go.Proofs.YtbfhfnejppfehaaDoor
/-
  Contracts of the helper functions that the laws use for lists of lists of integers.
-/
namespace Go.Proofs.YtbfhfnejppfehaaDoor
open Go.RowKit Go.ChangeShapes Go.WideShapes
set_option linter.unusedVariables false
set_option linter.unusedSimpArgs false
set_option maxRecDepth 100000

/-- A list of integers in memory: what it holds, its address, its room. -/
structure Sl where
  x : List Int
  A : Option Addr
  c : Nat
def Sl.enc (s : Sl) : List Value := [.slice s.A s.x.length s.c]
theorem Sl_enc_len (s : Sl) : (Sl.enc s).length = 1 := rfl
theorem IntS_info : (Tryd.prog.info? 42).map (fun i => (i.zero, i.size, i.bytes)) = some (some (.slice none 0 0), 1, 24) := by kernel_rfl
/-- How many numbers there are. -/
def tot (l : List (List Int)) : Nat := (l.map List.length).sum
theorem tot_cons (x : List Int) (l : List (List Int)) : tot (x :: l) = x.length + tot l := by simp [tot]
theorem tot_append (l m : List (List Int)) : tot (l ++ m) = tot l + tot m := by simp [tot]
theorem tot_le {l : List (List Int)} {x : List Int} (h : x ∈ l) : x.length ≤ tot l := by
  induction l with
  | nil => simp at h
  | cons y l ih =>
    rw [tot_cons]
    rcases List.mem_cons.1 h with rfl | h
    · omega
    · have := ih h; omega
theorem tot_take_succ (l : List (List Int)) (k : Nat) (hk : k < l.length) : tot (l.take (k + 1)) = tot (l.take k) + l[k].length := by
  rw [List.take_succ_eq_append_getElem hk, tot_append]; simp [tot]
theorem tot_take_le (l : List (List Int)) (k : Nat) : tot (l.take k) ≤ tot l := by
  have := tot_append (l.take k) (l.drop k)
  rw [List.take_append_drop] at this; omega

abbrev RdNS (w : World) (b : Nat) (A : Option Addr) (D : List Sl) : Prop := RdN w b A 1 Sl.enc Sl.A Sl.x 1 encInt D
abbrev OwnNS (w : World) (b c : Nat) (A : Option Addr) (D : List Sl) : Prop := OwnN w b c A 1 Sl.enc Sl.A Sl.x 1 encInt D
def RdS (w : World) (b : Nat) (A : Option Addr) (l : List (List Int)) : Prop := ∃ D : List Sl, D.map Sl.x = l ∧ RdNS w b A D
def OwnS (w : World) (b c : Nat) (A : Option Addr) (l : List (List Int)) : Prop := ∃ D : List Sl, D.map Sl.x = l ∧ OwnNS w b c A D
section
variable {w w' : World} {b b' c c' : Nat} {A : Option Addr} {l : List (List Int)}
theorem OwnS.nil : OwnS w b c A [] := ⟨[], rfl, OwnN.nil⟩
theorem OwnS.rd (h : OwnS w b c A l) (_ : True) : RdS w w.heap.size A l := by obtain ⟨D, hD, h⟩ := h; exact ⟨D, hD, h.rd Sl_enc_len encInt_len⟩
theorem OwnS.later (h : OwnS w b c A l) (hb : Below w.heap.size w w') : OwnS w' b c A l := by obtain ⟨D, hD, h⟩ := h; exact ⟨D, hD, h.later hb⟩
theorem OwnS.chg (h : OwnS w b c A l) (k : Chg b' c' w w') (hr : c ≤ b' ∨ c' ≤ b) : OwnS w' b c A l := by obtain ⟨D, hD, h⟩ := h; exact ⟨D, hD, h.chg k hr⟩
theorem OwnS.mono (h : OwnS w b c A l) (hb : b' ≤ b) (hc : c ≤ c') : OwnS w b' c' A l := by obtain ⟨D, hD, h⟩ := h; exact ⟨D, hD, h.mono hb hc⟩
end

/-- What the marks make of lists of such lengths. -/
def markIntSL : List Nat → Nat → List (List Int)
  | [], _ => []
  | n :: ns, q => markIntL n q :: markIntSL ns (q + n)
theorem markIntSL_len : ∀ (ns : List Nat) (q : Nat), (markIntSL ns q).length = ns.length
  | [], _ => rfl
  | n :: ns, q => by simp [markIntSL, markIntSL_len ns]
theorem markIntSL_at : ∀ (ns : List Nat) (q k : Nat) (hk : k < (markIntSL ns q).length) (hk' : k < ns.length), (markIntSL ns q)[k] = markIntL ns[k] (q + (ns.take k).sum)
  | n :: ns, q, 0, _, _ => by simp [markIntSL]
  | n :: ns, q, k + 1, hk, hk' => by
    simp only [markIntSL, List.getElem_cons_succ, List.take_succ_cons, List.sum_cons]
    rw [markIntSL_at ns (q + n) k _ (by simpa using hk')]
    congr 1; omega
end Go.Proofs.YtbfhfnejppfehaaDoor

/-
  Words of our own that know no program: an append that tells which block it may have turned.
-/
namespace Go.Proofs.YtbfhfnejppfehaaDoor
open Go.RowKit
set_option linter.unusedVariables false
set_option linter.unusedSimpArgs false

section
variable {P : Program} {ops : Array Oper} {rest : List Oper} {o : Oper} {a : Act} {Q : Exit → Act → World → Prop} {w : World}
/-- 'l = append(l, x)', as wpList_push; the new slice's block is the old one's, or new. -/
theorem wpList_pushA {α : Type} (hgd : o.guard = none) (s x : Operand) (t : TypeId) (ho : o.op = .call { callee := .builtin .append, args := #[s, x], argTypes := #[t, t] })
    (base : Nat) (e : TypeId) (z : Value) (size bytes : Nat) (enc : α → List Value)
    (ht : P.underlying t = some (.slice e)) (hinfo : (P.info? e).map (fun i => (i.zero, i.size, i.bytes)) = some (some z, size, bytes)) (hzs : z.cells.size = size) (hsz : 0 < size)
    {news : List Value} {e' : TypeId} {g : Nat} (v : Value) (l ys : List α) (c : Nat) (hs : a.eval s = v) (hx : a.eval x = .slice (some ⟨g, 0, none⟩) ys.length c) (hg0 : g = w.heap.size)
    (hown : Grow w base e size enc v l) (hne : news = flat enc ys) (henc : ∀ x, (enc x).length = size) (h1 : ∀ u ∈ news, u.oneCell' = true)
    (hn : l.length + ys.length ≤ 1000000000) (hb : bytes ≤ 1000) (hbase : base ≤ w.heap.size)
    (h : ∀ v' w', Grow w' base e size enc v' (l ++ ys) → Below base w w' → w.grownBy w' v.ownBlock → (v'.ownBlock = v.ownBlock ∨ v'.ownBlock = some (w.heap.size + 1)) → wpList P ops Q rest (a.put o.dst v') w') :
    wpList P ops Q (o :: rest) a (w.alloc (.cells news.toArray e')) := by
  obtain ⟨i, hi, hzz⟩ := Option.map_eq_some_iff.1 hinfo
  simp only [Prod.mk.injEq] at hzz
  obtain ⟨hz, hs', hb'⟩ := hzz
  subst hne
  subst hg0
  have hmul : (l.length + ys.length) * bytes ≤ 1000000000 * 1000 := Nat.mul_le_mul hn hb
  refine wpList_append_own_at (P := P) _ hgd s x t ho base e i z size bytes ht hi hz hs' hb' hzs hsz v l.length (flat enc l) hs (hown.alloc _) ⟨w.heap.size, 0, none⟩ ys.length c (flat enc ys) hx (flat_len henc ys)
    (fun j u hu => by
      have e : (⟨w.heap.size, 0, none⟩ : Addr).add j = ⟨w.heap.size, j, none⟩ := by unfold Addr.add; split <;> simp_all
      rw [e, World.cell?_alloc_new]; simpa using hu) h1 (by unfold maxLen; omega) (by omega) (by simp; omega) ?_
  intro v' w' hown' hg _ hblk
  have hr : ∀ k, v.ownBlock = some k → base ≤ k := fun k hk => by
    rcases hown.2 with ⟨rfl, _⟩ | ⟨g, cap, cur, rfl, hbg, _⟩
    · simp [Value.ownBlock] at hk
    · simp [Value.ownBlock] at hk; omega
  refine h v' w' ?_ ?_ ?_ ?_
  · unfold Grow
    rw [List.length_append, flat_append]
    exact hown'
  · exact ((Below.refl base w).alloc hbase _).grown hg (by simp; omega) hr
  · exact ⟨hg.os, hg.tape, hg.output, Nat.le_trans (by simp) hg.size, fun k hk hne => (hg.block k (by simp; omega) hne).trans (Below.heap_alloc w _ k hk)⟩
  · simpa using hblk
end
section
variable {P : Program} {ops : Array Oper} {o : Oper} {a : Act} {w : World} {K : Act → World → Prop} {Q : Exit → Act → World → Prop} {E : Prop}
/-- 'l = append(l, x)' at a step of a region that draws its order. -/
theorem step_pushA {α : Type} (hgd : o.guard = none) (s x : Operand) (t : TypeId) (ho : o.op = .call { callee := .builtin .append, args := #[s, x], argTypes := #[t, t] })
    (base : Nat) (e : TypeId) (z : Value) (size bytes : Nat) (enc : α → List Value)
    (ht : P.underlying t = some (.slice e)) (hinfo : (P.info? e).map (fun i => (i.zero, i.size, i.bytes)) = some (some z, size, bytes)) (hzs : z.cells.size = size) (hsz : 0 < size)
    {news : List Value} {e' : TypeId} {g : Nat} (v : Value) (l ys : List α) (c : Nat) (hs : a.eval s = v) (hx : a.eval x = .slice (some ⟨g, 0, none⟩) ys.length c) (hg0 : g = w.heap.size)
    (hown : Grow w base e size enc v l) (hne : news = flat enc ys) (henc : ∀ x, (enc x).length = size) (h1 : ∀ u ∈ news, u.oneCell' = true) (hys : 0 < ys.length)
    (hn : l.length + ys.length ≤ 1000000000) (hb : bytes ≤ 1000) (hbase : base ≤ w.heap.size)
    (h : ∀ v' w', Grow w' base e size enc v' (l ++ ys) → Below base w w' → w.grownBy w' v.ownBlock → (v'.ownBlock = v.ownBlock ∨ v'.ownBlock = some (w.heap.size + 1)) → K (a.put o.dst v') w') :
    if Region.wanted o (yielded ops a.tmps) = true then Oper.wp P o a (w.alloc (.cells news.toArray e')) K Q else E := by
  obtain ⟨i, hi, hzz⟩ := Option.map_eq_some_iff.1 hinfo
  simp only [Prod.mk.injEq] at hzz
  obtain ⟨hz, hs', hb'⟩ := hzz
  subst hne
  subst hg0
  have hmul : (l.length + ys.length) * bytes ≤ 1000000000 * 1000 := Nat.mul_le_mul hn hb
  refine step_append_lies _ hgd s x t ho base e i z size bytes ht hi hz hs' hb' hzs hsz v l.length (flat enc l) hs (hown.alloc _) ⟨w.heap.size, 0, none⟩ ys.length c (flat enc ys) hx (flat_len henc ys)
    (fun j u hu => by
      have e : (⟨w.heap.size, 0, none⟩ : Addr).add j = ⟨w.heap.size, j, none⟩ := by unfold Addr.add; split <;> simp_all
      rw [e, World.cell?_alloc_new]; simpa using hu) h1 hys (by unfold maxLen; omega) (by omega) (by simp; omega) _ rfl ?_
  intro g cap w' hown' hg hblk _
  have hr : ∀ k, v.ownBlock = some k → base ≤ k := fun k hk => by
    rcases hown.2 with ⟨rfl, _⟩ | ⟨g, cap, cur, rfl, hbg, _⟩
    · simp [Value.ownBlock] at hk
    · simp [Value.ownBlock] at hk; omega
  refine h _ w' ?_ ?_ ?_ ?_
  · unfold Grow
    rw [List.length_append, flat_append]
    exact hown'
  · exact ((Below.refl base w).alloc hbase _).grown hg (by simp; omega) hr
  · exact ⟨hg.os, hg.tape, hg.output, Nat.le_trans (by simp) hg.size, fun k hk hne => (hg.block k (by simp; omega) hne).trans (Below.heap_alloc w _ k hk)⟩
  · rcases hblk with hb2 | hb2
    · left; rw [hb2]; rfl
    · right; rw [hb2]; simp [Value.ownBlock]
end
/-- What an append leaves as it was. -/
theorem OwnS.grown {w w' : World} {b c : Nat} {A : Option Addr} {l : List (List Int)} {o : Option Nat} (h : OwnS w b c A l) (hg : w.grownBy w' o) (ho : ∀ g, o = some g → g < b ∨ c ≤ g) : OwnS w' b c A l := by
  cases o with
  | none => exact h.later ⟨hg.os, hg.tape, hg.output, hg.size, fun k hk => hg.block k hk (by simp)⟩
  | some g =>
    refine h.chg (b' := g) (c' := g + 1) ⟨hg.os, hg.tape, hg.output, hg.size, fun k hk hr => hg.block k hk (fun e => by injection e with e; omega)⟩ ?_
    have := ho g rfl; omega
theorem Grow.block_lt {α : Type} {enc : α → List Value} {w : World} {base : Nat} {e : TypeId} {size : Nat} {v : Value} {l : List α} (h : Grow w base e size enc v l) : ∀ g, v.ownBlock = some g → g < w.heap.size := fun k hk => by
  rcases h.2 with ⟨rfl, _⟩ | ⟨g, cap, cur, rfl, hbg, hg, _⟩
  · simp [Value.ownBlock] at hk
  · simp [Value.ownBlock] at hk
    subst hk
    rcases Nat.lt_or_ge g w.heap.size with x | x
    · exact x
    · rw [Array.getElem?_eq_none x] at hg; cases hg
end Go.Proofs.YtbfhfnejppfehaaDoor
