import Derived.Test.YtglnehinmdmgmaaGreatMErrorsL02
import Derived.Test.YtglnehinmdmgmaaGreatMErrorsL00
import Derived.Deep.QuietTactic
import Derived.BigQuiet
import Derived.Test.YtglnehinmdmgmaaGreatMErrorsL01
import Derived.Deep.Cut
import Derived.Deep.CutRange
/-
  A cycle that is run through from a point that is not yet in the list of cycles: plain.
-/
set_option linter.unusedVariables false
set_option linter.unusedSimpArgs false
namespace Go.Proofs.YtglnehinmdmgmaaGreat.CycT
theorem path_pre {f : Nat → Nat} {y z : Nat} : ∀ {l : List Nat} {x : Nat}, path f x l y → (z ∈ l ∨ z = y) → ∃ u, u ∈ x :: l ∧ f u = z
  | [], x, hp, h => by
    rcases h with h | rfl
    · cases h
    · exact ⟨x, List.mem_cons_self, hp⟩
  | t :: l, x, hp, h => by
    by_cases e : z = t
    · exact ⟨x, List.mem_cons_self, by rw [hp.1, e]⟩
    · obtain ⟨u, hu, he⟩ := path_pre hp.2 (by rcases h with h | h; exact .inl ((List.mem_cons.1 h).resolve_left e); exact .inr h)
      exact ⟨u, List.mem_cons_of_mem _ hu, he⟩
/-- A path that comes back comes back to its head. -/
theorem path_back {f : Nat → Nat} {n y : Nat} (hi : ∀ i j, i < n → j < n → f i = f j → i = j) : ∀ {l : List Nat} {x : Nat}, path f x l y → (x :: l).Nodup → (∀ z ∈ x :: l, z < n) → y ∉ l
  | [], x, _, _, _ => by simp
  | t :: l, x, hp, hn, hb => by
    obtain ⟨h1, h2⟩ := List.nodup_cons.1 hn
    intro hy
    by_cases e : y = t
    · obtain ⟨u, hu, he⟩ := path_pre hp.2 (z := y) (.inr rfl)
      have := hi u x (hb u (List.mem_cons_of_mem _ hu)) (hb x List.mem_cons_self) (by rw [he, hp.1, e])
      subst this
      exact h1 hu
    · exact path_back hi hp.2 h2 (fun z hz => hb z (List.mem_cons_of_mem _ hz)) ((List.mem_cons.1 hy).resolve_left e)
theorem nodupN_le : ∀ (l : List Nat) (n : Nat), l.Nodup → (∀ x ∈ l, x < n) → l.length ≤ n
  | l, 0, _, h => by
    cases l with
    | nil => simp
    | cons x l => have := h x (by simp); omega
  | l, n + 1, hn, h => by
    have h1 := nodupN_le (l.erase n) n (hn.erase n) (fun x hx => by
      have := (hn.mem_erase_iff).1 hx
      have := h x this.2; omega)
    have := List.length_erase (a := n) (l := l)
    split at this <;> omega
/-- Cycles that cover the points ahead of i. -/
structure Part (n : Nat) (f : Nat → Nat) (C : List Cy) (i : Nat) : Prop where
  ok : ∀ c ∈ C, c.ok f
  nd : (flat C).Nodup
  lt : ∀ z ∈ flat C, z < n
  nf : ∀ z ∈ flat C, f z ≠ z
  cov : ∀ j, j < i → f j ≠ j → j ∈ flat C
theorem Part.start (n : Nat) (f : Nat → Nat) : Part n f [] 0 := ⟨by simp, by simp [flat], by simp [flat], by simp [flat], fun j hj => absurd hj (by omega)⟩
theorem Part.skip {n : Nat} {f : Nat → Nat} {C : List Cy} {i : Nat} (h : Part n f C i) (hs : i ∈ flat C ∨ f i = i) : Part n f C (i + 1) :=
  ⟨h.ok, h.nd, h.lt, h.nf, fun j hj hne => by
    by_cases e : j = i
    · subst e; exact hs.resolve_right hne
    · exact h.cov j (by omega) hne⟩
theorem mem_flat {C : List Cy} {z : Nat} : z ∈ flat C ↔ ∃ c ∈ C, z ∈ c.all := by unfold flat; exact List.mem_flatMap
theorem Part.pre {n : Nat} {f : Nat → Nat} {C : List Cy} {i w : Nat} (h : Part n f C i) (hi : ∀ i j, i < n → j < n → f i = f j → i = j) (hw : w < n) (hm : f w ∈ flat C) : w ∈ flat C := by
  obtain ⟨c, hc, hz⟩ := mem_flat.1 hm
  have hok := h.ok c hc
  obtain ⟨u, hu, he⟩ := path_pre hok (z := f w) (by rcases List.mem_cons.1 hz with e | e; exact .inr e; exact .inl e)
  have hu2 : u ∈ flat C := mem_flat.2 ⟨c, hc, hu⟩
  rw [← hi u w (h.lt u hu2) hw he]; exact hu2
structure Run (n : Nat) (f : Nat → Nat) (C : List Cy) (x : Nat) (cyc : List Nat) (cur : Nat) : Prop where
  sh : (cyc = [] ∧ cur = x) ∨ ∃ l, cyc = x :: l ∧ path f x l cur
  nd : cyc.Nodup
  lt : ∀ z ∈ cyc, z < n
  cl : cur < n
  out : ∀ z ∈ cyc, z ∉ flat C
  co : cur ∉ flat C
  nf : ∀ z ∈ cyc, f z ≠ z
theorem Run.start {n : Nat} {f : Nat → Nat} {C : List Cy} {x : Nat} (hx : x < n) (ho : x ∉ flat C) : Run n f C x [] x := ⟨.inl ⟨rfl, rfl⟩, by simp, by simp, hx, by simp, ho, by simp⟩
theorem Run.push {n : Nat} {f : Nat → Nat} {C : List Cy} {i x cur : Nat} {cyc : List Nat} (hP : Part n f C i) (hf : ∀ i, i < n → f i < n) (hi : ∀ i j, i < n → j < n → f i = f j → i = j) (hx : f x ≠ x) (h : Run n f C x cyc cur) (hc : cur ∉ cyc) : Run n f C x (cyc ++ [cur]) (f cur) := by
  have hnf : f cur ≠ cur := by
    rcases h.sh with ⟨rfl, rfl⟩ | ⟨l, rfl, hp⟩
    · exact hx
    · intro e
      obtain ⟨u, hu, he⟩ := path_pre hp (z := cur) (.inr rfl)
      have := hi u cur (h.lt u hu) h.cl (by rw [he, e])
      subst this; exact hc hu
  refine ⟨?_, ?_, ?_, hf _ h.cl, ?_, fun hm => h.co (hP.pre hi h.cl hm), ?_⟩
  · rcases h.sh with ⟨rfl, rfl⟩ | ⟨l, rfl, hp⟩
    · exact .inr ⟨[], rfl, rfl⟩
    · exact .inr ⟨l ++ [cur], by simp, path_app.2 ⟨hp, rfl⟩⟩
  · exact List.nodup_append.2 ⟨h.nd, by simp, fun a ha b hb e => by simp only [List.mem_singleton] at hb; subst hb; subst e; exact hc ha⟩
  all_goals
    intro z hz
    rcases List.mem_append.1 hz with hz | hz
    · first | exact h.lt z hz | exact h.out z hz | exact h.nf z hz
    · simp only [List.mem_singleton] at hz; subst hz; first | exact h.cl | exact h.co | exact hnf
theorem Run.len {n : Nat} {f : Nat → Nat} {C : List Cy} {x cur : Nat} {cyc : List Nat} (h : Run n f C x cyc cur) (hc : cur ∉ cyc) : cyc.length < n := by
  have h1 : (cyc ++ [cur]).Nodup := List.nodup_append.2 ⟨h.nd, by simp, fun a ha b hb e => by simp only [List.mem_singleton] at hb; subst hb; subst e; exact hc ha⟩
  have h2 := nodupN_le (cyc ++ [cur]) n h1 (fun z hz => by
    rcases List.mem_append.1 hz with hz | hz
    · exact h.lt z hz
    · simp only [List.mem_singleton] at hz; subst hz; exact h.cl)
  simp at h2; omega
/-- The run is at its end. -/
theorem Run.close {n : Nat} {f : Nat → Nat} {C : List Cy} {x cur : Nat} {cyc : List Nat} (hP : Part n f C x) (hi : ∀ i j, i < n → j < n → f i = f j → i = j) (h : Run n f C x cyc cur) (hc : cur ∈ cyc) :
    ∃ l, cyc = x :: l ∧ Part n f (C ++ [(x, l)]) (x + 1) := by
  rcases h.sh with ⟨rfl, rfl⟩ | ⟨l, rfl, hp⟩
  · cases hc
  · have hb := path_back hi hp h.nd h.lt
    have e : cur = x := (List.mem_cons.1 hc).resolve_right hb
    subst e
    refine ⟨l, rfl, ?_, ?_, ?_, ?_, ?_⟩
    · intro c hc
      rcases List.mem_append.1 hc with hc | hc
      · exact hP.ok c hc
      · simp only [List.mem_singleton] at hc; subst hc; exact hp
    · rw [flat_app]
      have : flat [(cur, l)] = cur :: l := by simp [flat, Cy.all]
      rw [this]
      exact List.nodup_append.2 ⟨hP.nd, h.nd, fun a ha b hb e => by subst e; exact h.out a hb ha⟩
    · intro z hz
      rw [flat_app] at hz
      rcases List.mem_append.1 hz with hz | hz
      · exact hP.lt z hz
      · exact h.lt z (by simpa [flat, Cy.all] using hz)
    · intro z hz
      rw [flat_app] at hz
      rcases List.mem_append.1 hz with hz | hz
      · exact hP.nf z hz
      · exact h.nf z (by simpa [flat, Cy.all] using hz)
    · intro j hj hne
      rw [flat_app]
      by_cases e : j = cur
      · subst e; exact List.mem_append.2 (.inr (by simp [flat, Cy.all]))
      · exact List.mem_append.2 (.inl (hP.cov j (by omega) hne))
end Go.Proofs.YtglnehinmdmgmaaGreat.CycT

/-
  A region that draws its order, whose operations only read and whose callees only make new memory: one walk in the order of the text.
-/
namespace Go.Proofs.YtglnehinmdmgmaaGreat
open Go.RowKit
set_option linter.unusedVariables false
set_option linter.unusedSimpArgs false

/-- A world in which, below the heap's size of w, all is as in w. -/
structure Later (w : World) where
  W : World
  hb : Below w.heap.size w W
instance (w : World) : Inhabited (Later w) := ⟨⟨w, Below.refl _ _⟩⟩
theorem Later.call {P : Program} {f : FuncId} {args : Array Value} {w : World} {x : Later w} {v : Value} (h : Calls P f args x.W fun e w' => e = .returned v ∧ Below x.W.heap.size x.W w') :
    Calls P f args x.W fun e w'' => e = .returned v ∧ ∃ y : Later w, w'' = y.W :=
  h.mono fun _ w' ⟨he, hb⟩ => ⟨he, ⟨w', x.hb.trans (hb.mono x.hb.size)⟩, rfl⟩
theorem Later.same {P : Program} {f : FuncId} {args : Array Value} {w : World} {x : Later w} {v : Value} (h : Calls P f args x.W fun e w' => e = .returned v ∧ x.W = w') :
    Calls P f args x.W fun e w'' => e = .returned v ∧ ∃ y : Later w, w'' = y.W :=
  h.mono fun _ w' ⟨he, hb⟩ => ⟨he, x, hb.symm⟩
theorem calls_bool {P : Program} {f : FuncId} {args : Array Value} {w : World} {b b' : Bool} {R : World → Prop} (h : Calls P f args w fun e w' => e = .returned (.bool b) ∧ R w') (e : b = b') : Calls P f args w fun e w' => e = .returned (.bool b') ∧ R w' := by
  subst e; exact h
theorem Later.drew {P : Program} {f : FuncId} {args : Array Value} {w : World} {x : Later w} {v : Value} (h : Calls P f args x.W fun e w' => e = .returned v ∧ ∃ n, w' = x.W.drewN n) :
    Calls P f args x.W fun e w'' => e = .returned v ∧ ∃ y : Later w, w'' = y.W :=
  h.mono fun _ w' ⟨he, n, hb⟩ => ⟨he, ⟨w', by rw [hb]; exact below_drewN x.hb n⟩, rfl⟩
end Go.Proofs.YtglnehinmdmgmaaGreat

/-
  The reader of choices: contracts of the functions by which the reference draws its inputs.
-/
namespace Go.Proofs.YtglnehinmdmgmaaGreat
open Go.RowKit
set_option linter.unusedVariables false
set_option linter.unusedSimpArgs false
set_option maxRecDepth 100000

/-- A reader lies in block g: it has gone on at most K times. -/
structure CurAt (w : World) (g : Nat) (A : Option Addr) (n c : Nat) (at_ : Nat) (sd : Int) : Prop where
  lt : g < w.heap.size
  c0 : w.cell? ⟨g, 0, none⟩ = some (.slice A n c)
  c1 : w.cell? ⟨g, 1, none⟩ = some (.int .i64 (at_ : Int))
  c2 : w.cell? ⟨g, 2, none⟩ = some (.int .u64 sd)
  f1 : w.frozen? ⟨g, 1, none⟩ = false
  f2 : w.frozen? ⟨g, 2, none⟩ = false
  lo : 0 ≤ sd
  hi : sd < 18446744073709551616
  by_ : ∀ i : Nat, i < n → ∃ ga off v, A = some ⟨ga, off, none⟩ ∧ ga ≠ g ∧ ga < g ∧ w.cell? ⟨ga, off + i, none⟩ = some (.int .u8 v) ∧ 0 ≤ v ∧ v < 256
  nn : n ≤ 9223372036854775807
def Cur (w : World) (g K : Nat) : Prop := ∃ A n c at_ sd, CurAt w g A n c at_ sd ∧ at_ ≤ K
theorem Cur.lt {w : World} {g K : Nat} (h : Cur w g K) : g < w.heap.size := by obtain ⟨_, _, _, _, _, h, _⟩ := h; exact h.lt
theorem Cur.more {w : World} {g K K' : Nat} (h : Cur w g K) (hk : K ≤ K') : Cur w g K' := by obtain ⟨A, n, c, a, s, h, h2⟩ := h; exact ⟨A, n, c, a, s, h, Nat.le_trans h2 hk⟩
theorem Cur.later {w w' : World} {g K : Nat} (h : Cur w g K) (hb : Below w.heap.size w w') : Cur w' g K := by
  obtain ⟨A, n, c, a, s, h, h2⟩ := h
  exact ⟨A, n, c, a, s, ⟨Nat.lt_of_lt_of_le h.lt hb.size, (hb.cell (p := ⟨g, 0, none⟩) h.lt).trans h.c0, (hb.cell (p := ⟨g, 1, none⟩) h.lt).trans h.c1, (hb.cell (p := ⟨g, 2, none⟩) h.lt).trans h.c2, (hb.frozen (p := ⟨g, 1, none⟩) h.lt).trans h.f1, (hb.frozen (p := ⟨g, 2, none⟩) h.lt).trans h.f2, h.lo, h.hi,
    fun i hi => by obtain ⟨ga, off, v, h1, h3, h4, h5, h6⟩ := h.by_ i hi; exact ⟨ga, off, v, h1, h3, h4, (hb.cell (p := ⟨ga, off + i, none⟩) (Nat.lt_trans h4 h.lt)).trans h5, h6⟩, h.nn⟩, h2⟩
theorem Cur.keep {w w' : World} {g K b : Nat} (h : Cur w g K) (hb : Below b w w') (hg : g < b) : Cur w' g K := by
  obtain ⟨A, n, c, a, s, h, h2⟩ := h
  exact ⟨A, n, c, a, s, ⟨Nat.lt_of_lt_of_le h.lt hb.size, (hb.cell (p := ⟨g, 0, none⟩) hg).trans h.c0, (hb.cell (p := ⟨g, 1, none⟩) hg).trans h.c1, (hb.cell (p := ⟨g, 2, none⟩) hg).trans h.c2, (hb.frozen (p := ⟨g, 1, none⟩) hg).trans h.f1, (hb.frozen (p := ⟨g, 2, none⟩) hg).trans h.f2, h.lo, h.hi,
    fun i hi => by obtain ⟨ga, off, v, h1, h3, h4, h5, h6⟩ := h.by_ i hi; exact ⟨ga, off, v, h1, h3, h4, (hb.cell (p := ⟨ga, off + i, none⟩) (Nat.lt_trans h4 hg)).trans h5, h6⟩, h.nn⟩, h2⟩
/-- Only block g has turned; what is new is new. -/
abbrev Turn (g : Nat) (w w' : World) : Prop := Chg g (g + 1) w w'
theorem Turn.trans {g : Nat} {a b c : World} (h : Turn g a b) (k : Turn g b c) : Turn g a c :=
  ⟨k.os.trans h.os, k.tape.trans h.tape, k.output.trans h.output, Nat.le_trans h.size k.size, fun i hi hr => (k.block i (Nat.lt_of_lt_of_le hi h.size) hr).trans (h.block i hi hr)⟩
theorem Turn.of {g : Nat} {a b : World} (k : Below a.heap.size a b) : Turn g a b := ⟨k.os, k.tape, k.output, k.size, fun i hi _ => k.block i hi⟩
theorem Turn.then {g : Nat} {a b c : World} (h : Turn g a b) (k : Below b.heap.size b c) : Turn g a c := h.trans (Turn.of k)
theorem Turn.cell {g : Nat} {a b : World} {p : Addr} (h : Turn g a b) (hp : p.block < a.heap.size) (hg : p.block ≠ g) : b.cell? p = a.cell? p := World.cell?_of_block (a := p) (h.block p.block hp (by omega))
theorem wrap_u64 (x : Int) : 0 ≤ IntKind.u64.wrap x ∧ IntKind.u64.wrap x < 18446744073709551616 := by
  unfold IntKind.wrap
  simp only [IntKind.signed, IntKind.bits]
  constructor <;> (try simp) <;> omega
theorem and255 (x : Int) : 0 ≤ wrap64 (bits .and .u64 x 255) ∧ wrap64 (bits .and .u64 x 255) < 256 := by
  have h : ∃ m : Nat, m < 256 ∧ bits .and .u64 x 255 = (m : Int) := by
    refine ⟨(BitVec.ofInt 64 x &&& BitVec.ofInt 64 255).toNat, ?_, ?_⟩
    · rw [BitVec.toNat_and]
      have : (BitVec.ofInt 64 255).toNat = 255 := by decide
      rw [this]
      exact Nat.lt_of_le_of_lt Nat.and_le_right (by omega)
    · show IntKind.u64.wrap ((BitVec.ofInt 64 x &&& BitVec.ofInt 64 255).toNat : Int) = _
      have hlt := (BitVec.ofInt 64 x &&& BitVec.ofInt 64 255).isLt
      generalize (BitVec.ofInt 64 x &&& BitVec.ofInt 64 255).toNat = m at hlt ⊢
      unfold IntKind.wrap
      simp only [IntKind.signed, IntKind.bits]
      simp
      omega
  obtain ⟨m, hm, e⟩ := h
  rw [e]
  unfold wrap64
  omega
theorem CurAt.moved {w : World} {g : Nat} {A : Option Addr} {n c at_ K : Nat} {sd : Int} (h : CurAt w g A n c at_ sd) (s' : Int) (hs : 0 ≤ s' ∧ s' < 18446744073709551616) (hK : at_ ≤ K) (i j : Nat) :
    Cur ((((w.drewN i).setCell ⟨g, 1, none⟩ (.int .i64 ((at_ : Int) + 1))).setCell ⟨g, 2, none⟩ (.int .u64 s')).drewN j) g (K + 1) ∧ Turn g w ((((w.drewN i).setCell ⟨g, 1, none⟩ (.int .i64 ((at_ : Int) + 1))).setCell ⟨g, 2, none⟩ (.int .u64 s')).drewN j) := by
  have hT : Turn g w (((w.setCell ⟨g, 1, none⟩ (.int .i64 ((at_ : Int) + 1))).setCell ⟨g, 2, none⟩ (.int .u64 s'))) := ((Chg.refl _ _ w).setCell (p := ⟨g, 1, none⟩) (Nat.le_refl _) (Nat.lt_succ_self _) _).setCell (p := ⟨g, 2, none⟩) (Nat.le_refl _) (Nat.lt_succ_self _) _
  refine ⟨?_, ⟨hT.os, hT.tape, hT.output, hT.size, hT.block⟩⟩
  refine ⟨A, n, c, at_ + 1, s', ⟨?_, ?_, ?_, ?_, ?_, ?_, hs.1, hs.2, fun k hk => ?_, h.nn⟩, by omega⟩
  · exact Nat.lt_of_lt_of_le h.lt hT.size
  · show (((w.setCell ⟨g, 1, none⟩ (.int .i64 ((at_ : Int) + 1))).setCell ⟨g, 2, none⟩ (.int .u64 s'))).cell? ⟨g, 0, none⟩ = _
    rw [World.cell?_setCell_other _ _ _ _ (fun e => by injection e with _ e; omega), World.cell?_setCell_other _ _ _ _ (fun e => by injection e with _ e; omega)]; exact h.c0
  · show (((w.setCell ⟨g, 1, none⟩ (.int .i64 ((at_ : Int) + 1))).setCell ⟨g, 2, none⟩ (.int .u64 s'))).cell? ⟨g, 1, none⟩ = _
    rw [World.cell?_setCell_other _ _ _ _ (fun e => by injection e with _ e; omega), World.cell?_setCell_same _ _ _ h.c1]; rfl
  · show (((w.setCell ⟨g, 1, none⟩ (.int .i64 ((at_ : Int) + 1))).setCell ⟨g, 2, none⟩ (.int .u64 s'))).cell? ⟨g, 2, none⟩ = _
    exact World.cell?_setCell_same _ _ _ ((World.cell?_setCell_other w ⟨g, 1, none⟩ ⟨g, 2, none⟩ _ (fun e => by injection e with _ e; omega)).trans h.c2)
  · show (((w.setCell ⟨g, 1, none⟩ (.int .i64 ((at_ : Int) + 1))).setCell ⟨g, 2, none⟩ (.int .u64 s'))).frozen? ⟨g, 1, none⟩ = _
    rw [World.frozen?_setCell, World.frozen?_setCell]; exact h.f1
  · show (((w.setCell ⟨g, 1, none⟩ (.int .i64 ((at_ : Int) + 1))).setCell ⟨g, 2, none⟩ (.int .u64 s'))).frozen? ⟨g, 2, none⟩ = _
    rw [World.frozen?_setCell, World.frozen?_setCell]; exact h.f2
  · obtain ⟨ga, off, v, h1, h3, h4, h5, h6⟩ := h.by_ k hk
    exact ⟨ga, off, v, h1, h3, h4, (hT.cell (p := ⟨ga, off + k, none⟩) (Nat.lt_trans h4 h.lt) h3).trans h5, h6⟩
set_option maxHeartbeats 1600000 in
theorem next_any (g K : Nat) (w : World) (h : Cur w g K) (hK : K ≤ 1000000000) :
    Calls Tryz.prog 68 #[.pointer (some ⟨g, 0, none⟩)] w fun e w' => ∃ x, e = .returned (.int .i64 x) ∧ 0 ≤ x ∧ x < 256 ∧ Cur w' g (K + 1) ∧ Turn g w w' := by
  obtain ⟨A, n, c, a, sd, h, hak⟩ := h
  have hH := Lib.hid h
  have c0 := h.c0
  have c1 := h.c1
  have c2 := h.c2
  have f1 := h.f1
  have f2 := h.f2
  have hnn := h.nn
  obtain ⟨gl, glo, ghi⟩ := And.intro h.lt (And.intro h.lo h.hi)
  by_cases ha : a < n
  · obtain ⟨ga, off, v, hA, hne, hlt, hv, hv1, hv2⟩ := h.by_ a ha
    subst hA
    clear h
    have d1 : decide ((a : Int) < (n : Int)) = true := by simp; omega
    have d2 : decide ((a : Int) + 1 ≤ (n : Int)) = true := by simp; omega
    go_enter Tryz.func68, Tryz.ntmps68
    go_wp2
    go_quiet (fail)
    go_wp2
    go_quiet (fail)
    go_wp2
    go_quiet (fail)
    go_wp2
    go_ret
    have hm := hH.out.moved (IntKind.u64.wrap (IntKind.u64.wrap (IntKind.u64.wrap (sd * 6364136223846793005) + v) + 1442695040888963407)) (wrap_u64 _) hak
    exact ⟨v, rfl, hv1, hv2, (hm _ _).1, (hm _ _).2⟩
  · clear h
    have d1 : decide ((a : Int) < (n : Int)) = false := by simp; omega
    have d2 : decide ((a : Int) + 1 ≤ (n : Int)) = false := by simp; omega
    go_enter Tryz.func68, Tryz.ntmps68
    go_wp2
    go_quiet (fail)
    go_wp2
    go_quiet (fail)
    go_wp2
    go_ret
    have hm := hH.out.moved (IntKind.u64.wrap (IntKind.u64.wrap (IntKind.u64.wrap (sd * 6364136223846793005)) + 1442695040888963407)) (wrap_u64 _) hak
    have hb := and255 (IntKind.u64.wrap (IntKind.u64.wrap (IntKind.u64.wrap (sd * 6364136223846793005)) + 1442695040888963407) / 1099511627776)
    exact ⟨_, rfl, hb.1, hb.2, (hm _ _).1, (hm _ _).2⟩
theorem tmod_in {x n : Int} (h0 : 0 ≤ x) (hn : 1 < n) : 0 ≤ x % n ∧ x % n < n :=
  ⟨Int.emod_nonneg _ (by omega), Int.emod_lt_of_pos _ (by omega)⟩
set_option maxHeartbeats 1600000 in
theorem pick_any (g K : Nat) (n : Int) (w : World) (h : Cur w g K) (hK : K ≤ 100000000) (hn : n ≤ 1000000) :
    Calls Tryz.prog 48 #[.pointer (some ⟨g, 0, none⟩), .int .i64 n] w fun e w' => ∃ x, e = .returned (.int .i64 x) ∧ 0 ≤ x ∧ (x < n ∨ x = 0) ∧ Cur w' g (K + 2) ∧ Turn g w w' := by
  have H := Lib.hid h
  clear h
  by_cases h1 : n ≤ 1
  · have d1 : decide (n ≤ 1) = true := decide_eq_true h1
    go_enter Tryz.func48, Tryz.ntmps48
    go_wp2
    go_ret
    exact ⟨0, rfl, by omega, .inr rfl, H.out.more (by omega), Chg.refl _ _ _⟩
  · have d1 : decide (n ≤ 1) = false := decide_eq_false h1
    have hn1 : 1 < n := by omega
    have hn0 : n ≠ 0 := by omega
    by_cases h2 : 200 < n
    · have d2 : decide (200 < n) = true := decide_eq_true h2
      go_enter Tryz.func48, Tryz.ntmps48
      go_upto_region 5 with (go_at_call 68; refine (next_any g K _ H.out (by omega)).mono ?_; rintro e w1 ⟨x, rfl, hx0, hx1, hc, ht⟩; have HC := Lib.hid hc; have HT := Lib.hid ht; clear hc ht)
      go_wp2_with (go_at_call 68; refine (next_any g (K + 1) _ HC.out (by omega)).mono ?_; rintro e w2 ⟨y, rfl, hy0, hy1, hc, ht⟩; have HC2 := Lib.hid hc; have HT2 := Lib.hid ht; clear hc ht)
      go_ret
      have := tmod_in (x := x * 256 + y) (by omega) hn1
      exact ⟨_, rfl, this.1, .inl this.2, HC2.out, HT.out.trans HT2.out⟩
    · have d2 : decide (200 < n) = false := decide_eq_false h2
      go_enter Tryz.func48, Tryz.ntmps48
      go_wp2_with (go_at_call 68; refine (next_any g K _ H.out (by omega)).mono ?_; rintro e w1 ⟨x, rfl, hx0, hx1, hc, ht⟩; have HC := Lib.hid hc; have HT := Lib.hid ht; clear hc ht)
      go_ret
      have := tmod_in (x := x) hx0 hn1
      exact ⟨_, rfl, this.1, .inl this.2, HC.out.more (by omega), HT.out⟩
theorem one_any (g K : Nat) (n : Int) (w : World) (h : Cur w g K) (hK : K ≤ 100000000) (hn : n ≤ 1000000) :
    Calls Tryz.prog 17 #[.pointer (some ⟨g, 0, none⟩), .int .i64 n] w fun e w' => ∃ b, e = .returned (.bool b) ∧ Cur w' g (K + 2) ∧ Turn g w w' := by
  have H := Lib.hid h
  clear h
  go_enter Tryz.func17, Tryz.ntmps17
  go_wp2_with (go_at_call 48; refine (pick_any g K n _ H.out (by omega) (by omega)).mono ?_; rintro e w1 ⟨x, rfl, hx0, hx1, hc, ht⟩; have HC := Lib.hid hc; have HT := Lib.hid ht; clear hc ht)
  go_ret
  exact ⟨_, rfl, HC.out, HT.out⟩
set_option maxHeartbeats 1600000 in
theorem among_any (g K ga n c : Nat) (f : Nat → Value) (P : Int → Prop) (w : World) (h : Cur w g K) (hK : K ≤ 100000000) (hn : n ≤ 1000) (h0 : 0 < n) (hc : Cells w ga n f) (hg : ga ≠ g) (hf : ∀ k, k < n → ∃ x, f k = .int .i64 x ∧ P x) :
    Calls Tryz.prog 47 #[.pointer (some ⟨g, 0, none⟩), .slice (some ⟨ga, 0, none⟩) n c] w fun e w' => ∃ x, e = .returned (.int .i64 x) ∧ P x ∧ Cur w' g (K + 2) ∧ Turn g w w' := by
  have H := Lib.hid h
  have Hc := Lib.hid hc
  have Hf := Lib.hid hf
  clear h hc hf
  go_enter Tryz.func47, Tryz.ntmps47
  go_wp2_with (go_at_call 48; refine (pick_any g K (n : Int) _ H.out (by omega) (by omega)).mono ?_; rintro e w1 ⟨x, rfl, hx0, hx1, hc, ht⟩; have HC := Lib.hid hc; have HT := Lib.hid ht; clear hc ht; obtain ⟨k, rfl⟩ : ∃ k : Nat, x = (k : Int) := ⟨x.toNat, by omega⟩; have hk : k < n := (by omega); obtain ⟨y, hy, hP⟩ := Hf.out k hk; have hcell := (HT.out.cell (p := ⟨ga, k, none⟩) Hc.out.lt hg).trans (Hc.out.cell hk); rw [hy] at hcell; have HP := Lib.hid hP; clear hP hy)
  go_ret
  exact ⟨_, rfl, HP.out, HC.out, HT.out⟩
set_option maxHeartbeats 1600000 in
theorem of_any (g K ga n c : Nat) (f : Nat → Value) (P : ByteArray → Prop) (w : World) (h : Cur w g K) (hK : K ≤ 100000000) (hn : n ≤ 1000) (h0 : 0 < n) (hc : Cells w ga n f) (hg : ga ≠ g) (hf : ∀ k, k < n → ∃ x, f k = .string x ∧ P x) :
    Calls Tryz.prog 84 #[.pointer (some ⟨g, 0, none⟩), .slice (some ⟨ga, 0, none⟩) n c] w fun e w' => ∃ x, e = .returned (.string x) ∧ P x ∧ Cur w' g (K + 2) ∧ Turn g w w' := by
  have H := Lib.hid h
  have Hc := Lib.hid hc
  have Hf := Lib.hid hf
  clear h hc hf
  go_enter Tryz.func84, Tryz.ntmps84
  go_wp2_with (go_at_call 48; refine (pick_any g K (n : Int) _ H.out (by omega) (by omega)).mono ?_; rintro e w1 ⟨x, rfl, hx0, hx1, hc, ht⟩; have HC := Lib.hid hc; have HT := Lib.hid ht; clear hc ht; obtain ⟨k, rfl⟩ : ∃ k : Nat, x = (k : Int) := ⟨x.toNat, by omega⟩; have hk : k < n := (by omega); obtain ⟨y, hy, hP⟩ := Hf.out k hk; have hcell := (HT.out.cell (p := ⟨ga, k, none⟩) Hc.out.lt hg).trans (Hc.out.cell hk); rw [hy] at hcell; have HP := Lib.hid hP; clear hP hy)
  go_ret
  exact ⟨_, rfl, HP.out, HC.out, HT.out⟩
/-- A new block of literal values. -/
theorem Cells.lit (w : World) (c : Array Value) (t : TypeId) (n : Nat) (h : c.size = n) : Cells (w.alloc (.cells c t)) w.heap.size n (fun i => c.getD i undef) := by subst h; exact Cells.new w c t _ _ fun i hi => by simp [Array.getD, hi]
def encByte (v : Int) : List Value := [.int .u8 v]
/-- A new reader over some bytes. -/
theorem Cur.new {w : World} {A : Option Addr} {c : Nat} {l : List Int} (h : RdL w w.heap.size A 1 encByte l) (hb : ∀ x ∈ l, 0 ≤ x ∧ x < 256) (hl : l.length ≤ 9223372036854775807) (t : TypeId) :
    Cur (w.alloc (.cells #[.slice A l.length c, .int .i64 0, .int .u64 0] t)) w.heap.size 0 := by
  have hc := Cells.lit w #[.slice A l.length c, .int .i64 0, .int .u64 0] t 3 rfl
  have hbl : Below w.heap.size w (w.alloc (.cells #[.slice A l.length c, .int .i64 0, .int .u64 0] t)) := (Below.refl _ _).alloc (Nat.le_refl _) _
  refine ⟨A, l.length, c, 0, 0, ⟨hc.lt, hc.cell (i := 0) (by omega), hc.cell (i := 1) (by omega), hc.cell (i := 2) (by omega), hc.free (i := 1) (by omega), hc.free (i := 2) (by omega), by omega, by omega, fun i hi => ?_, hl⟩, Nat.le_refl _⟩
  obtain ⟨ga, off, hA, hg, hcell⟩ := h.at hi
  have hv := hb _ (List.getElem_mem hi)
  have h0 := hcell 0 _ rfl
  rw [Nat.mul_one, Nat.add_zero] at h0
  exact ⟨ga, off, l[i], hA, Nat.ne_of_lt hg, hg, (hbl.cell (p := ⟨ga, off + i, none⟩) hg).trans h0, hv⟩
end Go.Proofs.YtglnehinmdmgmaaGreat
