import Derived.Test.YtkegbbndmfnolaaGreatDoorMBandsL01
import Derived.Test.YtkegbbndmfnolaaGreatDoorMBandsL00
import Derived.Deep.QuietTactic
import Derived.BigQuiet
import Derived.Deep.Cut
import Derived.Deep.CutRange
import Derived.Maps.AppendAt
import Derived.Deep.AppendLies
import Derived.Deep.RegionLaw
/-
 A cycle that is run through from a point that is not yet in the list of cycles: plain.
-/
set_option linter.unusedVariables false
set_option linter.unusedSimpArgs false
namespace Go.Proofs.YtkegbbndmfnolaaGreatDoor.CycT
theorem path_pre {f : Nat → Nat} {y z : Nat} : ∀ {l : List Nat} {x : Nat}, path f x l y → (z ∈ l ∨ z = y) → ∃ u, u ∈ x :: l ∧ f u = z
 | [], x, hp, h => by
  rcases h with h | rfl
  ·cases h
  ·exact ⟨x, List.mem_cons_self, hp⟩
 | t :: l, x, hp, h => by
  by_cases e : z = t
  ·exact ⟨x, List.mem_cons_self, by rw [hp.1, e]⟩
  ·obtain ⟨u, hu, he⟩ := path_pre hp.2 (by rcases h with h | h; exact .inl ((List.mem_cons.1 h).resolve_left e); exact .inr h)
   exact ⟨u, List.mem_cons_of_mem _ hu, he⟩
theorem nodupN_le : ∀ (l : List Nat) (n : Nat), l.Nodup → (∀ x ∈ l, x < n) → l.length ≤ n
 | l, 0, _, h => by
  cases l with
  | nil => simp
  | cons x l => have := h x (by simp); omega
 | l, n + 1, hn, h => by
  have h1 := nodupN_le (l.erase n) n (hn.erase n) (fun x hx => by
   have := (hn.mem_erase_iff).1 hx
   have := h x this.2; omega)
  have := List.length_erase (a := n) (l := l)
  split at this <;> omega
/-- Cycles that cover the points ahead of i. -/
structure Part (n : Nat) (f : Nat → Nat) (C : List Cy) (i : Nat) : Prop where
 ok : ∀ c ∈ C, c.ok f
 nd : (flat C).Nodup
 lt : ∀ z ∈ flat C, z < n
 nf : ∀ z ∈ flat C, f z ≠ z
 cov : ∀ j, j < i → f j ≠ j → j ∈ flat C
theorem Part.start (n : Nat) (f : Nat → Nat) : Part n f [] 0 := ⟨by simp, by simp [flat], by simp [flat], by simp [flat], fun j hj => absurd hj (by omega)⟩
theorem Part.skip {n : Nat} {f : Nat → Nat} {C : List Cy} {i : Nat} (h : Part n f C i) (hs : i ∈ flat C ∨ f i = i) : Part n f C (i + 1) :=
 ⟨h.ok, h.nd, h.lt, h.nf, fun j hj hne => by
  by_cases e : j = i
  ·subst e; exact hs.resolve_right hne
  ·exact h.cov j (by omega) hne⟩
theorem mem_flat {C : List Cy} {z : Nat} : z ∈ flat C ↔ ∃ c ∈ C, z ∈ c.all := by unfold flat; exact List.mem_flatMap
theorem Part.pre {n : Nat} {f : Nat → Nat} {C : List Cy} {i w : Nat} (h : Part n f C i) (hi : ∀ i j, i < n → j < n → f i = f j → i = j) (hw : w < n) (hm : f w ∈ flat C) : w ∈ flat C := by
 obtain ⟨c, hc, hz⟩ := mem_flat.1 hm
 have hok := h.ok c hc
 obtain ⟨u, hu, he⟩ := path_pre hok (z := f w) (by rcases List.mem_cons.1 hz with e | e; exact .inr e; exact .inl e)
 have hu2 : u ∈ flat C := mem_flat.2 ⟨c, hc, hu⟩
 rw [← hi u w (h.lt u hu2) hw he]; exact hu2
structure Run (n : Nat) (f : Nat → Nat) (C : List Cy) (x : Nat) (cyc : List Nat) (cur : Nat) : Prop where
 sh : (cyc = [] ∧ cur = x) ∨ ∃ l, cyc = x :: l ∧ path f x l cur
 nd : cyc.Nodup
 lt : ∀ z ∈ cyc, z < n
 cl : cur < n
 out : ∀ z ∈ cyc, z ∉ flat C
 co : cur ∉ flat C
 nf : ∀ z ∈ cyc, f z ≠ z
theorem Run.start {n : Nat} {f : Nat → Nat} {C : List Cy} {x : Nat} (hx : x < n) (ho : x ∉ flat C) : Run n f C x [] x := ⟨.inl ⟨rfl, rfl⟩, by simp, by simp, hx, by simp, ho, by simp⟩
theorem Run.len {n : Nat} {f : Nat → Nat} {C : List Cy} {x cur : Nat} {cyc : List Nat} (h : Run n f C x cyc cur) (hc : cur ∉ cyc) : cyc.length < n := by
 have h1 : (cyc ++ [cur]).Nodup := List.nodup_append.2 ⟨h.nd, by simp, fun a ha b hb e => by simp only [List.mem_singleton] at hb; subst hb; subst e; exact hc ha⟩
 have h2 := nodupN_le (cyc ++ [cur]) n h1 (fun z hz => by
  rcases List.mem_append.1 hz with hz | hz
  ·exact h.lt z hz
  ·simp only [List.mem_singleton] at hz; subst hz; exact h.cl)
 simp at h2; omega
end Go.Proofs.YtkegbbndmfnolaaGreatDoor.CycT

/-
 A region that draws its order, whose operations only read and whose callees only make new memory: one walk in the order of the text.
-/
namespace Go.Proofs.YtkegbbndmfnolaaGreatDoor
open Go.RowKit
set_option linter.unusedVariables false
set_option linter.unusedSimpArgs false

/-- A world in which, below the heap's size of w, all is as in w. -/
structure Later (w : World) where
 W : World
 hb : Below w.heap.size w W
instance (w : World) : Inhabited (Later w) := ⟨⟨w, Below.refl _ _⟩⟩
theorem wp_region_later {P : Program} {id : Nat} {Q : Exit → Act → World → Prop} {a : Act} {w : World} {l : List Oper} (hm : P.follows .mixedOrders = true) (hB : Region.lexB .any l.toArray = true)
  (h : wpQuiet P l.toArray (fun w' => ∃ x : Later w, w' = x.W) (fun a' => ∀ w', (∃ x : Later w, w' = x.W) → Q .normal a' w') l a) : (Code.region id l.toArray true).wp P Q a w :=
 wp_region_quiet (C := fun w' => ∃ x : Later w, w' = x.W) hm hB ⟨⟨w.drew, (Below.refl _ _).drew⟩, rfl⟩ (by simpa using h)
theorem Later.call {P : Program} {f : FuncId} {args : Array Value} {w : World} {x : Later w} {v : Value} (h : Calls P f args x.W fun e w' => e = .returned v ∧ Below x.W.heap.size x.W w') :
  Calls P f args x.W fun e w'' => e = .returned v ∧ ∃ y : Later w, w'' = y.W :=
 h.mono fun _ w' ⟨he, hb⟩ => ⟨he, ⟨w', x.hb.trans (hb.mono x.hb.size)⟩, rfl⟩
theorem Later.same {P : Program} {f : FuncId} {args : Array Value} {w : World} {x : Later w} {v : Value} (h : Calls P f args x.W fun e w' => e = .returned v ∧ x.W = w') :
  Calls P f args x.W fun e w'' => e = .returned v ∧ ∃ y : Later w, w'' = y.W :=
 h.mono fun _ w' ⟨he, hb⟩ => ⟨he, x, hb.symm⟩
theorem calls_bool {P : Program} {f : FuncId} {args : Array Value} {w : World} {b b' : Bool} {R : World → Prop} (h : Calls P f args w fun e w' => e = .returned (.bool b) ∧ R w') (e : b = b') : Calls P f args w fun e w' => e = .returned (.bool b') ∧ R w' := by
 subst e; exact h
theorem Later.drew {P : Program} {f : FuncId} {args : Array Value} {w : World} {x : Later w} {v : Value} (h : Calls P f args x.W fun e w' => e = .returned v ∧ ∃ n, w' = x.W.drewN n) :
  Calls P f args x.W fun e w'' => e = .returned v ∧ ∃ y : Later w, w'' = y.W :=
 h.mono fun _ w' ⟨he, n, hb⟩ => ⟨he, ⟨w', by rw [hb]; exact below_drewN x.hb n⟩, rfl⟩
end Go.Proofs.YtkegbbndmfnolaaGreatDoor

/-
 The reader of choices: contracts of the functions by which the reference draws its inputs.
-/
namespace Go.Proofs.YtkegbbndmfnolaaGreatDoor
open Go.RowKit
set_option linter.unusedVariables false
set_option linter.unusedSimpArgs false
set_option maxRecDepth 100000

/-- A reader lies in block g: it has gone on at most K times. -/
structure CurAt (w : World) (g : Nat) (A : Option Addr) (n c : Nat) (at_ : Nat) (sd : Int) : Prop where
 lt : g < w.heap.size
 c0 : w.cell? ⟨g, 0, none⟩ = some (.slice A n c)
 c1 : w.cell? ⟨g, 1, none⟩ = some (.int .i64 (at_ : Int))
 c2 : w.cell? ⟨g, 2, none⟩ = some (.int .u64 sd)
 f1 : w.frozen? ⟨g, 1, none⟩ = false
 f2 : w.frozen? ⟨g, 2, none⟩ = false
 lo : 0 ≤ sd
 hi : sd < 18446744073709551616
 by_ : ∀ i : Nat, i < n → ∃ ga off v, A = some ⟨ga, off, none⟩ ∧ ga ≠ g ∧ ga < g ∧ w.cell? ⟨ga, off + i, none⟩ = some (.int .u8 v) ∧ 0 ≤ v ∧ v < 256
 nn : n ≤ 9223372036854775807
def Cur (w : World) (g K : Nat) : Prop := ∃ A n c at_ sd, CurAt w g A n c at_ sd ∧ at_ ≤ K
theorem Cur.lt {w : World} {g K : Nat} (h : Cur w g K) : g < w.heap.size := by obtain ⟨_, _, _, _, _, h, _⟩ := h; exact h.lt
theorem Cur.more {w : World} {g K K' : Nat} (h : Cur w g K) (hk : K ≤ K') : Cur w g K' := by obtain ⟨A, n, c, a, s, h, h2⟩ := h; exact ⟨A, n, c, a, s, h, Nat.le_trans h2 hk⟩
theorem Cur.later {w w' : World} {g K : Nat} (h : Cur w g K) (hb : Below w.heap.size w w') : Cur w' g K := by
 obtain ⟨A, n, c, a, s, h, h2⟩ := h
 exact ⟨A, n, c, a, s, ⟨Nat.lt_of_lt_of_le h.lt hb.size, (hb.cell (p := ⟨g, 0, none⟩) h.lt).trans h.c0, (hb.cell (p := ⟨g, 1, none⟩) h.lt).trans h.c1, (hb.cell (p := ⟨g, 2, none⟩) h.lt).trans h.c2, (hb.frozen (p := ⟨g, 1, none⟩) h.lt).trans h.f1, (hb.frozen (p := ⟨g, 2, none⟩) h.lt).trans h.f2, h.lo, h.hi,
  fun i hi => by obtain ⟨ga, off, v, h1, h3, h4, h5, h6⟩ := h.by_ i hi; exact ⟨ga, off, v, h1, h3, h4, (hb.cell (p := ⟨ga, off + i, none⟩) (Nat.lt_trans h4 h.lt)).trans h5, h6⟩, h.nn⟩, h2⟩
theorem Cur.keep {w w' : World} {g K b : Nat} (h : Cur w g K) (hb : Below b w w') (hg : g < b) : Cur w' g K := by
 obtain ⟨A, n, c, a, s, h, h2⟩ := h
 exact ⟨A, n, c, a, s, ⟨Nat.lt_of_lt_of_le h.lt hb.size, (hb.cell (p := ⟨g, 0, none⟩) hg).trans h.c0, (hb.cell (p := ⟨g, 1, none⟩) hg).trans h.c1, (hb.cell (p := ⟨g, 2, none⟩) hg).trans h.c2, (hb.frozen (p := ⟨g, 1, none⟩) hg).trans h.f1, (hb.frozen (p := ⟨g, 2, none⟩) hg).trans h.f2, h.lo, h.hi,
  fun i hi => by obtain ⟨ga, off, v, h1, h3, h4, h5, h6⟩ := h.by_ i hi; exact ⟨ga, off, v, h1, h3, h4, (hb.cell (p := ⟨ga, off + i, none⟩) (Nat.lt_trans h4 hg)).trans h5, h6⟩, h.nn⟩, h2⟩
/-- Only block g has turned; what is new is new. -/
abbrev Turn (g : Nat) (w w' : World) : Prop := Chg g (g + 1) w w'
theorem Turn.trans {g : Nat} {a b c : World} (h : Turn g a b) (k : Turn g b c) : Turn g a c :=
 ⟨k.os.trans h.os, k.tape.trans h.tape, k.output.trans h.output, Nat.le_trans h.size k.size, fun i hi hr => (k.block i (Nat.lt_of_lt_of_le hi h.size) hr).trans (h.block i hi hr)⟩
theorem Turn.of {g : Nat} {a b : World} (k : Below a.heap.size a b) : Turn g a b := ⟨k.os, k.tape, k.output, k.size, fun i hi _ => k.block i hi⟩
theorem Turn.then {g : Nat} {a b c : World} (h : Turn g a b) (k : Below b.heap.size b c) : Turn g a c := h.trans (Turn.of k)
theorem Turn.cell {g : Nat} {a b : World} {p : Addr} (h : Turn g a b) (hp : p.block < a.heap.size) (hg : p.block ≠ g) : b.cell? p = a.cell? p := World.cell?_of_block (a := p) (h.block p.block hp (by omega))
theorem wrap_u64 (x : Int) : 0 ≤ IntKind.u64.wrap x ∧ IntKind.u64.wrap x < 18446744073709551616 := by
 unfold IntKind.wrap
 simp only [IntKind.signed, IntKind.bits]
 constructor <;> (try simp) <;> omega
theorem and255 (x : Int) : 0 ≤ wrap64 (bits .and .u64 x 255) ∧ wrap64 (bits .and .u64 x 255) < 256 := by
 have h : ∃ m : Nat, m < 256 ∧ bits .and .u64 x 255 = (m : Int) := by
  refine ⟨(BitVec.ofInt 64 x &&& BitVec.ofInt 64 255).toNat, ?_, ?_⟩
  ·rw [BitVec.toNat_and]
   have : (BitVec.ofInt 64 255).toNat = 255 := by decide
   rw [this]
   exact Nat.lt_of_le_of_lt Nat.and_le_right (by omega)
  ·show IntKind.u64.wrap ((BitVec.ofInt 64 x &&& BitVec.ofInt 64 255).toNat : Int) = _
   have hlt := (BitVec.ofInt 64 x &&& BitVec.ofInt 64 255).isLt
   generalize (BitVec.ofInt 64 x &&& BitVec.ofInt 64 255).toNat = m at hlt ⊢
   unfold IntKind.wrap
   simp only [IntKind.signed, IntKind.bits]
   simp
   omega
 obtain ⟨m, hm, e⟩ := h
 rw [e]
 unfold wrap64
 omega
theorem CurAt.moved {w : World} {g : Nat} {A : Option Addr} {n c at_ K : Nat} {sd : Int} (h : CurAt w g A n c at_ sd) (s' : Int) (hs : 0 ≤ s' ∧ s' < 18446744073709551616) (hK : at_ ≤ K) (i j : Nat) :
  Cur ((((w.drewN i).setCell ⟨g, 1, none⟩ (.int .i64 ((at_ : Int) + 1))).setCell ⟨g, 2, none⟩ (.int .u64 s')).drewN j) g (K + 1) ∧ Turn g w ((((w.drewN i).setCell ⟨g, 1, none⟩ (.int .i64 ((at_ : Int) + 1))).setCell ⟨g, 2, none⟩ (.int .u64 s')).drewN j) := by
 have hT : Turn g w (((w.setCell ⟨g, 1, none⟩ (.int .i64 ((at_ : Int) + 1))).setCell ⟨g, 2, none⟩ (.int .u64 s'))) := ((Chg.refl _ _ w).setCell (p := ⟨g, 1, none⟩) (Nat.le_refl _) (Nat.lt_succ_self _) _).setCell (p := ⟨g, 2, none⟩) (Nat.le_refl _) (Nat.lt_succ_self _) _
 refine ⟨?_, ⟨hT.os, hT.tape, hT.output, hT.size, hT.block⟩⟩
 refine ⟨A, n, c, at_ + 1, s', ⟨?_, ?_, ?_, ?_, ?_, ?_, hs.1, hs.2, fun k hk => ?_, h.nn⟩, by omega⟩
 ·exact Nat.lt_of_lt_of_le h.lt hT.size
 ·show (((w.setCell ⟨g, 1, none⟩ (.int .i64 ((at_ : Int) + 1))).setCell ⟨g, 2, none⟩ (.int .u64 s'))).cell? ⟨g, 0, none⟩ = _
  rw [World.cell?_setCell_other _ _ _ _ (fun e => by injection e with _ e; omega), World.cell?_setCell_other _ _ _ _ (fun e => by injection e with _ e; omega)]; exact h.c0
 ·show (((w.setCell ⟨g, 1, none⟩ (.int .i64 ((at_ : Int) + 1))).setCell ⟨g, 2, none⟩ (.int .u64 s'))).cell? ⟨g, 1, none⟩ = _
  rw [World.cell?_setCell_other _ _ _ _ (fun e => by injection e with _ e; omega), World.cell?_setCell_same _ _ _ h.c1]; rfl
 ·show (((w.setCell ⟨g, 1, none⟩ (.int .i64 ((at_ : Int) + 1))).setCell ⟨g, 2, none⟩ (.int .u64 s'))).cell? ⟨g, 2, none⟩ = _
  exact World.cell?_setCell_same _ _ _ ((World.cell?_setCell_other w ⟨g, 1, none⟩ ⟨g, 2, none⟩ _ (fun e => by injection e with _ e; omega)).trans h.c2)
 ·show (((w.setCell ⟨g, 1, none⟩ (.int .i64 ((at_ : Int) + 1))).setCell ⟨g, 2, none⟩ (.int .u64 s'))).frozen? ⟨g, 1, none⟩ = _
  rw [World.frozen?_setCell, World.frozen?_setCell]; exact h.f1
 ·show (((w.setCell ⟨g, 1, none⟩ (.int .i64 ((at_ : Int) + 1))).setCell ⟨g, 2, none⟩ (.int .u64 s'))).frozen? ⟨g, 2, none⟩ = _
  rw [World.frozen?_setCell, World.frozen?_setCell]; exact h.f2
 ·obtain ⟨ga, off, v, h1, h3, h4, h5, h6⟩ := h.by_ k hk
  exact ⟨ga, off, v, h1, h3, h4, (hT.cell (p := ⟨ga, off + k, none⟩) (Nat.lt_trans h4 h.lt) h3).trans h5, h6⟩
set_option maxHeartbeats 1600000 in
theorem next_any (g K : Nat) (w : World) (h : Cur w g K) (hK : K ≤ 1000000000) :
  Calls Tryz.prog 108 #[.pointer (some ⟨g, 0, none⟩)] w fun e w' => ∃ x, e = .returned (.int .i64 x) ∧ 0 ≤ x ∧ x < 256 ∧ Cur w' g (K + 1) ∧ Turn g w w' := by
 obtain ⟨A, n, c, a, sd, h, hak⟩ := h
 have hH := Lib.hid h
 have c0 := h.c0
 have c1 := h.c1
 have c2 := h.c2
 have f1 := h.f1
 have f2 := h.f2
 have hnn := h.nn
 obtain ⟨gl, glo, ghi⟩ := And.intro h.lt (And.intro h.lo h.hi)
 by_cases ha : a < n
 ·obtain ⟨ga, off, v, hA, hne, hlt, hv, hv1, hv2⟩ := h.by_ a ha
  subst hA
  clear h
  have d1 : decide ((a : Int) < (n : Int)) = true := by simp; omega
  have d2 : decide ((a : Int) + 1 ≤ (n : Int)) = true := by simp; omega
  go_enter Tryz.func108, Tryz.ntmps108
  go_wp2
  go_quiet (fail)
  go_wp2
  go_quiet (fail)
  go_wp2
  go_quiet (fail)
  go_wp2
  go_ret
  have hm := hH.out.moved (IntKind.u64.wrap (IntKind.u64.wrap (IntKind.u64.wrap (sd * 6364136223846793005) + v) + 1442695040888963407)) (wrap_u64 _) hak
  exact ⟨v, rfl, hv1, hv2, (hm _ _).1, (hm _ _).2⟩
 ·clear h
  have d1 : decide ((a : Int) < (n : Int)) = false := by simp; omega
  have d2 : decide ((a : Int) + 1 ≤ (n : Int)) = false := by simp; omega
  go_enter Tryz.func108, Tryz.ntmps108
  go_wp2
  go_quiet (fail)
  go_wp2
  go_quiet (fail)
  go_wp2
  go_ret
  have hm := hH.out.moved (IntKind.u64.wrap (IntKind.u64.wrap (IntKind.u64.wrap (sd * 6364136223846793005)) + 1442695040888963407)) (wrap_u64 _) hak
  have hb := and255 (IntKind.u64.wrap (IntKind.u64.wrap (IntKind.u64.wrap (sd * 6364136223846793005)) + 1442695040888963407) / 1099511627776)
  exact ⟨_, rfl, hb.1, hb.2, (hm _ _).1, (hm _ _).2⟩
theorem tmod_in {x n : Int} (h0 : 0 ≤ x) (hn : 1 < n) : 0 ≤ x % n ∧ x % n < n :=
 ⟨Int.emod_nonneg _ (by omega), Int.emod_lt_of_pos _ (by omega)⟩
set_option maxHeartbeats 1600000 in
theorem pick_any (g K : Nat) (n : Int) (w : World) (h : Cur w g K) (hK : K ≤ 100000000) (hn : n ≤ 1000000) :
  Calls Tryz.prog 53 #[.pointer (some ⟨g, 0, none⟩), .int .i64 n] w fun e w' => ∃ x, e = .returned (.int .i64 x) ∧ 0 ≤ x ∧ (x < n ∨ x = 0) ∧ Cur w' g (K + 2) ∧ Turn g w w' := by
 have H := Lib.hid h
 clear h
 by_cases h1 : n ≤ 1
 ·have d1 : decide (n ≤ 1) = true := decide_eq_true h1
  go_enter Tryz.func53, Tryz.ntmps53
  go_wp2
  go_ret
  exact ⟨0, rfl, by omega, .inr rfl, H.out.more (by omega), Chg.refl _ _ _⟩
 ·have d1 : decide (n ≤ 1) = false := decide_eq_false h1
  have hn1 : 1 < n := by omega
  have hn0 : n ≠ 0 := by omega
  by_cases h2 : 200 < n
  ·have d2 : decide (200 < n) = true := decide_eq_true h2
   go_enter Tryz.func53, Tryz.ntmps53
   go_upto_region 5 with (go_at_call 108; refine (next_any g K _ H.out (by omega)).mono ?_; rintro e w1 ⟨x, rfl, hx0, hx1, hc, ht⟩; have HC := Lib.hid hc; have HT := Lib.hid ht; clear hc ht)
   go_wp2_with (go_at_call 108; refine (next_any g (K + 1) _ HC.out (by omega)).mono ?_; rintro e w2 ⟨y, rfl, hy0, hy1, hc, ht⟩; have HC2 := Lib.hid hc; have HT2 := Lib.hid ht; clear hc ht)
   go_ret
   have := tmod_in (x := x * 256 + y) (by omega) hn1
   exact ⟨_, rfl, this.1, .inl this.2, HC2.out, HT.out.trans HT2.out⟩
  ·have d2 : decide (200 < n) = false := decide_eq_false h2
   go_enter Tryz.func53, Tryz.ntmps53
   go_wp2_with (go_at_call 108; refine (next_any g K _ H.out (by omega)).mono ?_; rintro e w1 ⟨x, rfl, hx0, hx1, hc, ht⟩; have HC := Lib.hid hc; have HT := Lib.hid ht; clear hc ht)
   go_ret
   have := tmod_in (x := x) hx0 hn1
   exact ⟨_, rfl, this.1, .inl this.2, HC.out.more (by omega), HT.out⟩
theorem one_any (g K : Nat) (n : Int) (w : World) (h : Cur w g K) (hK : K ≤ 100000000) (hn : n ≤ 1000000) :
  Calls Tryz.prog 55 #[.pointer (some ⟨g, 0, none⟩), .int .i64 n] w fun e w' => ∃ b, e = .returned (.bool b) ∧ Cur w' g (K + 2) ∧ Turn g w w' := by
 have H := Lib.hid h
 clear h
 go_enter Tryz.func55, Tryz.ntmps55
 go_wp2_with (go_at_call 53; refine (pick_any g K n _ H.out (by omega) (by omega)).mono ?_; rintro e w1 ⟨x, rfl, hx0, hx1, hc, ht⟩; have HC := Lib.hid hc; have HT := Lib.hid ht; clear hc ht)
 go_ret
 exact ⟨_, rfl, HC.out, HT.out⟩
set_option maxHeartbeats 1600000 in
theorem among_any (g K ga n c : Nat) (f : Nat → Value) (P : Int → Prop) (w : World) (h : Cur w g K) (hK : K ≤ 100000000) (hn : n ≤ 1000) (h0 : 0 < n) (hc : Cells w ga n f) (hg : ga ≠ g) (hf : ∀ k, k < n → ∃ x, f k = .int .i64 x ∧ P x) :
  Calls Tryz.prog 77 #[.pointer (some ⟨g, 0, none⟩), .slice (some ⟨ga, 0, none⟩) n c] w fun e w' => ∃ x, e = .returned (.int .i64 x) ∧ P x ∧ Cur w' g (K + 2) ∧ Turn g w w' := by
 have H := Lib.hid h
 have Hc := Lib.hid hc
 have Hf := Lib.hid hf
 clear h hc hf
 go_enter Tryz.func77, Tryz.ntmps77
 go_wp2_with (go_at_call 53; refine (pick_any g K (n : Int) _ H.out (by omega) (by omega)).mono ?_; rintro e w1 ⟨x, rfl, hx0, hx1, hc, ht⟩; have HC := Lib.hid hc; have HT := Lib.hid ht; clear hc ht; obtain ⟨k, rfl⟩ : ∃ k : Nat, x = (k : Int) := ⟨x.toNat, by omega⟩; have hk : k < n := (by omega); obtain ⟨y, hy, hP⟩ := Hf.out k hk; have hcell := (HT.out.cell (p := ⟨ga, k, none⟩) Hc.out.lt hg).trans (Hc.out.cell hk); rw [hy] at hcell; have HP := Lib.hid hP; clear hP hy)
 go_ret
 exact ⟨_, rfl, HP.out, HC.out, HT.out⟩
set_option maxHeartbeats 1600000 in
theorem of_any (g K ga n c : Nat) (f : Nat → Value) (P : ByteArray → Prop) (w : World) (h : Cur w g K) (hK : K ≤ 100000000) (hn : n ≤ 1000) (h0 : 0 < n) (hc : Cells w ga n f) (hg : ga ≠ g) (hf : ∀ k, k < n → ∃ x, f k = .string x ∧ P x) :
  Calls Tryz.prog 54 #[.pointer (some ⟨g, 0, none⟩), .slice (some ⟨ga, 0, none⟩) n c] w fun e w' => ∃ x, e = .returned (.string x) ∧ P x ∧ Cur w' g (K + 2) ∧ Turn g w w' := by
 have H := Lib.hid h
 have Hc := Lib.hid hc
 have Hf := Lib.hid hf
 clear h hc hf
 go_enter Tryz.func54, Tryz.ntmps54
 go_wp2_with (go_at_call 53; refine (pick_any g K (n : Int) _ H.out (by omega) (by omega)).mono ?_; rintro e w1 ⟨x, rfl, hx0, hx1, hc, ht⟩; have HC := Lib.hid hc; have HT := Lib.hid ht; clear hc ht; obtain ⟨k, rfl⟩ : ∃ k : Nat, x = (k : Int) := ⟨x.toNat, by omega⟩; have hk : k < n := (by omega); obtain ⟨y, hy, hP⟩ := Hf.out k hk; have hcell := (HT.out.cell (p := ⟨ga, k, none⟩) Hc.out.lt hg).trans (Hc.out.cell hk); rw [hy] at hcell; have HP := Lib.hid hP; clear hP hy)
 go_ret
 exact ⟨_, rfl, HP.out, HC.out, HT.out⟩
/-- A new block of literal values. -/
theorem Cells.lit (w : World) (c : Array Value) (t : TypeId) (n : Nat) (h : c.size = n) : Cells (w.alloc (.cells c t)) w.heap.size n (fun i => c.getD i undef) := by subst h; exact Cells.new w c t _ _ fun i hi => by simp [Array.getD, hi]
set_option maxHeartbeats 1600000 in
theorem stage_any (g K : Nat) (w : World) (h : Cur w g K) (hK : K ≤ 100000000) :
  Calls Tryz.prog 161 #[.pointer (some ⟨g, 0, none⟩)] w fun e w' => ∃ x, e = .returned (.int .i64 x) ∧ (3 ≤ x ∧ x ≤ 8) ∧ Cur w' g (K + 2) ∧ Turn g w w' := by
 have H := Lib.hid h
 have hlt := h.lt
 clear h
 go_enter Tryz.func161, Tryz.ntmps161
 go_wp2_with (go_at_call 77; refine (among_any g K w.heap.size 9 9 _ (fun x => 3 ≤ x ∧ x ≤ 8) _ (H.out.later ((Below.refl _ _).alloc (Nat.le_refl _) _)) (by omega) (by omega) (by omega) (Cells.lit w _ _ 9 rfl) (by omega) (by intro k hk; rcases k with _ | _ | _ | _ | _ | _ | _ | _ | _ | k <;> first | exact ⟨_, rfl, by omega⟩ | omega)).mono ?_; rintro e w1 ⟨x, rfl, hx, hc, ht⟩)
 go_ret
 exact ⟨_, rfl, hx, hc, (Turn.of ((Below.refl _ _).alloc (Nat.le_refl _) _)).trans ht⟩
def encByte (v : Int) : List Value := [.int .u8 v]
/-- A new reader over some bytes. -/
theorem Cur.new {w : World} {A : Option Addr} {c : Nat} {l : List Int} (h : RdL w w.heap.size A 1 encByte l) (hb : ∀ x ∈ l, 0 ≤ x ∧ x < 256) (hl : l.length ≤ 9223372036854775807) (t : TypeId) :
  Cur (w.alloc (.cells #[.slice A l.length c, .int .i64 0, .int .u64 0] t)) w.heap.size 0 := by
 have hc := Cells.lit w #[.slice A l.length c, .int .i64 0, .int .u64 0] t 3 rfl
 have hbl : Below w.heap.size w (w.alloc (.cells #[.slice A l.length c, .int .i64 0, .int .u64 0] t)) := (Below.refl _ _).alloc (Nat.le_refl _) _
 refine ⟨A, l.length, c, 0, 0, ⟨hc.lt, hc.cell (i := 0) (by omega), hc.cell (i := 1) (by omega), hc.cell (i := 2) (by omega), hc.free (i := 1) (by omega), hc.free (i := 2) (by omega), by omega, by omega, fun i hi => ?_, hl⟩, Nat.le_refl _⟩
 obtain ⟨ga, off, hA, hg, hcell⟩ := h.at hi
 have hv := hb _ (List.getElem_mem hi)
 have h0 := hcell 0 _ rfl
 rw [Nat.mul_one, Nat.add_zero] at h0
 exact ⟨ga, off, l[i], hA, Nat.ne_of_lt hg, hg, (hbl.cell (p := ⟨ga, off + i, none⟩) hg).trans h0, hv⟩
end Go.Proofs.YtkegbbndmfnolaaGreatDoor

/-
 Words of our own that know no program: a slice of elements that each hold a slice of integers: read, owned, made by append.
-/
namespace Go.Proofs.YtkegbbndmfnolaaGreatDoor
open Go.RowKit
set_option linter.unusedVariables false
set_option linter.unusedSimpArgs false

section
variable {δ β : Type} {enc : δ → List Value} {size : Nat} {iA : δ → Option Addr} {ix : δ → List β} {eb : β → List Value} {ib : Nat}
/-- An outer slice that reads as a list of elements, each with an inner slice that reads as a list. -/
def RdN (w : World) (b : Nat) (A : Option Addr) (size : Nat) (enc : δ → List Value) (iA : δ → Option Addr) (ix : δ → List β) (ib : Nat) (eb : β → List Value) (D : List δ) : Prop :=
 RdL w b A size enc D ∧ ∀ d ∈ D, RdL w b (iA d) ib eb (ix d)
/-- All inner blocks lie apart, none is the outer one; all lie from b on, ahead of c. -/
def OwnN (w : World) (b c : Nat) (A : Option Addr) (size : Nat) (enc : δ → List Value) (iA : δ → Option Addr) (ix : δ → List β) (ib : Nat) (eb : β → List Value) (D : List δ) : Prop :=
 D = [] ∨ ∃ (g : Nat) (h : Nat → Nat), b ≤ g ∧ g < c ∧ OwnL w g (g + 1) A size enc D ∧
  ∀ (i : Nat) (hi : i < D.length), b ≤ h i ∧ h i < c ∧ h i ≠ g ∧ OwnL w (h i) (h i + 1) (iA D[i]) ib eb (ix D[i]) ∧ ∀ j, j < i → h j ≠ h i
variable {w w' : World} {b b' c c' : Nat} {A : Option Addr} {D : List δ}
theorem RdN.below {k : Nat} (h : RdN w b A size enc iA ix ib eb D) (hb : Below k w w') (hc : b ≤ k) : RdN w' b A size enc iA ix ib eb D :=
 ⟨h.1.below hb hc, fun d hd => (h.2 d hd).below hb hc⟩
theorem RdN.more (h : RdN w b A size enc iA ix ib eb D) (hb : b ≤ b') : RdN w b' A size enc iA ix ib eb D :=
 ⟨h.1.more hb, fun d hd => (h.2 d hd).more hb⟩
theorem OwnN.nil : OwnN w b c A size enc iA ix ib eb ([] : List δ) := .inl rfl
theorem OwnN.rd (h : OwnN w b c A size enc iA ix ib eb D) (henc : ∀ x, (enc x).length = size) (heb : ∀ x, (eb x).length = ib) : RdN w w.heap.size A size enc iA ix ib eb D := by
 rcases h with h | ⟨g, h, _, _, ho, hi⟩
 ·subst h; exact ⟨.inl rfl, by simp⟩
 ·refine ⟨ho.rd henc, fun d hd => ?_⟩
  obtain ⟨i, hlt, rfl⟩ := List.getElem_of_mem hd
  exact (hi i hlt).2.2.2.1.rd heb
theorem OwnN.later (h : OwnN w b c A size enc iA ix ib eb D) (hb : Below w.heap.size w w') : OwnN w' b c A size enc iA ix ib eb D := by
 rcases h with h | ⟨g, h, h1, h2, ho, hi⟩
 ·exact .inl h
 ·exact .inr ⟨g, h, h1, h2, ho.later hb, fun i hlt => ⟨(hi i hlt).1, (hi i hlt).2.1, (hi i hlt).2.2.1, (hi i hlt).2.2.2.1.later hb, (hi i hlt).2.2.2.2⟩⟩
theorem OwnN.chg (h : OwnN w b c A size enc iA ix ib eb D) (k : Chg b' c' w w') (hr : c ≤ b' ∨ c' ≤ b) : OwnN w' b c A size enc iA ix ib eb D := by
 rcases h with h | ⟨g, h, h1, h2, ho, hi⟩
 ·exact .inl h
 ·exact .inr ⟨g, h, h1, h2, ho.chg k (by omega), fun i hlt => ⟨(hi i hlt).1, (hi i hlt).2.1, (hi i hlt).2.2.1, (hi i hlt).2.2.2.1.chg k (by have := hi i hlt; omega), (hi i hlt).2.2.2.2⟩⟩
theorem OwnN.mono (h : OwnN w b c A size enc iA ix ib eb D) (hb : b' ≤ b) (hc : c ≤ c') : OwnN w b' c' A size enc iA ix ib eb D := by
 rcases h with h | ⟨g, h, h1, h2, ho, hi⟩
 ·exact .inl h
 ·exact .inr ⟨g, h, by omega, by omega, ho, fun i hlt => ⟨by have := hi i hlt; omega, by have := hi i hlt; omega, (hi i hlt).2.2⟩⟩
theorem OwnL.congr {α : Type} {enc : α → List Value} {l l' : List α} (h : OwnL w b c A size enc l) (hl : l.length = l'.length) (he : ∀ (i : Nat) (h1 : i < l.length) (h2 : i < l'.length), enc l'[i] = enc l[i]) : OwnL w b c A size enc l' := by
 rcases h with h | ⟨g, f, rfl, hg, hg2, hc, hf⟩
 ·subst h; exact .inl (List.eq_nil_of_length_eq_zero (by simpa using hl.symm))
 ·exact .inr ⟨g, f, rfl, hg, hg2, by rw [← hl]; exact hc, fun i hi j u hu => hf i (by omega) j u (by rw [← he i (by omega) hi]; exact hu)⟩

/-- The value v is a slice of the call's own, made by append, whose elements' inner slices lie in blocks of their own. -/
def GrowN (w : World) (base : Nat) (e : TypeId) (size : Nat) (enc : δ → List Value) (iA : δ → Option Addr) (ix : δ → List β) (ib : Nat) (eb : β → List Value) (v : Value) (D : List δ) : Prop :=
 Grow w base e size enc v D ∧ ∃ h : Nat → Nat, ∀ (i : Nat) (hi : i < D.length), base ≤ h i ∧ h i < w.heap.size ∧ v.ownBlock ≠ some (h i) ∧ OwnL w (h i) (h i + 1) (iA D[i]) ib eb (ix D[i]) ∧ ∀ j, j < i → h j ≠ h i
variable {base : Nat} {e : TypeId} {v : Value}
theorem GrowN.nil : GrowN w base e size enc iA ix ib eb (.slice none 0 0) ([] : List δ) := ⟨Grow.nil, fun i => i, fun i hi => by simp at hi⟩
theorem GrowN.empty (hb : b ≤ w.heap.size) : GrowN (w.alloc (.cells #[] e)) b e size enc iA ix ib eb (.slice (some ⟨w.heap.size, 0, none⟩) 0 0) ([] : List δ) := ⟨Grow.empty hb, fun i => i, fun i hi => by simp at hi⟩
theorem GrowN.later (h : GrowN w base e size enc iA ix ib eb v D) (hb : Below w.heap.size w w') : GrowN w' base e size enc iA ix ib eb v D := by
 obtain ⟨h1, h, hi⟩ := h
 exact ⟨h1.later hb, h, fun i hlt => ⟨(hi i hlt).1, Nat.lt_of_lt_of_le (hi i hlt).2.1 hb.size, (hi i hlt).2.2.1, (hi i hlt).2.2.2.1.later hb, (hi i hlt).2.2.2.2⟩⟩
theorem GrowN.drewN (h : GrowN w base e size enc iA ix ib eb v D) (k : Nat) : GrowN (w.drewN k) base e size enc iA ix ib eb v D := h
theorem Grow.ownB {α : Type} {enc : α → List Value} {l : List α} (h : Grow w base e size enc v l) (henc : ∀ x, (enc x).length = size) (hl : 0 < l.length) : ∃ g A c, v.ownBlock = some g ∧ base ≤ g ∧ g < w.heap.size ∧ v = .slice A l.length c ∧ OwnL w g (g + 1) A size enc l := by
 obtain ⟨A, c, hv, ho⟩ := h.own henc
 rcases ho with h0 | ⟨g, f, rfl, h1, h2, h3⟩
 ·subst h0; simp at hl
 ·exact ⟨g, some ⟨g, 0, none⟩, c, by rw [hv]; rfl, h1, h2, hv, .inr ⟨g, f, rfl, Nat.le_refl _, by omega, h3⟩⟩
theorem GrowN.own (h : GrowN w base e size enc iA ix ib eb v D) (henc : ∀ x, (enc x).length = size) : ∃ A c, v = .slice A D.length c ∧ OwnN w base w.heap.size A size enc iA ix ib eb D := by
 obtain ⟨h1, h, hi⟩ := h
 rcases Nat.eq_zero_or_pos D.length with h0 | hpos
 ·obtain ⟨A, c, hv, _⟩ := h1.own henc
  exact ⟨A, c, hv, .inl (List.eq_nil_of_length_eq_zero h0)⟩
 ·obtain ⟨g, A, c, hb, hg1, hg2, hv, ho⟩ := h1.ownB henc hpos
  exact ⟨A, c, hv, .inr ⟨g, h, hg1, hg2, ho, fun i hlt => ⟨(hi i hlt).1, (hi i hlt).2.1, fun he => (hi i hlt).2.2.1 (by rw [hb, he]), (hi i hlt).2.2.2.1, (hi i hlt).2.2.2.2⟩⟩⟩
end

section
variable {P : Program} {ops : Array Oper} {rest : List Oper} {o : Oper} {a : Act} {Q : Exit → Act → World → Prop} {w : World}
end
end Go.Proofs.YtkegbbndmfnolaaGreatDoor

/-
 Contracts of the helper functions that the laws use for lists of lists of integers.
-/
namespace Go.Proofs.YtkegbbndmfnolaaGreatDoor
open Go.RowKit Go.ChangeShapes Go.WideShapes
set_option linter.unusedVariables false
set_option linter.unusedSimpArgs false
set_option maxRecDepth 100000

/-- A list of integers in memory: what it holds, its address, its room. -/
structure Sl where
 x : List Int
 A : Option Addr
 c : Nat
def Sl.enc (s : Sl) : List Value := [.slice s.A s.x.length s.c]
theorem Sl_enc_len (s : Sl) : (Sl.enc s).length = 1 := rfl
theorem IntS_info : (Tryz.prog.info? 70).map (fun i => (i.zero, i.size, i.bytes)) = some (some (.slice none 0 0), 1, 24) := by kernel_rfl
/-- How many numbers there are. -/
def tot (l : List (List Int)) : Nat := (l.map List.length).sum
abbrev RdNS (w : World) (b : Nat) (A : Option Addr) (D : List Sl) : Prop := RdN w b A 1 Sl.enc Sl.A Sl.x 1 encInt D
abbrev OwnNS (w : World) (b c : Nat) (A : Option Addr) (D : List Sl) : Prop := OwnN w b c A 1 Sl.enc Sl.A Sl.x 1 encInt D
def RdS (w : World) (b : Nat) (A : Option Addr) (l : List (List Int)) : Prop := ∃ D : List Sl, D.map Sl.x = l ∧ RdNS w b A D
def OwnS (w : World) (b c : Nat) (A : Option Addr) (l : List (List Int)) : Prop := ∃ D : List Sl, D.map Sl.x = l ∧ OwnNS w b c A D
section
variable {w w' : World} {b b' c c' : Nat} {A : Option Addr} {l : List (List Int)}
theorem OwnS.nil : OwnS w b c A [] := ⟨[], rfl, OwnN.nil⟩
theorem OwnS.rd (h : OwnS w b c A l) (_ : True) : RdS w w.heap.size A l := by obtain ⟨D, hD, h⟩ := h; exact ⟨D, hD, h.rd Sl_enc_len encInt_len⟩
theorem OwnS.later (h : OwnS w b c A l) (hb : Below w.heap.size w w') : OwnS w' b c A l := by obtain ⟨D, hD, h⟩ := h; exact ⟨D, hD, h.later hb⟩
theorem OwnS.chg (h : OwnS w b c A l) (k : Chg b' c' w w') (hr : c ≤ b' ∨ c' ≤ b) : OwnS w' b c A l := by obtain ⟨D, hD, h⟩ := h; exact ⟨D, hD, h.chg k hr⟩
theorem OwnS.mono (h : OwnS w b c A l) (hb : b' ≤ b) (hc : c ≤ c') : OwnS w b' c' A l := by obtain ⟨D, hD, h⟩ := h; exact ⟨D, hD, h.mono hb hc⟩
end

/-- What the marks make of lists of such lengths. -/
def markIntSL : List Nat → Nat → List (List Int)
 | [], _ => []
 | n :: ns, q => markIntL n q :: markIntSL ns (q + n)
end Go.Proofs.YtkegbbndmfnolaaGreatDoor

/-
 Words of our own that know no program: an append that tells which block it may have turned.
-/
namespace Go.Proofs.YtkegbbndmfnolaaGreatDoor
open Go.RowKit
set_option linter.unusedVariables false
set_option linter.unusedSimpArgs false

section
variable {P : Program} {ops : Array Oper} {rest : List Oper} {o : Oper} {a : Act} {Q : Exit → Act → World → Prop} {w : World}
/-- 'l = append(l, x)', as wpList_push; the new slice's block is the old one's, or new. -/
theorem wpList_pushA {α : Type} (hgd : o.guard = none) (s x : Operand) (t : TypeId) (ho : o.op = .call { callee := .builtin .append, args := #[s, x], argTypes := #[t, t] })
  (base : Nat) (e : TypeId) (z : Value) (size bytes : Nat) (enc : α → List Value)
  (ht : P.underlying t = some (.slice e)) (hinfo : (P.info? e).map (fun i => (i.zero, i.size, i.bytes)) = some (some z, size, bytes)) (hzs : z.cells.size = size) (hsz : 0 < size)
  {news : List Value} {e' : TypeId} {g : Nat} (v : Value) (l ys : List α) (c : Nat) (hs : a.eval s = v) (hx : a.eval x = .slice (some ⟨g, 0, none⟩) ys.length c) (hg0 : g = w.heap.size)
  (hown : Grow w base e size enc v l) (hne : news = flat enc ys) (henc : ∀ x, (enc x).length = size) (h1 : ∀ u ∈ news, u.oneCell' = true)
  (hn : l.length + ys.length ≤ 1000000000) (hb : bytes ≤ 1000) (hbase : base ≤ w.heap.size)
  (h : ∀ v' w', Grow w' base e size enc v' (l ++ ys) → Below base w w' → w.grownBy w' v.ownBlock → (v'.ownBlock = v.ownBlock ∨ v'.ownBlock = some (w.heap.size + 1)) → wpList P ops Q rest (a.put o.dst v') w') :
  wpList P ops Q (o :: rest) a (w.alloc (.cells news.toArray e')) := by
 obtain ⟨i, hi, hzz⟩ := Option.map_eq_some_iff.1 hinfo
 simp only [Prod.mk.injEq] at hzz
 obtain ⟨hz, hs', hb'⟩ := hzz
 subst hne
 subst hg0
 have hmul : (l.length + ys.length) * bytes ≤ 1000000000 * 1000 := Nat.mul_le_mul hn hb
 refine wpList_append_own_at (P := P) _ hgd s x t ho base e i z size bytes ht hi hz hs' hb' hzs hsz v l.length (flat enc l) hs (hown.alloc _) ⟨w.heap.size, 0, none⟩ ys.length c (flat enc ys) hx (flat_len henc ys)
  (fun j u hu => by
   have e : (⟨w.heap.size, 0, none⟩ : Addr).add j = ⟨w.heap.size, j, none⟩ := by unfold Addr.add; split <;> simp_all
   rw [e, World.cell?_alloc_new]; simpa using hu) h1 (by unfold maxLen; omega) (by omega) (by simp; omega) ?_
 intro v' w' hown' hg _ hblk
 have hr : ∀ k, v.ownBlock = some k → base ≤ k := fun k hk => by
  rcases hown.2 with ⟨rfl, _⟩ | ⟨g, cap, cur, rfl, hbg, _⟩
  ·simp [Value.ownBlock] at hk
  ·simp [Value.ownBlock] at hk; omega
 refine h v' w' ?_ ?_ ?_ ?_
 ·unfold Grow
  rw [List.length_append, flat_append]
  exact hown'
 ·exact ((Below.refl base w).alloc hbase _).grown hg (by simp; omega) hr
 ·exact ⟨hg.os, hg.tape, hg.output, Nat.le_trans (by simp) hg.size, fun k hk hne => (hg.block k (by simp; omega) hne).trans (Below.heap_alloc w _ k hk)⟩
 ·simpa using hblk
end
section
variable {P : Program} {ops : Array Oper} {o : Oper} {a : Act} {w : World} {K : Act → World → Prop} {Q : Exit → Act → World → Prop} {E : Prop}
/-- 'l = append(l, x)' at a step of a region that draws its order. -/
theorem step_pushA {α : Type} (hgd : o.guard = none) (s x : Operand) (t : TypeId) (ho : o.op = .call { callee := .builtin .append, args := #[s, x], argTypes := #[t, t] })
  (base : Nat) (e : TypeId) (z : Value) (size bytes : Nat) (enc : α → List Value)
  (ht : P.underlying t = some (.slice e)) (hinfo : (P.info? e).map (fun i => (i.zero, i.size, i.bytes)) = some (some z, size, bytes)) (hzs : z.cells.size = size) (hsz : 0 < size)
  {news : List Value} {e' : TypeId} {g : Nat} (v : Value) (l ys : List α) (c : Nat) (hs : a.eval s = v) (hx : a.eval x = .slice (some ⟨g, 0, none⟩) ys.length c) (hg0 : g = w.heap.size)
  (hown : Grow w base e size enc v l) (hne : news = flat enc ys) (henc : ∀ x, (enc x).length = size) (h1 : ∀ u ∈ news, u.oneCell' = true) (hys : 0 < ys.length)
  (hn : l.length + ys.length ≤ 1000000000) (hb : bytes ≤ 1000) (hbase : base ≤ w.heap.size)
  (h : ∀ v' w', Grow w' base e size enc v' (l ++ ys) → Below base w w' → w.grownBy w' v.ownBlock → (v'.ownBlock = v.ownBlock ∨ v'.ownBlock = some (w.heap.size + 1)) → K (a.put o.dst v') w') :
  if Region.wanted o (yielded ops a.tmps) = true then Oper.wp P o a (w.alloc (.cells news.toArray e')) K Q else E := by
 obtain ⟨i, hi, hzz⟩ := Option.map_eq_some_iff.1 hinfo
 simp only [Prod.mk.injEq] at hzz
 obtain ⟨hz, hs', hb'⟩ := hzz
 subst hne
 subst hg0
 have hmul : (l.length + ys.length) * bytes ≤ 1000000000 * 1000 := Nat.mul_le_mul hn hb
 refine step_append_lies _ hgd s x t ho base e i z size bytes ht hi hz hs' hb' hzs hsz v l.length (flat enc l) hs (hown.alloc _) ⟨w.heap.size, 0, none⟩ ys.length c (flat enc ys) hx (flat_len henc ys)
  (fun j u hu => by
   have e : (⟨w.heap.size, 0, none⟩ : Addr).add j = ⟨w.heap.size, j, none⟩ := by unfold Addr.add; split <;> simp_all
   rw [e, World.cell?_alloc_new]; simpa using hu) h1 hys (by unfold maxLen; omega) (by omega) (by simp; omega) _ rfl ?_
 intro g cap w' hown' hg hblk _
 have hr : ∀ k, v.ownBlock = some k → base ≤ k := fun k hk => by
  rcases hown.2 with ⟨rfl, _⟩ | ⟨g, cap, cur, rfl, hbg, _⟩
  ·simp [Value.ownBlock] at hk
  ·simp [Value.ownBlock] at hk; omega
 refine h _ w' ?_ ?_ ?_ ?_
 ·unfold Grow
  rw [List.length_append, flat_append]
  exact hown'
 ·exact ((Below.refl base w).alloc hbase _).grown hg (by simp; omega) hr
 ·exact ⟨hg.os, hg.tape, hg.output, Nat.le_trans (by simp) hg.size, fun k hk hne => (hg.block k (by simp; omega) hne).trans (Below.heap_alloc w _ k hk)⟩
 ·rcases hblk with hb2 | hb2
  ·left; rw [hb2]; rfl
  ·right; rw [hb2]; simp [Value.ownBlock]
end
/-- What an append leaves as it was. -/
theorem OwnS.grown {w w' : World} {b c : Nat} {A : Option Addr} {l : List (List Int)} {o : Option Nat} (h : OwnS w b c A l) (hg : w.grownBy w' o) (ho : ∀ g, o = some g → g < b ∨ c ≤ g) : OwnS w' b c A l := by
 cases o with
 | none => exact h.later ⟨hg.os, hg.tape, hg.output, hg.size, fun k hk => hg.block k hk (by simp)⟩
 | some g =>
  refine h.chg (b' := g) (c' := g + 1) ⟨hg.os, hg.tape, hg.output, hg.size, fun k hk hr => hg.block k hk (fun e => by injection e with e; omega)⟩ ?_
  have := ho g rfl; omega
theorem Grow.block_lt {α : Type} {enc : α → List Value} {w : World} {base : Nat} {e : TypeId} {size : Nat} {v : Value} {l : List α} (h : Grow w base e size enc v l) : ∀ g, v.ownBlock = some g → g < w.heap.size := fun k hk => by
 rcases h.2 with ⟨rfl, _⟩ | ⟨g, cap, cur, rfl, hbg, hg, _⟩
 ·simp [Value.ownBlock] at hk
 ·simp [Value.ownBlock] at hk
  subst hk
  rcases Nat.lt_or_ge g w.heap.size with x | x
  ·exact x
  ·rw [Array.getElem?_eq_none x] at hg; cases hg
end Go.Proofs.YtkegbbndmfnolaaGreatDoor

/-
 The reader of choices: values with weights.
-/
namespace Go.Proofs.YtkegbbndmfnolaaGreatDoor
open Go.RowKit
set_option linter.unusedVariables false
set_option linter.unusedSimpArgs false
set_option maxRecDepth 100000

theorem Grow.turn {α : Type} {enc : α → List Value} {w w' : World} {base : Nat} {e : TypeId} {size : Nat} {v : Value} {l : List α} {g0 : Nat} (h : Grow w base e size enc v l) (hg : Turn g0 w w') (hb : g0 < base) : Grow w' base e size enc v l := by
 have hlt := h.block_lt
 refine ⟨h.1, ?_⟩
 rcases h.2 with ⟨h1, h2⟩ | ⟨g, cap, cur, h1, h2, h3, h4⟩
 ·exact .inl ⟨h1, h2⟩
 ·have e1 : v.ownBlock = some g := by rw [h1]; rfl
  exact .inr ⟨g, cap, cur, h1, h2, (hg.block g (hlt g e1) (by omega)).trans h3, h4⟩
theorem Turn.thenB {g : Nat} {a b c : World} (h : Turn g a b) (k : Below a.heap.size b c) : Turn g a c :=
 ⟨k.os.trans h.os, k.tape.trans h.tape, k.output.trans h.output, Nat.le_trans h.size k.size, fun i hi hr => (k.block i hi).trans (h.block i hi hr)⟩
/-- Two slices of the call's own lie apart. -/
def Apart (a b : Value) : Prop := ∀ g, a.ownBlock = some g → some g ≠ b.ownBlock
theorem Apart.swap {a b : Value} (h : Apart a b) : Apart b a := fun g hg e => h g (e.symm.trans rfl) hg.symm
theorem Apart.grow {a b a' : Value} {m : Nat} (h : Apart a b) (hb : ∀ g, b.ownBlock = some g → g < m) (ha : a'.ownBlock = a.ownBlock ∨ a'.ownBlock = some (m + 1)) : Apart a' b := by
 intro g hg e
 rcases ha with ha | ha
 ·exact h g (ha ▸ hg) e
 ·rw [ha] at hg
  have := hb g e.symm
  injection hg with hg
  omega
theorem RdL.turn {w w' : World} {b g : Nat} {A : Option Addr} {l : List Int} (h : RdL w b A 1 encInt l) (ht : Turn g w w') (hb : b ≤ w.heap.size) (hne : ∀ q off, A = some ⟨q, off, none⟩ → q ≠ g) : RdL w' b A 1 encInt l := by
 rcases h with h | ⟨q, off, rfl, hg, hc⟩
 ·exact .inl h
 ·exact .inr ⟨q, off, rfl, hg, fun i hi j v hv => (ht.cell (p := ⟨q, _, none⟩) (Nat.lt_of_lt_of_le hg hb) (hne q off rfl)).trans (hc i hi j v hv)⟩
theorem Grow.lo {α : Type} {enc : α → List Value} {w : World} {base base' : Nat} {e : TypeId} {size : Nat} {v : Value} {l : List α} (h : Grow w base e size enc v l) (hb : base' ≤ base) : Grow w base' e size enc v l := by
 refine ⟨h.1, ?_⟩
 rcases h.2 with h1 | ⟨g, cap, cur, h1, h2, h3⟩
 ·exact .inl h1
 ·exact .inr ⟨g, cap, cur, h1, Nat.le_trans hb h2, h3⟩
theorem frozen_of_turn {g b : Nat} {w w' : World} (h : Turn g w w') (hb : b < w.heap.size) (hne : b ≠ g) (i : Nat) : w'.frozen? ⟨b, i, none⟩ = w.frozen? ⟨b, i, none⟩ := by
 have := h.block b hb (by omega)
 simp only [World.frozen?, this]
end Go.Proofs.YtkegbbndmfnolaaGreatDoor
