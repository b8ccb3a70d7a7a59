import Derived.Test.YtbfhfnejppfehaaDoorMRingTouchL23
import Derived.Test.YtbfhfnejppfehaaDoorMRingTouchL06
import Derived.Test.YtbfhfnejppfehaaDoorMRingTouchL11
import Derived.Test.YtbfhfnejppfehaaDoorMRingTouchL01
import Derived.Test.YtbfhfnejppfehaaDoorMRingTouchL02
import Derived.Test.YtbfhfnejppfehaaDoorMRingTouchL16
import Derived.Deep.Slices
import Derived.Test.YtbfhfnejppfehaaDoorMRingTouchL03
import Derived.Test.YtbfhfnejppfehaaDoorMRingTouchL19
import Derived.Test.YtbfhfnejppfehaaDoorMRingTouchL00
import Derived.Test.YtbfhfnejppfehaaDoorMRingTouchL05
/-
  PlayBand: contracts of both sides.
-/
namespace Go.Proofs.YtbfhfnejppfehaaDoor
open Go.RowKit
set_option linter.unusedVariables false
set_option linter.unusedSimpArgs false
set_option maxRecDepth 100000





open Classical in
/-- What PlayBand answers. -/
noncomputable def playBD (b : Bnd) (l : List Act_) : Bd × List ByteArray × Bool := if bandP b ∧ l.length ≤ 400 then ((playS b.bd l l.length).1, (playS b.bd l l.length).2, true) else (Bd.zero, [], false)
/-- A band and its rows in a value: their blocks lie apart. -/
def PlayAt (d : Bd) (rows : List ByteArray) (ok : Bool) (u : Value) (lo hi : Nat) (w : World) : Prop := ∃ v A c gw l2 h2, u = .tuple #[v, .slice A rows.length c, .bool ok] ∧ lo ≤ l2 ∧ l2 ≤ h2 ∧ h2 ≤ hi ∧ lo ≤ gw ∧ gw + 1 ≤ hi ∧ (gw + 1 ≤ l2 ∨ h2 ≤ gw) ∧ BdAt d v l2 h2 w ∧ OwnL w gw (gw + 1) A 1 encString rows
def PlayB (r : Bd × List ByteArray × Bool) (w : World) (e : Ending) (w' : World) : Prop := ∃ u, e = .returned u ∧ PlayAt r.1 r.2.1 r.2.2 u w.heap.size w'.heap.size w' ∧ Below w.heap.size w w'
theorem playBD_small {b : Bnd} {l : List Act_} (h : b.m.x.length ≤ 1048576) (hr : b.rx.length ≤ 1048576) (hl : l.length ≤ 1048576) : (playBD b l).1.x.length ≤ 1048576 ∧ (playBD b l).1.rx.length ≤ 1048576 ∧ (playBD b l).2.1.length ≤ 1048576 := by
  unfold playBD
  split
  · rename_i hc
    have h1 := (playS_keep (d := b.bd) (l := l) l.length).1
    have h2 := playS_inv (d := b.bd) (l := l) hc.1 l.length
    have h3 := h2.1.2.2.2.2.1
    have h4 := h2.1.1.1.2.stage.2
    refine ⟨by show (playS b.bd l l.length).1.x.length ≤ _; rw [h1]; exact h, ?_, Nat.le_trans h2.2.1 hl⟩
    show (playS b.bd l l.length).1.rx.length ≤ _
    have h5 : ((playS b.bd l l.length).1.rx.length : Int) = (playS b.bd l l.length).1.stage := h3
    have h6 : (playS b.bd l l.length).1.stage ≤ 8 := h4
    omega
  · exact ⟨Nat.zero_le _, Nat.zero_le _, Nat.zero_le _⟩
theorem playB_of {f : FuncId} {args : Array Value} {w : World} {b b' : Bnd} {l : List Act_} {dd : Bd} {rr : List ByteArray} {ok : Bool} (hD : playBD b l = (dd, rr, ok)) (hm : playBD b' l = playBD b l) (h : Calls Tryd.prog f args w fun e w' => PlayB (playBD b' l) w e w') : Calls Tryd.prog f args w fun e w' => ∃ u, e = .returned u ∧ PlayAt dd rr ok u w.heap.size w'.heap.size w' ∧ Below w.heap.size w w' := by
  rw [hm, hD] at h; exact h
theorem loc_play (d : Bd) (rows : List ByteArray) (ok : Bool) (u : Value) (lo hi : Nat) : GLoc ⟨lo, hi, fun w => PlayAt d rows ok u lo hi w, true⟩ :=
  loc_ex fun _ => loc_ex fun _ => loc_ex fun _ => loc_ex fun gw => loc_ex fun l2 => loc_ex fun h2 => loc_imp fun _ => loc_imp fun h1 => loc_imp fun h2 => loc_imp fun h3 => loc_imp fun h4 => loc_imp fun h5 => loc_imp fun _ => loc_and (loc_ex fun _ => loc_ex fun _ => loc_ex fun _ => loc_ex fun _ => loc_ex fun gs => loc_imp fun _ => loc_imp fun k1 => loc_imp fun k2 => loc_and (loc_own h1 (by omega)) (loc_own (by omega) h3)) (loc_own h4 h5)




end Go.Proofs.YtbfhfnejppfehaaDoor

/-
  The bells of a band that are wrong, and the actions that put them right: contracts of both sides.
-/
namespace Go.Proofs.YtbfhfnejppfehaaDoor
open Go.RowKit
set_option linter.unusedVariables false
set_option linter.unusedSimpArgs false
set_option maxRecDepth 100000

/-- The bells, up to the first k, whose ringers are elsewhere. -/
def wrongTo (t : ByteArray) (l : List Rgr) : Nat → List Int
  | 0 => []
  | k + 1 => match l[k]? with
    | some r => if r.place = placeS t ((k : Int) + 1) then wrongTo t l k else wrongTo t l k ++ [(k : Int) + 1]
    | none => wrongTo t l k
theorem wrongTo_y {t : ByteArray} {l : List Rgr} {k : Nat} (hk : k < l.length) (h : l[k].place = placeS t ((k : Int) + 1)) : wrongTo t l (k + 1) = wrongTo t l k := by
  simp only [wrongTo, List.getElem?_eq_getElem hk]; rw [if_pos h]
theorem wrongTo_n {t : ByteArray} {l : List Rgr} {k : Nat} (hk : k < l.length) (h : ¬ l[k].place = placeS t ((k : Int) + 1)) : wrongTo t l (k + 1) = wrongTo t l k ++ [(k : Int) + 1] := by
  simp only [wrongTo, List.getElem?_eq_getElem hk]; rw [if_neg h]
theorem wrongTo_len (t : ByteArray) (l : List Rgr) : ∀ k, (wrongTo t l k).length ≤ k
  | 0 => by simp [wrongTo]
  | k + 1 => by
    have ih := wrongTo_len t l k
    simp only [wrongTo]
    split
    · split
      · omega
      · simp; omega
    · omega





end Go.Proofs.YtbfhfnejppfehaaDoor

/-
  A slice inside a value, opened: it reads as a list.
-/
namespace Go.Proofs.YtbfhfnejppfehaaDoor
open Go.RowKit Go.ChangeShapes Go.WideShapes Go.Deep
set_option linter.unusedVariables false
set_option linter.unusedSimpArgs false

section
variable {H : Type} {enc : TypeId × Value → H} {P : Program} {w : World} {base : Nat} {spare : Nat → Bool} {held : Bool}
/-- A slice inside a value, opened: it reads as a list. -/
theorem open_list_cs {α : Type} {t e : TypeId} {n : Nat} {cs0 : List Value} {y : DataW H × List MemPlace} (ht : P.underlying t = some (.slice e)) (C : Nat) (hC : P.cellsOf e = C) (hC0 : 0 < C)
    (en : α → List Value) (ok : α → Prop) (hel : ∀ (n : Nat) (cs : List Value) (y : DataW H × List MemPlace), DataW.trod enc P w base spare held n e cs = some y → ∃ x : α, cs = en x ∧ ok x)
    (h : DataW.trod enc P w base spare held n t cs0 = some y) :
    ∃ (A : Option Addr) (l : List α) (c : Nat), cs0 = [.slice A l.length c] ∧ l.length ≤ maxLen ∧ RdL w w.heap.size A C en l ∧ ∀ x ∈ l, ok x := by
  rcases open_slice ht h with ⟨h0, _⟩ | ⟨a, len', cap', m, n, D, Pl, hcs, _, hl, hm, hmm, _, hi⟩
  · exact ⟨none, [], 0, h0, by simp, .inl rfl, by simp⟩
  · have hle : len' ≤ m := by rw [hmm]; split <;> omega
    obtain ⟨l, hlen, hq⟩ := choose_list (fun i x => (∀ (j : Nat) (u : Value), (en x)[j]? = some u → w.cell? (a.add (i * C + j)) = some u) ∧ ok x) len' (fun i hi' => by
      obtain ⟨cs', hc, ht'⟩ := hi i (by omega)
      obtain ⟨x, rfl, hok⟩ := hel _ _ _ ht'
      rw [hC] at hc
      obtain ⟨_, hcl, hat⟩ := World.cells?_some hc
      refine ⟨x, fun j u hu => ?_, hok⟩
      have hj : j < C := by rw [← hcl]; exact (List.getElem?_eq_some_iff.1 hu).1
      rw [← Go.Deep.add_add, hat j hj, hu])
    subst hlen
    refine ⟨some a, l, cap', hcs, by omega, ?_, fun x hx => ?_⟩
    · rcases Nat.eq_zero_or_pos l.length with h0 | hpos
      · exact .inl (List.eq_nil_of_length_eq_zero h0)
      · obtain ⟨cs', hc, ht'⟩ := hi 0 (by omega)
        obtain ⟨x, rfl, _⟩ := hel _ _ _ ht'
        rw [hC] at hc
        obtain ⟨_, hcl, hat⟩ := World.cells?_some hc
        have h00 := hat 0 hC0
        have hadd : (a.add (0 * C)).add 0 = a := by rw [Nat.zero_mul]; unfold Addr.add; simp
        rw [hadd, List.getElem?_eq_getElem (by omega)] at h00
        have hlt := World.block_lt_of_cell? _ _ h00
        obtain ⟨g, off, sp⟩ := a
        have hsp : sp = none := by
          unfold World.cell? at h00
          split at h00
          · cases sp with
            | none => rfl
            | some _ => simp at h00
          · cases h00
        subst hsp
        refine .inr ⟨g, off, rfl, hlt, fun i hi' j u hu => ?_⟩
        have := (hq i hi').1 j u hu
        have e : (⟨g, off, none⟩ : Addr).add (i * C + j) = ⟨g, off + (i * C + j), none⟩ := by unfold Addr.add; split <;> simp_all
        rw [e] at this
        exact this
    · obtain ⟨i, hi', rfl⟩ := List.getElem_of_mem hx
      exact (hq i hi').2
end

end Go.Proofs.YtbfhfnejppfehaaDoor

/-
  A law's arguments, opened: a method, its calls, a band.
-/
namespace Go.Proofs.YtbfhfnejppfehaaDoor
open Go.ChangeShapes Go.WideShapes Go.ChangeAt Go.RowKit Go.Deep
set_option linter.unusedVariables false
set_option linter.unusedSimpArgs false
set_option maxRecDepth 100000

theorem Method_el {H : Type} {en : TypeId × Value → H} {w : World} {base : Nat} {spare : Nat → Bool} {held : Bool} (n : Nat) (cs : List Value) (y : DataW H × List MemPlace) (h : DataW.trod en Tryd.prog w base spare held n 24 cs = some y) :
    ∃ x : Mth, cs = Mth.enc x ∧ (x.Fits ∧ RdL w w.heap.size x.A 1 encString x.x ∧ (-9223372036854775808 ≤ x.stage ∧ x.stage ≤ 9223372036854775807)) := by
  obtain ⟨xs, m, _, _, hlen, hxl, hg⟩ := DataW.trod_struct Tryd.underlying24 h
  have hC : Tryd.prog.cellsOf 24 = 3 := by kernel_rfl
  have hC_string : Tryd.prog.cellsOf 9 = 1 := by kernel_rfl
  have hC_int : Tryd.prog.cellsOf 3 = 1 := by kernel_rfl
  have hC_sl : Tryd.prog.cellsOf 22 = 1 := by kernel_rfl
  rw [hC] at hlen
  match cs, hlen, xs, hxl with
  | [c0, c1, c2], _, [x0, x1, x2], _ =>
    have g0 := hg 0 _ rfl
    simp only [hC_string, List.drop_zero, List.drop_succ_cons, List.take_succ_cons, List.take_zero, List.getElem?_cons_zero, List.getElem?_cons_succ] at g0
    obtain ⟨a0, e0, _, s0⟩ := DataW.trod_string Tryd.underlying9 g0
    injection e0 with e0 _
    subst e0
    have g1 := hg 1 _ rfl
    simp only [hC_int, List.drop_zero, List.drop_succ_cons, List.take_succ_cons, List.take_zero, List.getElem?_cons_zero, List.getElem?_cons_succ] at g1
    obtain ⟨a1, e1, _, s1⟩ := DataW.trod_int Tryd.underlying3 g1
    injection e1 with e1 _
    subst e1
    have g2 := hg 2 _ rfl
    simp only [hC_sl, List.drop_zero, List.drop_succ_cons, List.take_succ_cons, List.take_zero, List.getElem?_cons_zero, List.getElem?_cons_succ] at g2
    obtain ⟨A, l, c, e2, hl, hr, hs⟩ := open_list_cs Tryd.underlying22 1 (by kernel_rfl) (by omega) encString (String_small 9223372036854775807) String_el g2
    injection e2 with e2 _
    subst e2
    refine ⟨⟨a0, a1, l, A, c⟩, rfl, ⟨?_, ?_, hs⟩, hr, ?_⟩
    · unfold maxLen at s0; simp only; omega
    · unfold maxLen at hl; simp only; omega
    · simp [Lit.wf, IntKind.min, IntKind.max, IntKind.signed, IntKind.bits] at s1; simp only; omega
theorem Calls_el {H : Type} {en : TypeId × Value → H} {w : World} {base : Nat} {spare : Nat → Bool} {held : Bool} (n : Nat) (cs : List Value) (y : DataW H × List MemPlace) (h : DataW.trod en Tryd.prog w base spare held n 26 cs = some y) :
    ∃ x : ByteArray × ByteArray, cs = [.string x.1, .string x.2] ∧ ((x.1.size : Int) ≤ 9223372036854775807 ∧ (x.2.size : Int) ≤ 9223372036854775807) := by
  obtain ⟨xs, m, _, _, hlen, hxl, hg⟩ := DataW.trod_struct Tryd.underlying26 h
  have hC : Tryd.prog.cellsOf 26 = 2 := by kernel_rfl
  have hC_string : Tryd.prog.cellsOf 9 = 1 := by kernel_rfl
  rw [hC] at hlen
  match cs, hlen, xs, hxl with
  | [c0, c1], _, [x0, x1], _ =>
    have g0 := hg 0 _ rfl
    simp only [hC_string, List.drop_zero, List.drop_succ_cons, List.take_succ_cons, List.take_zero, List.getElem?_cons_zero, List.getElem?_cons_succ] at g0
    obtain ⟨a0, e0, _, s0⟩ := DataW.trod_string Tryd.underlying9 g0
    injection e0 with e0 _
    subst e0
    have g1 := hg 1 _ rfl
    simp only [hC_string, List.drop_zero, List.drop_succ_cons, List.take_succ_cons, List.take_zero, List.getElem?_cons_zero, List.getElem?_cons_succ] at g1
    obtain ⟨a1, e1, _, s1⟩ := DataW.trod_string Tryd.underlying9 g1
    injection e1 with e1 _
    subst e1
    refine ⟨⟨a0, a1⟩, rfl, ?_, ?_⟩
    · unfold maxLen at s0; simp only; omega
    · unfold maxLen at s1; simp only; omega
end Go.Proofs.YtbfhfnejppfehaaDoor

/-
  The actions that put a band right: contracts of both sides, and the law.
-/
namespace Go.Proofs.YtbfhfnejppfehaaDoor
open Go.RowKit Go.ChangeShapes Go.WideShapes Go.Deep
set_option linter.unusedVariables false
set_option linter.unusedSimpArgs false
set_option maxRecDepth 100000

/-- The action that tells the ringer of a bell. -/
def tellA (n : Int) : Act_ := ⟨5, n, 0, ⟨#[]⟩⟩
/-- The actions that tell these bells' ringers. -/
def tellL (l : List Int) : List Act_ := l.map tellA
theorem tellL_len (l : List Int) : (tellL l).length = l.length := List.length_map _
theorem tellL_succ (l : List Int) (k : Nat) (hk : k < l.length) : tellL (l.take (k + 1)) = tellL (l.take k) ++ [tellA l[k]] := by
  unfold tellL; rw [List.take_succ_eq_append_getElem hk, List.map_append]; rfl





end Go.Proofs.YtbfhfnejppfehaaDoor

/-
  Contracts: rows behind changes, lead heads with a call (both sides).
-/
namespace Go.Proofs.YtbfhfnejppfehaaDoor
open Go.RowKit
set_option linter.unusedVariables false
set_option linter.unusedSimpArgs false
set_option maxRecDepth 100000

/-- '[]T{x, ..}': a new block. -/
theorem Grow.lit {α : Type} {w : World} {b : Nat} {e : TypeId} {size : Nat} {enc : α → List Value} (ys : List α) {news : List Value} (hn : news = flat enc ys) (hb : b ≤ w.heap.size) (hl : ys.length ≤ maxLen) (henc : ∀ x, (enc x).length = size) :
    Grow (w.alloc (.cells news.toArray e)) b e size enc (.slice (some ⟨w.heap.size, 0, none⟩) ys.length ys.length) ys := by
  subst hn
  have h1 := flat_len henc ys
  exact ⟨h1, .inr ⟨w.heap.size, ys.length, (flat enc ys).toArray, rfl, hb, heap_alloc_new w _, Nat.le_refl _, hl, by simpa using h1, by rw [List.take_of_length_le (by simpa using Nat.le_of_eq h1)]⟩⟩
def chgOk (x : List ByteArray) : Prop := ∀ c ∈ x, c.size ≤ 1048576 ∧ chgTxt c
theorem chgOk_of {n : Int} {x : List ByteArray} (h : ∀ (i : Nat) (hi : i < x.length), changeP n x[i]) : chgOk x := fun c hc => by
  obtain ⟨i, hi, rfl⟩ := List.getElem_of_mem hc
  exact ⟨by have := (h i hi).size; omega, (h i hi).txt⟩

end Go.Proofs.YtbfhfnejppfehaaDoor

/-
  Contracts: lead heads with a call (both sides).
-/
namespace Go.Proofs.YtbfhfnejppfehaaDoor
open Go.RowKit
set_option linter.unusedVariables false
set_option linter.unusedSimpArgs false
set_option maxRecDepth 100000










end Go.Proofs.YtbfhfnejppfehaaDoor

/-
  Contracts: the heads of a touch, whether it comes round (the reference's side).
-/
namespace Go.Proofs.YtbfhfnejppfehaaDoor
open Go.RowKit
set_option linter.unusedVariables false
set_option linter.unusedSimpArgs false
set_option maxRecDepth 100000

theorem Grow.capN' {α : Type} {w : World} {base : Nat} {e : TypeId} {size : Nat} {enc : α → List Value} {l : List α} {A : Option Addr} {n c : Nat} (h : Grow w base e size enc (.slice A n c) l) : n ≤ c := by
  rcases h.2 with ⟨h1, h2⟩ | ⟨g, cap, cur, h1, h2, h3, h4, h5, _⟩
  · injection h1 with _ e1 e2; omega
  · injection h1 with _ e1 e2; omega
theorem RdL.take {α : Type} {w : World} {b : Nat} {A : Option Addr} {size : Nat} {enc : α → List Value} {l : List α} (h : RdL w b A size enc l) (m : Nat) : RdL w b A size enc (l.take m) := by
  rcases h with h | ⟨g, off, hA, hg, hc⟩
  · exact .inl (by subst h; simp)
  · refine .inr ⟨g, off, hA, hg, fun i hi j u hu => hc i (by simp at hi; omega) j u ?_⟩
    rw [List.getElem_take] at hu; exact hu





end Go.Proofs.YtbfhfnejppfehaaDoor

/-
  The cycles of a finite bijection, and its points set aside one by one: as many are moved as the cycles' lengths less one: plain.
-/
set_option linter.unusedVariables false
set_option linter.unusedSimpArgs false
namespace Go.Proofs.YtbfhfnejppfehaaDoor.CycT
/-- From x through l to y: each is sent to the next. -/
def path (f : Nat → Nat) : Nat → List Nat → Nat → Prop
  | x, [], y => f x = y
  | x, z :: l, y => f x = z ∧ path f z l y
theorem path_app {f : Nat → Nat} {k : Nat} {v : List Nat} {y : Nat} : ∀ {u : List Nat} {x : Nat}, path f x (u ++ k :: v) y ↔ path f x u k ∧ path f k v y
  | [], x => by simp [path]
  | z :: u, x => by simp only [List.cons_append, path, path_app (u := u), and_assoc]
theorem path_congr {f g : Nat → Nat} : ∀ {l : List Nat} {x y : Nat}, (∀ z, z = x ∨ z ∈ l → f z = g z) → path f x l y → path g x l y
  | [], x, y, h, hp => by simp only [path] at *; rw [← h x (.inl rfl)]; exact hp
  | z :: l, x, y, h, hp => by
    simp only [path] at *
    refine ⟨by rw [← h x (.inl rfl)]; exact hp.1, path_congr (fun t ht => h t (.inr (by rcases ht with rfl | ht <;> simp [*]))) hp.2⟩
/-- The last of a path is sent to its end. -/
theorem path_last {f g : Nat → Nat} {k y : Nat} : ∀ {l : List Nat} {x : Nat}, (x :: l).Nodup → (∀ z, z ∈ x :: l → f z ≠ k → g z = f z) → (∀ z, z ∈ x :: l → f z = k → g z = y) → k ∉ l → path f x l k → path g x l y
  | [], x, _, h1, h2, _, hp => by simp only [path] at *; exact h2 x (by simp) hp
  | z :: l, x, hn, h1, h2, hk, hp => by
    simp only [path] at *
    have hz : z ≠ k := fun e => hk (by simp [e])
    have hx : f x ≠ k := by rw [hp.1]; exact hz
    refine ⟨by rw [h1 x (by simp) hx]; exact hp.1, path_last (List.nodup_cons.1 hn).2 (fun t ht => h1 t (List.mem_cons_of_mem _ ht)) (fun t ht => h2 t (List.mem_cons_of_mem _ ht)) (fun e => hk (List.mem_cons_of_mem _ e)) hp.2⟩
/-- A cycle: a point and what follows. -/
abbrev Cy := Nat × List Nat
def Cy.all (c : Cy) : List Nat := c.1 :: c.2
def Cy.ok (f : Nat → Nat) (c : Cy) : Prop := path f c.1 c.2 c.1
def flat (C : List Cy) : List Nat := C.flatMap Cy.all
def excess : List Cy → Nat
  | [] => 0
  | c :: C => c.2.length + excess C
structure Dec (n : Nat) (f : Nat → Nat) (C : List Cy) : Prop where
  ok : ∀ c ∈ C, c.ok f
  nd : (flat C).Nodup
  cov : ∀ i, i < n → f i ≠ i → i ∈ flat C
/-- One point set aside: what is sent to it is sent on. -/
def aside (f : Nat → Nat) (k : Nat) : Nat → Nat := fun i => if i = k then k else if f i = k then f k else f i
theorem excess_app (A B : List Cy) : excess (A ++ B) = excess A + excess B := by
  induction A with
  | nil => simp [excess]
  | cons c A ih => simp [excess, ih, Nat.add_assoc]
theorem flat_app (A B : List Cy) : flat (A ++ B) = flat A ++ flat B := by simp [flat]
theorem flat_cons (c : Cy) (B : List Cy) : flat (c :: B) = c.all ++ flat B := by simp [flat]
theorem path_mem {f : Nat → Nat} {y : Nat} : ∀ {l : List Nat} {x z : Nat}, path f x l y → z ∈ x :: l → f z ∈ l ∨ f z = y
  | [], x, z, hp, hz => by simp only [path] at hp; have : z = x := by simpa using hz
                           subst this; exact .inr hp
  | t :: l, x, z, hp, hz => by
    simp only [path] at hp
    rcases List.mem_cons.1 hz with rfl | hz
    · left; rw [hp.1]; simp
    · rcases path_mem hp.2 hz with h | h
      · exact .inl (List.mem_cons_of_mem _ h)
      · exact .inr h
theorem Dec.aside {n : Nat} {f : Nat → Nat} {C : List Cy} (h : Dec n f C) (hf : ∀ i, i < n → f i < n) (hi : ∀ i j, i < n → j < n → f i = f j → i = j) (hb : ∀ x ∈ flat C, x < n) {k : Nat} (hk : k < n) (hne : f k ≠ k) :
    ∃ C', Dec n (aside f k) C' ∧ excess C = excess C' + 1 ∧ ∀ x ∈ flat C', x < n := by
  have hm := h.cov k hk hne
  obtain ⟨c, hc, hkc⟩ : ∃ c ∈ C, k ∈ c.all := by simpa [flat] using hm
  obtain ⟨A, B, rfl⟩ := List.append_of_mem hc
  -- rotated so that k stands first
  obtain ⟨l, hl, hlen, hperm⟩ : ∃ l, path f k l k ∧ l.length = c.2.length ∧ (k :: l).Perm c.all := by
    obtain ⟨x, m⟩ := c
    have ho := h.ok _ hc
    rcases List.mem_cons.1 hkc with e | e
    · simp only at e; subst e; exact ⟨m, ho, rfl, List.Perm.refl _⟩
    · simp only at e
      obtain ⟨u, v, rfl⟩ := List.append_of_mem e
      have hp := path_app.1 ho
      refine ⟨v ++ x :: u, path_app.2 ⟨hp.2, hp.1⟩, by simp; omega, ?_⟩
      show (k :: (v ++ x :: u)).Perm (x :: (u ++ k :: v))
      have e1 : (k :: v ++ x :: u).Perm (x :: u ++ k :: v) := List.perm_append_comm
      simpa using e1
  have hnd := h.nd
  rw [flat_app, flat_cons] at hnd
  have hnd2 : (flat A ++ ((k :: l) ++ flat B)).Nodup := (((hperm.append_right (flat B)).append_left (flat A)).nodup_iff).2 hnd
  cases l with
  | nil => exact absurd hl hne
  | cons x l =>
    have hpx : path f x l k := hl.2
    have hkx : f k = x := hl.1
    have hmid := (List.nodup_append.1 hnd2)
    have hmid2 := List.nodup_append.1 hmid.2.1
    have hkn : k ∉ x :: l := (List.nodup_cons.1 hmid2.1).1
    have hxl : (x :: l).Nodup := (List.nodup_cons.1 hmid2.1).2
    have hbx : ∀ z ∈ k :: x :: l, z < n := fun z hz => hb z (by rw [flat_app, flat_cons]; simp only [List.mem_append]; exact .inr (.inl (hperm.subset hz)))
    have hsub : ∀ z, z ∈ flat (A ++ (x, l) :: B) → z ∈ flat (A ++ c :: B) := by
      intro z hz
      rw [flat_app, flat_cons, List.mem_append, List.mem_append] at hz ⊢
      rcases hz with hz | hz | hz
      · exact .inl hz
      · exact .inr (.inl (hperm.subset (List.mem_cons_of_mem _ hz)))
      · exact .inr (.inr hz)
    -- the point that is sent to k lies in the cycle
    have hpre : ∀ z, z < n → f z = k → z ∈ x :: l := by
      intro z hz e
      -- the last of the path
      have : ∀ {l : List Nat} {x : Nat}, path f x l k → ∃ t ∈ x :: l, f t = k := by
        intro l
        induction l with
        | nil => intro x hp; exact ⟨x, by simp, hp⟩
        | cons y l ih =>
          intro x hp
          obtain ⟨t, ht, he⟩ := ih hp.2
          exact ⟨t, List.mem_cons_of_mem _ ht, he⟩
      obtain ⟨t, ht, he⟩ := this hpx
      have := hi t z (hbx t (List.mem_cons_of_mem _ ht)) hz (by rw [he, e])
      rw [← this]; exact ht
    refine ⟨A ++ (x, l) :: B, ⟨?_, ?_, ?_⟩, ?_, ?_⟩
    · intro c' hc'
      have other : ∀ c' ∈ A ++ B, c'.ok (CycT.aside f k) := by
        intro c' hc'
        have hok : c'.ok f := h.ok c' (by rcases List.mem_append.1 hc' with h1 | h1 <;> simp [h1])
        refine path_congr (fun z hz => ?_) hok
        have hz' : z ∈ c'.all := by rcases hz with rfl | hz; exact List.mem_cons_self; exact List.mem_cons_of_mem _ hz
        have hzf : z ∈ flat A ∨ z ∈ flat B := by
          rcases List.mem_append.1 hc' with h1 | h1
          · exact .inl (List.mem_flatMap.2 ⟨c', h1, hz'⟩)
          · exact .inr (List.mem_flatMap.2 ⟨c', h1, hz'⟩)
        have hnin : z ∉ k :: x :: l := by
          intro e
          rcases hzf with h1 | h1
          · exact hmid.2.2 z h1 z (List.mem_append.2 (.inl e)) rfl
          · exact hmid2.2.2 z e z h1 rfl
        have hzn : z < n := hb z (by rw [flat_app, flat_cons]; rcases hzf with h1 | h1 <;> simp [h1])
        unfold CycT.aside
        rw [if_neg (fun e => hnin (by simp [e])), if_neg (fun e => hnin (List.mem_cons_of_mem _ (hpre z hzn e)))]
      rcases List.mem_append.1 hc' with h1 | h1
      · exact other c' (List.mem_append.2 (.inl h1))
      · rcases List.mem_cons.1 h1 with rfl | h1
        · refine path_last hxl (fun z hz hzk => ?_) (fun z hz hzk => ?_) (fun e => hkn (List.mem_cons_of_mem _ e)) hpx
          · unfold CycT.aside; rw [if_neg (fun e => hkn (by rw [← e]; exact hz)), if_neg hzk]
          · unfold CycT.aside; rw [if_neg (fun e => hkn (by rw [← e]; exact hz)), if_pos hzk]; exact hkx
        · exact other c' (List.mem_append.2 (.inr h1))
    · rw [flat_app, flat_cons]
      refine hnd2.sublist ?_
      exact List.Sublist.append (List.Sublist.refl _) (List.Sublist.append (List.sublist_cons_self _ _) (List.Sublist.refl _))
    · intro i hin hne'
      unfold CycT.aside at hne'
      have hik : i ≠ k := fun e => by rw [if_pos e] at hne'; exact hne' e.symm
      rw [if_neg hik] at hne'
      have hfi : f i ≠ i := by
        intro e
        rw [if_neg (by rw [e]; exact hik)] at hne'
        exact hne' e
      have hmi := h.cov i hin hfi
      rw [flat_app, flat_cons, List.mem_append, List.mem_append] at hmi ⊢
      rcases hmi with h1 | h1 | h1
      · exact .inl h1
      · have := hperm.symm.subset h1
        rcases List.mem_cons.1 this with e | e
        · exact absurd e hik
        · exact .inr (.inl e)
      · exact .inr (.inr h1)
    · rw [excess_app, excess_app]
      simp only [excess]
      have : c.2.length = l.length + 1 := by rw [← hlen]; rfl
      omega
    · intro z hz; exact hb z (hsub z hz)
/-- How many points are not at home when their turn comes, from k on. -/
def moved (n : Nat) : Nat → Nat → (Nat → Nat) → Nat
  | 0, _, _ => 0
  | m + 1, k, f => if f k = k then moved n m (k + 1) f else moved n m (k + 1) (aside f k) + 1
theorem aside_lt {n k : Nat} {f : Nat → Nat} (hf : ∀ i, i < n → f i < n) (hk : k < n) : ∀ i, i < n → aside f k i < n := by
  intro i hi; unfold aside; split
  · exact hk
  · split
    · exact hf k hk
    · exact hf i hi
theorem aside_inj {n k : Nat} {f : Nat → Nat} (hf : ∀ i, i < n → f i < n) (hi : ∀ i j, i < n → j < n → f i = f j → i = j) (hk : k < n) (hne : f k ≠ k) : ∀ i j, i < n → j < n → aside f k i = aside f k j → i = j := by
  intro i j h1 h2 e
  unfold aside at e
  by_cases a : i = k <;> by_cases b : j = k
  · rw [a, b]
  · rw [if_pos a, if_neg b] at e
    split at e
    · exact absurd e.symm hne
    · rename_i h; exact absurd e.symm h
  · rw [if_neg a, if_pos b] at e
    split at e
    · exact absurd e hne
    · rename_i h; exact absurd e h
  · rw [if_neg a, if_neg b] at e
    by_cases c : f i = k <;> by_cases d : f j = k
    · exact hi i j h1 h2 (by rw [c, d])
    · rw [if_pos c, if_neg d] at e; exact absurd (hi k j hk h2 e) (fun x => b x.symm)
    · rw [if_neg c, if_pos d] at e; exact absurd (hi i k h1 hk e) a
    · rw [if_neg c, if_neg d] at e; exact hi i j h1 h2 e
theorem Dec.moved {n : Nat} : ∀ (m k : Nat) (f : Nat → Nat) (C : List Cy), k + m = n → Dec n f C → (∀ i, i < n → f i < n) → (∀ i j, i < n → j < n → f i = f j → i = j) → (∀ x ∈ flat C, x < n) → (∀ i, i < k → f i = i) → moved n m k f = excess C
  | 0, k, f, C, hkm, h, hf, hi, hb, h0 => by
    have hk : k = n := by omega
    subst hk
    have : ∀ D : List Cy, (∀ c ∈ D, c.ok f) → (flat D).Nodup → (∀ x ∈ flat D, x < k) → excess D = 0 := by
      intro D
      induction D with
      | nil => intros; rfl
      | cons c D ih =>
        intro ok nd bd
        rw [flat_cons] at nd bd
        have := ih (fun c' hc' => ok c' (List.mem_cons_of_mem _ hc')) (List.nodup_append.1 nd).2.1 (fun x hx => bd x (by simp [hx]))
        simp only [excess]
        obtain ⟨x, l⟩ := c
        cases l with
        | nil => simpa using this
        | cons y l =>
          have hp := ok _ List.mem_cons_self
          have hxy : f x = y := hp.1
          rw [h0 x (bd x (by simp [Cy.all]))] at hxy
          have hn := (List.nodup_append.1 nd).1
          have := (List.nodup_cons.1 hn).1
          exact absurd (by rw [hxy]; simp) this
    rw [this C h.ok h.nd hb]; rfl
  | m + 1, k, f, C, hkm, h, hf, hi, hb, h0 => by
    simp only [CycT.moved]
    split
    · rename_i e
      exact Dec.moved m (k + 1) f C (by omega) h hf hi hb (fun i hi => by rcases Nat.lt_or_eq_of_le (Nat.le_of_lt_succ hi) with x | rfl; exact h0 i x; exact e)
    · rename_i e
      obtain ⟨C', hd, hex, hb'⟩ := h.aside hf hi hb (show k < n by omega) e
      rw [hex, Dec.moved m (k + 1) (CycT.aside f k) C' (by omega) hd (aside_lt hf (by omega)) (aside_inj hf hi (by omega) e) hb' (fun i hik => ?_)]
      unfold CycT.aside
      split
      · rename_i x; exact x.symm
      · rename_i x
        have hfi := h0 i (by omega)
        rw [if_neg (by rw [hfi]; exact x)]
        exact hfi
end Go.Proofs.YtbfhfnejppfehaaDoor.CycT
