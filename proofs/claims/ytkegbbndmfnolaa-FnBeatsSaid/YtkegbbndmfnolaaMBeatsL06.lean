import Derived.Test.YtkegbbndmfnolaaMBeatsL05
import Derived.Test.YtkegbbndmfnolaaRows
import Derived.Test.YtkegbbndmfnolaaMBeatsL01
import Derived.Test.YtkegbbndmfnolaaMBeatsL02
import Derived.StillTailTactics
import Derived.Deep.RegionHeld3
import Derived.Test.YtkegbbndmfnolaaMBeatsL03
import Derived.Test.YtkegbbndmfnolaaMBeatsL00
import Derived.Deep.QuietTactic
import Derived.BigQuiet
import Derived.Maps.AppendAt
/-
  Contracts of chapter 1, the reference's side: products and inverses of rows; two rows of one stage.
-/
namespace Go.Proofs.Ytkegbbndmfnolaa
open Go.RowKit
set_option linter.unusedVariables false
set_option linter.unusedSimpArgs false
set_option maxRecDepth 100000

theorem l1At_k (s : ByteArray) (k : Nat) (p : Int) (w : World) (hp : p = k + 1) (h2 : k < s.size) (hs : s.size ≤ 1000000) (h3 : 48 ≤ bat s k) :
    Calls Try.prog 67 #[.string s, .int .i64 p] w fun e w' => e = .returned (.int .i64 (bat s k - 48)) ∧ w = w' := by
  have e : p - 1 = k := by omega
  have := l1At_any s p w (by omega) (by omega) (by omega) (by rw [e]; exact h3)
  rw [e] at this; exact this

theorem take_snoc {l : List Int} {k : Nat} (h : k < l.length) : l.take (k + 1) = l.take k ++ [l[k]] := List.take_succ_eq_append_getElem h
theorem mkS_snoc (l : List Int) (s : ByteArray) (v : Int) (hs : s.size = 1) (hv : bat s 0 = v) : mkS l ++ s = mkS (l ++ [v]) := by
  refine str_ext (by rw [size_app, size_mkS, size_mkS, hs]; simp) fun i hi => ?_
  rw [size_app, size_mkS, hs] at hi
  have h1 := bat_lo s 0
  have h2 := bat_hi s 0
  by_cases h : i < l.length
  · rw [bat_append_l _ _ _ (by rw [size_mkS]; exact h)]
    unfold bat mkS
    simp [List.getElem?_append_left, h]
  · obtain rfl : i = l.length := by omega
    have := bat_append_r (mkS l) s 0
    rw [size_mkS] at this
    rw [show (l.length : Nat) = l.length + 0 from rfl, this]
    rw [bat_mkS _ _ (by simp) (by simp; omega) (by simp; omega)]
    simp; exact hv

set_option maxHeartbeats 800000 in
theorem l1Times_any (a b : ByteArray) (w : World) (hb : b.size ≤ 1000000) (ha : a.size ≤ 1000000) (h : ∀ i : Nat, i < b.size → 49 ≤ bat b i ∧ bat b i < 49 + a.size) :
    Calls Try.prog 144 #[.string a, .string b] w fun e w' => e = .returned (.string (timesS a b)) ∧ w = w' := by
  have H := Lib.hid h
  clear h
  go_enter Try.func144, Try.ntmps144
  go_wp2
  go_loop [5, 6] (fun s i => ∃ (k : Nat) (o : ByteArray), k ≤ b.size ∧ i = .int .i64 (k + 1) ∧ s = .string o ∧ o.size ≤ k ∧ Hid (o = mkS ((timesL a b).take k))) (fun _ i => b.size + 1 - (intOf i).toNat)
  case atStart => exact ⟨0, ⟨#[]⟩, by omega, by rfl, rfl, by decide, rfl⟩
  case round =>
    obtain ⟨k, o, hk, rfl, rfl, ho, he⟩ := hrel
    by_cases hlt : k < b.size
    · obtain ⟨h1, h2⟩ := H.out k hlt
      have hy := bat_hi b k
      go_wp2_with (go_at_call 67; refine (l1At_k b k _ _ (by omega) hlt hb (by omega)).mono ?_; rintro e w' ⟨rfl, rfl⟩)
      go_round
      case rel =>
        have hsz : (a.extract ((bat b k - 48).toNat - 1) (bat b k - 48).toNat).size = 1 := by rw [size_ext]; omega
        refine ⟨k + 1, _, by omega, by go_num, rfl, by rw [size_app, hsz]; omega, ?_⟩
        have hl : k < (timesL a b).length := by simp [timesL]; omega
        show _ = _
        rw [take_snoc hl, he.out]
        refine mkS_snoc _ _ _ hsz ?_
        have := bat_ext a ((bat b k - 48).toNat - 1) (bat b k - 48).toNat 0 (by omega)
        rw [show ((0 : Nat) : Int) = 0 from rfl] at this
        rw [this]
        have e : (((bat b k - 48).toNat - 1 + 0 : Nat) : Int) = bat b k - 49 := by omega
        rw [e]; simp [timesL]
      case measure => simp [intOf]; omega
    · go_wp2
      go_ret
      exact ⟨by rw [he.out, List.take_of_length_le (by simp [timesL]; omega)]; rfl, rfl⟩

/-- Two rows of one stage. -/
def two (a b : ByteArray) : Prop := isRow a ∧ isRow b ∧ a.size = b.size
end Go.Proofs.Ytkegbbndmfnolaa
/-
  Contracts of the helper functions that the laws use for lists of String.
-/
namespace Go.Proofs.Ytkegbbndmfnolaa
open Go.RowKit Go.ChangeShapes Go.WideShapes
set_option linter.unusedVariables false
set_option linter.unusedSimpArgs false
set_option maxRecDepth 100000


def encString (x : ByteArray) : List Value := [.string x]
theorem encString_len (x : ByteArray) : (encString x).length = 1 := rfl
def String_small (lim : Int) (x : ByteArray) : Prop := (x.size : Int) ≤ lim
theorem String_info : (Try.prog.info? 9).map (fun i => (i.zero, i.size, i.bytes)) = some (some (.string ⟨#[]⟩), 1, 16) := by kernel_rfl

/-- What the marks make of a list of so many elements. -/
def markStringL (m q : Nat) : List ByteArray := (List.range m).map fun i : Nat => ((markT (q + i)) : ByteArray)
end Go.Proofs.Ytkegbbndmfnolaa
/-
  Contracts: lists of rows (both sides); two lists of rows of one length and stage.
-/
namespace Go.Proofs.Ytkegbbndmfnolaa
open Go.RowKit
set_option linter.unusedVariables false
set_option linter.unusedSimpArgs false
set_option maxRecDepth 100000

/-- The size of a list's first row. -/
def sz0 (l : List ByteArray) : Nat := match l with | [] => 0 | x :: _ => x.size
/-- A list of rows of one stage. -/
def rowsP (l : List ByteArray) : Prop := l.length ≤ 800 ∧ ∀ (i : Nat) (hi : i < l.length), isRow l[i] ∧ l[i].size = sz0 l


end Go.Proofs.Ytkegbbndmfnolaa

/-
  Words of our own that know no program: a whole list appended; an own list of integers written.
-/
namespace Go.Proofs.Ytkegbbndmfnolaa
open Go.RowKit
set_option linter.unusedVariables false
set_option linter.unusedSimpArgs false

theorem flat_inv {α : Type} {enc : α → List Value} {size : Nat} (henc : ∀ x, (enc x).length = size) : ∀ (l : List α) (j : Nat) (u : Value), (flat enc l)[j]? = some u → ∃ (i : Nat) (hi : i < l.length) (k : Nat), j = i * size + k ∧ (enc l[i])[k]? = some u
  | [], j, u, h => by simp [flat] at h
  | x :: l, j, u, h => by
    simp only [flat] at h
    by_cases hj : j < (enc x).length
    · rw [List.getElem?_append_left hj] at h
      exact ⟨0, by simp, j, by simp, by simpa using h⟩
    · rw [List.getElem?_append_right (by omega)] at h
      obtain ⟨i, hi, k, e, hk⟩ := flat_inv henc l _ u h
      rw [henc] at e hj
      exact ⟨i + 1, by simpa using hi, k, by rw [Nat.succ_mul]; omega, by simpa using hk⟩
section
variable {P : Program} {ops : Array Oper} {rest : List Oper} {o : Oper} {a : Act} {Q : Exit → Act → World → Prop} {w : World}
/-- 'l = append(l, ys...)': ys reads as a list that is not empty. -/
theorem wpList_pushAll {α : Type} (hgd : o.guard = none) (s x : Operand) (t : TypeId) (ho : o.op = .call { callee := .builtin .append, args := #[s, x], argTypes := #[t, t] })
    (base : Nat) (e : TypeId) (z : Value) (size bytes : Nat) (enc : α → List Value)
    (ht : P.underlying t = some (.slice e)) (hinfo : (P.info? e).map (fun i => (i.zero, i.size, i.bytes)) = some (some z, size, bytes)) (hzs : z.cells.size = size) (hsz : 0 < size)
    (v : Value) (l ys : List α) (A : Option Addr) (c b : Nat) (hs : a.eval s = v) (hx : a.eval x = .slice A ys.length c) (hr : RdL w b A size enc ys) (hne : 0 < ys.length)
    (hown : Grow w base e size enc v l) (henc : ∀ x, (enc x).length = size) (h1 : ∀ x, ∀ u ∈ enc x, u.oneCell' = true)
    (hn : l.length + ys.length ≤ 1000000000) (hb : bytes ≤ 1000) (hbase : base ≤ w.heap.size)
    (h : ∀ v' w', Grow w' base e size enc v' (l ++ ys) → Below base w w' → w.grownBy w' v.ownBlock → wpList P ops Q rest (a.put o.dst v') w') :
    wpList P ops Q (o :: rest) a w := by
  obtain ⟨i, hi, hzz⟩ := Option.map_eq_some_iff.1 hinfo
  simp only [Prod.mk.injEq] at hzz
  obtain ⟨hz, hs', hb'⟩ := hzz
  have hmul : (l.length + ys.length) * bytes ≤ 1000000000 * 1000 := Nat.mul_le_mul hn hb
  obtain ⟨g, off, hA, _, _⟩ := hr.at (k := 0) hne
  subst hA
  refine wpList_append_own (P := P) _ hgd s x t ho base e i z size bytes ht hi hz hs' hb' hzs hsz v l.length (flat enc l) hs hown ⟨g, off, none⟩ ys.length c (flat enc ys) hx (flat_len henc ys)
    (fun j u hu => by
      obtain ⟨i, hi, k, rfl, hk⟩ := flat_inv henc ys j u hu
      obtain ⟨g', off', hA', _, hcell⟩ := hr.at hi
      simp only [Option.some.injEq, Addr.mk.injEq, and_true] at hA'
      obtain ⟨rfl, rfl⟩ := hA'
      have e : (⟨g, off, none⟩ : Addr).add (i * size + k) = ⟨g, off + (i * size + k), none⟩ := by unfold Addr.add; split <;> simp_all
      rw [e]; exact hcell k u hk) (fun u hu => by
      obtain ⟨j, hj⟩ := List.getElem?_of_mem hu
      obtain ⟨i, hi, k, _, hk⟩ := flat_inv henc ys j u hj
      exact h1 _ u (List.mem_of_getElem? hk)) (by unfold maxLen; omega) (by omega) hbase ?_
  intro v' w' hown' hg _
  have hr : ∀ k, v.ownBlock = some k → base ≤ k := fun k hk => by
    rcases hown.2 with ⟨rfl, _⟩ | ⟨g, cap, cur, rfl, hbg, _⟩
    · simp [Value.ownBlock] at hk
    · simp [Value.ownBlock] at hk; omega
  refine h v' w' ?_ ?_ hg
  · unfold Grow
    rw [List.length_append, flat_append]
    exact hown'
  · exact (Below.refl base w).grown hg hbase hr
end
theorem Grow.capN {α : Type} {w : World} {base : Nat} {e : TypeId} {size : Nat} {enc : α → List Value} {l : List α} {A : Option Addr} {n c : Nat} (h : Grow w base e size enc (.slice A n c) l) : n ≤ c := by
  rcases h.2 with ⟨h1, h2⟩ | ⟨g, cap, cur, h1, h2, h3, h4, h5, _⟩
  · injection h1 with _ e1 e2; omega
  · injection h1 with _ e1 e2; omega
section
variable {w : World} {b c g : Nat} {l : List Int}
theorem OwnL.some_of {A : Option Addr} (h : OwnL w b c A 1 encInt l) (hl : 0 < l.length) : ∃ g, A = some ⟨g, 0, none⟩ ∧ b ≤ g ∧ g < c ∧ g < w.heap.size := by
  obtain ⟨g, f, hA, h1, h2, h3⟩ := h.cells hl
  exact ⟨g, hA, h1, h2, h3.lt⟩
theorem OwnL.cellInt (h : OwnL w b c (some ⟨g, 0, none⟩) 1 encInt l) (k : Nat) (hk : k < l.length) : w.cell? ⟨g, k, none⟩ = some (.int .i64 l[k]) ∧ w.frozen? ⟨g, k, none⟩ = false := by
  rcases h with h | ⟨g', f, hA, h1, h2, h3, h4⟩
  · subst h; simp at hk
  · simp only [Option.some.injEq, Addr.mk.injEq, and_true] at hA
    subst hA
    have := h4 k hk 0 _ rfl
    have hc := h3.cell (i := k) (by omega)
    rw [Nat.mul_one, Nat.add_zero] at this
    rw [this] at hc
    exact ⟨hc, h3.free (by omega)⟩
end
end Go.Proofs.Ytkegbbndmfnolaa

/-
  A region that draws its order, whose operations only read and whose callees only make new memory: one walk in the order of the text.
-/
namespace Go.Proofs.Ytkegbbndmfnolaa
open Go.RowKit
set_option linter.unusedVariables false
set_option linter.unusedSimpArgs false

/-- A world in which, below the heap's size of w, all is as in w. -/
structure Later (w : World) where
  W : World
  hb : Below w.heap.size w W
instance (w : World) : Inhabited (Later w) := ⟨⟨w, Below.refl _ _⟩⟩
theorem Later.call {P : Program} {f : FuncId} {args : Array Value} {w : World} {x : Later w} {v : Value} (h : Calls P f args x.W fun e w' => e = .returned v ∧ Below x.W.heap.size x.W w') :
    Calls P f args x.W fun e w'' => e = .returned v ∧ ∃ y : Later w, w'' = y.W :=
  h.mono fun _ w' ⟨he, hb⟩ => ⟨he, ⟨w', x.hb.trans (hb.mono x.hb.size)⟩, rfl⟩
theorem Later.same {P : Program} {f : FuncId} {args : Array Value} {w : World} {x : Later w} {v : Value} (h : Calls P f args x.W fun e w' => e = .returned v ∧ x.W = w') :
    Calls P f args x.W fun e w'' => e = .returned v ∧ ∃ y : Later w, w'' = y.W :=
  h.mono fun _ w' ⟨he, hb⟩ => ⟨he, x, hb.symm⟩
theorem calls_bool {P : Program} {f : FuncId} {args : Array Value} {w : World} {b b' : Bool} {R : World → Prop} (h : Calls P f args w fun e w' => e = .returned (.bool b) ∧ R w') (e : b = b') : Calls P f args w fun e w' => e = .returned (.bool b') ∧ R w' := by
  subst e; exact h
theorem Later.drew {P : Program} {f : FuncId} {args : Array Value} {w : World} {x : Later w} {v : Value} (h : Calls P f args x.W fun e w' => e = .returned v ∧ ∃ n, w' = x.W.drewN n) :
    Calls P f args x.W fun e w'' => e = .returned v ∧ ∃ y : Later w, w'' = y.W :=
  h.mono fun _ w' ⟨he, n, hb⟩ => ⟨he, ⟨w', by rw [hb]; exact below_drewN x.hb n⟩, rfl⟩
end Go.Proofs.Ytkegbbndmfnolaa

/-
  The sums of the errors of each bell: in plain words, and the contracts of both sides.
-/
namespace Go.Proofs.Ytkegbbndmfnolaa
open Go.RowKit
set_option linter.unusedVariables false
set_option linter.unusedSimpArgs false
set_option maxRecDepth 100000

def absI (e : Int) : Int := if e < 0 then -e else e
/-- The bell of a blow, from 0 on. -/
def bellIx (rows : List ByteArray) (x : Blw) : Nat := (bat (rows.getD x.row.toNat ⟨#[]⟩) (x.place - 1) - 49).toNat
/-- The sums behind the first k blows. -/
def worstTo (rows : List ByteArray) (l : List Blw) (es : List Int) (n : Nat) : Nat → List Int
  | 0 => List.replicate n 0
  | k + 1 => match l[k]?, es[k]? with
    | some x, some e => (worstTo rows l es n k).set (bellIx rows x) ((worstTo rows l es n k).getD (bellIx rows x) 0 + absI e)
    | _, _ => worstTo rows l es n k
/-- All is valid. -/
def base5 (es : List Int) (rows : List ByteArray) (l : List Blw) : Prop :=
  es.length ≤ 400 ∧ rowsP rows ∧ 0 < rows.length ∧ l.length = es.length ∧ blowsP (sz0 rows) l
def goodTo (es : List Int) (rows : List ByteArray) (l : List Blw) (k : Nat) : Prop := ∀ (j : Nat) (h1 : j < es.length) (h3 : j < l.length), j < k → inB es[j] (-10000000) 10000000 ∧ l[j].row < rows.length
def worstP (es : List Int) (rows : List ByteArray) (l : List Blw) : Prop := base5 es rows l ∧ goodTo es rows l es.length
end Go.Proofs.Ytkegbbndmfnolaa

/-
  Words of our own that know no program: a slice of elements that each hold a slice of integers: read, owned, made by append.
-/
namespace Go.Proofs.Ytkegbbndmfnolaa
open Go.RowKit
set_option linter.unusedVariables false
set_option linter.unusedSimpArgs false

section
variable {δ β : Type} {enc : δ → List Value} {size : Nat} {iA : δ → Option Addr} {ix : δ → List β} {eb : β → List Value} {ib : Nat}
/-- An outer slice that reads as a list of elements, each with an inner slice that reads as a list. -/
def RdN (w : World) (b : Nat) (A : Option Addr) (size : Nat) (enc : δ → List Value) (iA : δ → Option Addr) (ix : δ → List β) (ib : Nat) (eb : β → List Value) (D : List δ) : Prop :=
  RdL w b A size enc D ∧ ∀ d ∈ D, RdL w b (iA d) ib eb (ix d)
/-- All inner blocks lie apart, none is the outer one; all lie from b on, ahead of c. -/
def OwnN (w : World) (b c : Nat) (A : Option Addr) (size : Nat) (enc : δ → List Value) (iA : δ → Option Addr) (ix : δ → List β) (ib : Nat) (eb : β → List Value) (D : List δ) : Prop :=
  D = [] ∨ ∃ (g : Nat) (h : Nat → Nat), b ≤ g ∧ g < c ∧ OwnL w g (g + 1) A size enc D ∧
    ∀ (i : Nat) (hi : i < D.length), b ≤ h i ∧ h i < c ∧ h i ≠ g ∧ OwnL w (h i) (h i + 1) (iA D[i]) ib eb (ix D[i]) ∧ ∀ j, j < i → h j ≠ h i
variable {w w' : World} {b b' c c' : Nat} {A : Option Addr} {D : List δ}
theorem RdN.below {k : Nat} (h : RdN w b A size enc iA ix ib eb D) (hb : Below k w w') (hc : b ≤ k) : RdN w' b A size enc iA ix ib eb D :=
  ⟨h.1.below hb hc, fun d hd => (h.2 d hd).below hb hc⟩
theorem RdN.more (h : RdN w b A size enc iA ix ib eb D) (hb : b ≤ b') : RdN w b' A size enc iA ix ib eb D :=
  ⟨h.1.more hb, fun d hd => (h.2 d hd).more hb⟩
theorem OwnN.nil : OwnN w b c A size enc iA ix ib eb ([] : List δ) := .inl rfl
theorem OwnN.rd (h : OwnN w b c A size enc iA ix ib eb D) (henc : ∀ x, (enc x).length = size) (heb : ∀ x, (eb x).length = ib) : RdN w w.heap.size A size enc iA ix ib eb D := by
  rcases h with h | ⟨g, h, _, _, ho, hi⟩
  · subst h; exact ⟨.inl rfl, by simp⟩
  · refine ⟨ho.rd henc, fun d hd => ?_⟩
    obtain ⟨i, hlt, rfl⟩ := List.getElem_of_mem hd
    exact (hi i hlt).2.2.2.1.rd heb
theorem OwnN.later (h : OwnN w b c A size enc iA ix ib eb D) (hb : Below w.heap.size w w') : OwnN w' b c A size enc iA ix ib eb D := by
  rcases h with h | ⟨g, h, h1, h2, ho, hi⟩
  · exact .inl h
  · exact .inr ⟨g, h, h1, h2, ho.later hb, fun i hlt => ⟨(hi i hlt).1, (hi i hlt).2.1, (hi i hlt).2.2.1, (hi i hlt).2.2.2.1.later hb, (hi i hlt).2.2.2.2⟩⟩
theorem OwnN.chg (h : OwnN w b c A size enc iA ix ib eb D) (k : Chg b' c' w w') (hr : c ≤ b' ∨ c' ≤ b) : OwnN w' b c A size enc iA ix ib eb D := by
  rcases h with h | ⟨g, h, h1, h2, ho, hi⟩
  · exact .inl h
  · exact .inr ⟨g, h, h1, h2, ho.chg k (by omega), fun i hlt => ⟨(hi i hlt).1, (hi i hlt).2.1, (hi i hlt).2.2.1, (hi i hlt).2.2.2.1.chg k (by have := hi i hlt; omega), (hi i hlt).2.2.2.2⟩⟩
theorem OwnN.mono (h : OwnN w b c A size enc iA ix ib eb D) (hb : b' ≤ b) (hc : c ≤ c') : OwnN w b' c' A size enc iA ix ib eb D := by
  rcases h with h | ⟨g, h, h1, h2, ho, hi⟩
  · exact .inl h
  · exact .inr ⟨g, h, by omega, by omega, ho, fun i hlt => ⟨by have := hi i hlt; omega, by have := hi i hlt; omega, (hi i hlt).2.2⟩⟩
theorem OwnL.congr {α : Type} {enc : α → List Value} {l l' : List α} (h : OwnL w b c A size enc l) (hl : l.length = l'.length) (he : ∀ (i : Nat) (h1 : i < l.length) (h2 : i < l'.length), enc l'[i] = enc l[i]) : OwnL w b c A size enc l' := by
  rcases h with h | ⟨g, f, rfl, hg, hg2, hc, hf⟩
  · subst h; exact .inl (List.eq_nil_of_length_eq_zero (by simpa using hl.symm))
  · exact .inr ⟨g, f, rfl, hg, hg2, by rw [← hl]; exact hc, fun i hi j u hu => hf i (by omega) j u (by rw [← he i (by omega) hi]; exact hu)⟩

/-- The value v is a slice of the call's own, made by append, whose elements' inner slices lie in blocks of their own. -/
def GrowN (w : World) (base : Nat) (e : TypeId) (size : Nat) (enc : δ → List Value) (iA : δ → Option Addr) (ix : δ → List β) (ib : Nat) (eb : β → List Value) (v : Value) (D : List δ) : Prop :=
  Grow w base e size enc v D ∧ ∃ h : Nat → Nat, ∀ (i : Nat) (hi : i < D.length), base ≤ h i ∧ h i < w.heap.size ∧ v.ownBlock ≠ some (h i) ∧ OwnL w (h i) (h i + 1) (iA D[i]) ib eb (ix D[i]) ∧ ∀ j, j < i → h j ≠ h i
variable {base : Nat} {e : TypeId} {v : Value}
theorem GrowN.nil : GrowN w base e size enc iA ix ib eb (.slice none 0 0) ([] : List δ) := ⟨Grow.nil, fun i => i, fun i hi => by simp at hi⟩
theorem GrowN.empty (hb : b ≤ w.heap.size) : GrowN (w.alloc (.cells #[] e)) b e size enc iA ix ib eb (.slice (some ⟨w.heap.size, 0, none⟩) 0 0) ([] : List δ) := ⟨Grow.empty hb, fun i => i, fun i hi => by simp at hi⟩
theorem GrowN.later (h : GrowN w base e size enc iA ix ib eb v D) (hb : Below w.heap.size w w') : GrowN w' base e size enc iA ix ib eb v D := by
  obtain ⟨h1, h, hi⟩ := h
  exact ⟨h1.later hb, h, fun i hlt => ⟨(hi i hlt).1, Nat.lt_of_lt_of_le (hi i hlt).2.1 hb.size, (hi i hlt).2.2.1, (hi i hlt).2.2.2.1.later hb, (hi i hlt).2.2.2.2⟩⟩
theorem GrowN.drewN (h : GrowN w base e size enc iA ix ib eb v D) (k : Nat) : GrowN (w.drewN k) base e size enc iA ix ib eb v D := h
theorem Grow.ownB {α : Type} {enc : α → List Value} {l : List α} (h : Grow w base e size enc v l) (henc : ∀ x, (enc x).length = size) (hl : 0 < l.length) : ∃ g A c, v.ownBlock = some g ∧ base ≤ g ∧ g < w.heap.size ∧ v = .slice A l.length c ∧ OwnL w g (g + 1) A size enc l := by
  obtain ⟨A, c, hv, ho⟩ := h.own henc
  rcases ho with h0 | ⟨g, f, rfl, h1, h2, h3⟩
  · subst h0; simp at hl
  · exact ⟨g, some ⟨g, 0, none⟩, c, by rw [hv]; rfl, h1, h2, hv, .inr ⟨g, f, rfl, Nat.le_refl _, by omega, h3⟩⟩
theorem GrowN.own (h : GrowN w base e size enc iA ix ib eb v D) (henc : ∀ x, (enc x).length = size) : ∃ A c, v = .slice A D.length c ∧ OwnN w base w.heap.size A size enc iA ix ib eb D := by
  obtain ⟨h1, h, hi⟩ := h
  rcases Nat.eq_zero_or_pos D.length with h0 | hpos
  · obtain ⟨A, c, hv, _⟩ := h1.own henc
    exact ⟨A, c, hv, .inl (List.eq_nil_of_length_eq_zero h0)⟩
  · obtain ⟨g, A, c, hb, hg1, hg2, hv, ho⟩ := h1.ownB henc hpos
    exact ⟨A, c, hv, .inr ⟨g, h, hg1, hg2, ho, fun i hlt => ⟨(hi i hlt).1, (hi i hlt).2.1, fun he => (hi i hlt).2.2.1 (by rw [hb, he]), (hi i hlt).2.2.2.1, (hi i hlt).2.2.2.2⟩⟩⟩
end

section
variable {P : Program} {ops : Array Oper} {rest : List Oper} {o : Oper} {a : Act} {Q : Exit → Act → World → Prop} {w : World}
end
end Go.Proofs.Ytkegbbndmfnolaa
