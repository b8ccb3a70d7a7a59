import Derived.WalkKit
import Derived.WalkSpells
import Derived.WalkLawsBesides
import Derived.Lib.Hide
import Derived.Deep.Draws
import Derived.Deep.OwnRows
import Derived.Deep.QuietTactic
import Derived.BigQuiet
import Derived.Sort.Statements
/-
  Words of our own that know no program: the byte of a string as a number, the truth of a statement as a Bool, a block's cells as a function; and small laws on them.
-/
namespace Go.Proofs.Ytglnehinmdmgmaa
open Go.RowKit
set_option linter.unusedVariables false
set_option linter.unusedSimpArgs false

/-! ### A statement's truth as a Bool -/
noncomputable def B (p : Prop) : Bool := @decide p (Classical.propDecidable p)
theorem B_t {p : Prop} (h : p) : B p = true := by unfold B; exact @decide_eq_true p (Classical.propDecidable p) h
theorem B_f {p : Prop} (h : ¬ p) : B p = false := by unfold B; exact @decide_eq_false p (Classical.propDecidable p) h
theorem B_iff {p q : Prop} (h : p ↔ q) : B p = B q := by rw [propext h]
@[simp, go_sem] theorem B_true : B True = true := B_t trivial
@[simp, go_sem] theorem B_false : B False = false := B_f id
theorem ret_t {p : Prop} (h : p) : Ending.returned (.bool true) = Ending.returned (.bool (B p)) := by rw [B_t h]
theorem ret_f {p : Prop} (h : ¬ p) : Ending.returned (.bool false) = Ending.returned (.bool (B p)) := by rw [B_f h]
theorem ret_int {k : IntKind} {a b : Int} (h : a = b) : Ending.returned (.int k a) = Ending.returned (.int k b) := by rw [h]
theorem ret_str {a b : ByteArray} (h : a = b) : Ending.returned (.string a) = Ending.returned (.string b) := by rw [h]

/-! ### The bytes of a string -/
/-- The byte at a place, as a number (0 behind the end). -/
def bat (s : ByteArray) (i : Int) : Int := ((s.data.toList.getD i.toNat 0).toNat : Int)
theorem bat_lo (s : ByteArray) (i : Int) : 0 ≤ bat s i := by unfold bat; omega
theorem bat_hi (s : ByteArray) (i : Int) : bat s i < 256 := by unfold bat; have := (s.data.toList.getD i.toNat 0).toNat_lt; omega
theorem size_len (s : ByteArray) : s.size = s.data.toList.length := rfl

/-- The walk's law on 's[i]', in these words. -/
@[go_sem high] theorem run_index_bat {P : Program} (w : World) (t : TypeId) (s : ByteArray) (k : IntKind) (i : Int) (h : P.underlying t = some .string) :
    (Instr.index t (.string s) (.int k i)).run P w =
      if 0 ≤ i ∧ i < s.size then .ok (.int .u8 (bat s i)) w else (boundsPanic k i s.size .index).run P w := by
  rw [run_index_string w t s k i h]
  by_cases hi : 0 ≤ i ∧ i < s.size
  · rw [dif_pos hi, if_pos hi]
    have h2 : i.toNat < s.data.toList.length := by have := size_len s; omega
    have : bat s i = ((s[i.toNat]'(by omega)).toNat : Int) := by
      unfold bat; rw [List.getD_eq_getElem?_getD, List.getElem?_eq_getElem h2]; rfl
    rw [this]
  · rw [dif_neg hi, if_neg hi]

/-- A string out of numbers, each a byte. -/
def mkS (l : List Int) : ByteArray := ⟨(l.map fun n => UInt8.ofNat n.toNat).toArray⟩
theorem size_mkS (l : List Int) : (mkS l).size = l.length := by rw [size_len]; simp [mkS]
/-! ### bits at int64 -/
theorem toNat_i64 (a : Nat) (ha : a < 2 ^ 63) : (BitVec.ofInt 64 (a : Int)).toNat = a := by
  rw [BitVec.ofInt_natCast, BitVec.toNat_ofNat]; exact Nat.mod_eq_of_lt (by omega)
theorem and_i64 (a b : Nat) (ha : a < 2 ^ 63) (hb : b < 2 ^ 63) : bits .and .i64 (a : Int) (b : Int) = ((a &&& b : Nat) : Int) := by
  have hx : a &&& b < 2 ^ 63 := Nat.and_lt_two_pow _ hb
  show IntKind.i64.wrap ((BitVec.ofInt 64 (a : Int) &&& BitVec.ofInt 64 (b : Int)).toNat : Int) = _
  rw [BitVec.toNat_and, toNat_i64 a ha, toNat_i64 b hb, IntWalk.i64_in _ (by omega)]
theorem or_i64 (a b : Nat) (ha : a < 2 ^ 63) (hb : b < 2 ^ 63) : bits .or .i64 (a : Int) (b : Int) = ((a ||| b : Nat) : Int) := by
  have hx : a ||| b < 2 ^ 63 := Nat.or_lt_two_pow ha hb
  show IntKind.i64.wrap ((BitVec.ofInt 64 (a : Int) ||| BitVec.ofInt 64 (b : Int)).toNat : Int) = _
  rw [BitVec.toNat_or, toNat_i64 a ha, toNat_i64 b hb, IntWalk.i64_in _ (by omega)]

/-! ### The cells of a block of the call's own, as a function of the place -/
def upd (f : Nat → Value) (i : Nat) (v : Value) : Nat → Value := fun j => if j = i then v else f j
theorem upd_same (f : Nat → Value) (i : Nat) (v : Value) : upd f i v i = v := if_pos rfl
theorem upd_other (f : Nat → Value) (i j : Nat) (v : Value) (h : j ≠ i) : upd f i v j = f j := if_neg h

/-- Block g holds, from its head on, n cells, f's values; none is frozen. -/
def Cells (w : World) (g n : Nat) (f : Nat → Value) : Prop :=
  g < w.heap.size ∧ ∀ i, i < n → w.cell? ⟨g, i, none⟩ = some (f i) ∧ w.frozen? ⟨g, i, none⟩ = false

section
variable {w w' : World} {g n : Nat} {f f' : Nat → Value}
theorem Cells.lt (h : Cells w g n f) : g < w.heap.size := h.1
theorem Cells.cell (h : Cells w g n f) {i : Nat} (hi : i < n) : w.cell? ⟨g, i, none⟩ = some (f i) := (h.2 i hi).1
theorem Cells.free (h : Cells w g n f) {i : Nat} (hi : i < n) : w.frozen? ⟨g, i, none⟩ = false := (h.2 i hi).2
theorem Cells.congr (h : Cells w g n f) (e : ∀ i, i < n → f i = f' i) : Cells w g n f' := ⟨h.1, fun i hi => by rw [← e i hi]; exact h.2 i hi⟩
theorem Cells.below {b : Nat} (h : Cells w g n f) (hb : Below b w w') (hg : g < b) : Cells w' g n f :=
  ⟨Nat.lt_of_lt_of_le h.1 hb.size, fun i hi => ⟨(hb.cell (p := ⟨g, i, none⟩) hg).trans (h.2 i hi).1, (hb.frozen (p := ⟨g, i, none⟩) hg).trans (h.2 i hi).2⟩⟩
theorem Cells.later (h : Cells w g n f) (hb : Below w.heap.size w w') : Cells w' g n f := h.below hb h.1
theorem Cells.drewN (h : Cells w g n f) (k : Nat) : Cells (w.drewN k) g n f := h
theorem Cells.alloc (h : Cells w g n f) (o : Obj) : Cells (w.alloc o) g n f := h.later ((Below.refl _ _).alloc (Nat.le_refl _) o)
theorem Cells.set (h : Cells w g n f) {i : Nat} (hi : i < n) (v : Value) : Cells (w.setCell ⟨g, i, none⟩ v) g n (upd f i v) := by
  refine ⟨by simpa using h.1, fun j hj => ⟨?_, by rw [World.frozen?_setCell]; exact h.free hj⟩⟩
  by_cases e : j = i
  · subst e; rw [World.cell?_setCell_same _ _ _ (h.cell hi), upd_same]
  · rw [World.cell?_setCell_other _ _ _ _ (fun he => e (by injection he with _ h2; exact h2.symm)), upd_other _ _ _ _ e]; exact h.cell hj
theorem Cells.other (h : Cells w g n f) {p : Addr} (hp : p.block ≠ g) (v : Value) : Cells (w.setCell p v) g n f :=
  ⟨by simpa using h.1, fun j hj => ⟨by rw [World.cell?_setCell_other _ _ _ _ (fun he => hp (by rw [he]))]; exact h.cell hj, by rw [World.frozen?_setCell]; exact h.free hj⟩⟩
theorem Cells.new (w : World) (c : Array Value) (t : TypeId) (n : Nat) (f : Nat → Value) (hc : ∀ i, i < n → c[i]? = some (f i)) : Cells (w.alloc (.cells c t)) w.heap.size n f :=
  ⟨by simp, fun i hi => ⟨by rw [World.cell?_alloc_new]; exact hc i hi, World.frozen?_alloc_new _ _ _ _⟩⟩
end

theorem drew2 (w : World) (m n : Nat) : (w.drewN m).drewN n = w.drewN (m + n) := World.drewN_drewN ..
theorem below_drewN {b : Nat} {a w : World} (h : Below b a w) (n : Nat) : Below b a (w.drewN n) := ⟨h.os, h.tape, h.output, h.size, h.block⟩

section
variable {P : Program} {ops : Array Oper} {rest : List Oper} {o : Oper} {a : Act} {Q : Exit → Act → World → Prop} {w : World}
theorem wp_of_run {K : Act → World → Prop} {v : Value} {w' : World} (hr : (execOp a.eval o).run P w = .ok (.value v) w') (h : K (a.put o.dst v) w') : o.wp P a w K Q := by
  unfold Oper.wp; rw [hr]; exact h

/-- 'make([]T, n)', an element one cell: what it gives, the world left open. -/
theorem wpList_make_cells (hgd : o.guard = none) (t : TypeId) (x : Operand) (ho : o.op = .makeSlice t x x) (e : TypeId) (z : Value) (bytes : Nat)
    (ht : P.underlying t = some (.slice e)) (hinfo : (P.info? e).map (fun i => (i.zero, i.size, i.bytes)) = some (some z, 1, bytes)) (hz1 : z.cells = #[z])
    (k : IntKind) (n : Nat) (hx : a.eval x = .int k (n : Int)) (hbytes : bytes * n ≤ 281474976710656) (h63 : n ≤ 9223372036854775807)
    (h : ∀ w', Cells w' w.heap.size n (fun _ => z) → Below w.heap.size w w' → w'.ownsRow w.heap.size e 1 (.slice (some ⟨w.heap.size, 0, none⟩) n n) n (List.replicate n z) →
      wpList P ops Q rest (a.put o.dst (.slice (some ⟨w.heap.size, 0, none⟩) n n)) w') : wpList P ops Q (o :: rest) a w := by
  refine wpList_plain hgd fun K hK => ?_
  have hr := run_make_row' (P := P) t e z bytes ht hinfo hz1 k k n hbytes h63 w
  refine wp_of_run (w' := w.alloc (.cells (madeCells #[z] n) e)) ?_ (hK _ _ (h _ ?_ ?_ ?_))
  · unfold execOp
    rw [ho]
    simp only [hx]
    simp [hr]
  · refine Cells.new w _ e n _ fun i hi => ?_
    simp [madeCells, hi, Nat.mod_one]
  · exact (Below.refl _ _).alloc (Nat.le_refl _) _
  · refine ⟨by simp, .inr ⟨w.heap.size, n, madeCells #[z] n, rfl, Nat.le_refl _, heap_alloc_new w _, Nat.le_refl _, h63, by simp [size_madeCells], ?_⟩⟩
    apply List.ext_getElem?
    intro i
    rw [List.getElem?_take]
    by_cases hi : i < n
    · simp [madeCells, hi, Nat.mod_one]
    · simp [hi]

/-- 'string([]byte{v})'. -/
@[go_sem high] theorem run_convert_one (W : World) (src dst e : TypeId) (v : Int) (n : Nat) (hn : n = W.heap.size) (hs : P.underlying src = some (.slice e)) (he : P.underlying e = some (.int .u8)) (hd : P.underlying dst = some .string) :
    (convert src dst (.slice (some ⟨n, 0, none⟩) 1 1)).run P (W.alloc (.cells #[.int .u8 v] e)) = .ok (.string (mkS [v])) (W.alloc (.cells #[.int .u8 v] e)) := by
  subst hn
  exact run_convert_bytes_arg (P := P) _ src e hs he W.heap.size 0 1 1 [v] rfl (fun i hi => by
    obtain rfl : i = 0 := by omega
    rw [Nat.zero_add, World.cell?_alloc_new]
    rfl) dst hd

end

end Go.Proofs.Ytglnehinmdmgmaa

/-
  The weighted median, in plain words: the least value up to which half of the weight lies.
-/
namespace Go.Proofs.Ytglnehinmdmgmaa
set_option linter.unusedVariables false
set_option linter.unusedSimpArgs false

def sumF {α : Type} (f : α → Int) : List α → Int
  | [] => 0
  | x :: l => f x + sumF f l
section
variable {α : Type}
theorem sumF_append (f : α → Int) (l m : List α) : sumF f (l ++ m) = sumF f l + sumF f m := by
  induction l with
  | nil => simp [sumF]
  | cons x l ih => simp [sumF, ih]; omega
theorem sumF_one (f : α → Int) (x : α) : sumF f [x] = f x := by simp [sumF]
end
theorem sumF_range_succ (f : Nat → Int) (k : Nat) : sumF f (List.range (k + 1)) = sumF f (List.range k) + f k := by
  rw [List.range_succ, sumF_append, sumF_one]
/-! ### The median -/
/-- The weight of the first k values that are not above v. -/
def wTo (vs ws : List Int) (v : Int) (k : Nat) : Int := sumF (fun i => if vs.getD i 0 ≤ v then ws.getD i 0 else 0) (List.range k)
def wAll (ws : List Int) (k : Nat) : Int := sumF (fun i => ws.getD i 0) (List.range k)
/-- Half of the weight lies up to v. -/
def halfTo (vs ws : List Int) (v : Int) : Prop := wAll ws vs.length ≤ 2 * wTo vs ws v vs.length
def isMed (vs ws : List Int) (v : Int) : Prop := v ∈ vs ∧ halfTo vs ws v ∧ ∀ u ∈ vs, halfTo vs ws u → v ≤ u
noncomputable def medOf (vs ws : List Int) : Int := @dite _ (∃ v, isMed vs ws v) (Classical.propDecidable _) (fun h => h.choose) (fun _ => 0)
theorem getD_get {l : List Int} {i : Nat} (h : i < l.length) : l.getD i 0 = l[i] := by
  rw [List.getD_eq_getElem?_getD, List.getElem?_eq_getElem h]; rfl
end Go.Proofs.Ytglnehinmdmgmaa
