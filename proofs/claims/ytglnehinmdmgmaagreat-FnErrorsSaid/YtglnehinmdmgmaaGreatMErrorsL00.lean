import Derived.WalkKit
import Derived.WalkSpells
import Derived.WalkLawsBesides
import Derived.Lib.Hide
import Derived.Deep.Draws
import Derived.Deep.OwnRows
import Derived.Deep.QuietTactic
import Derived.BigQuiet
import Derived.Test.YtglnehinmdmgmaaGreatRows
/-
  Words of our own that know no program: the byte of a string as a number, the truth of a statement as a Bool, a block's cells as a function; and small laws on them.
-/
namespace Go.Proofs.YtglnehinmdmgmaaGreat
open Go.RowKit
set_option linter.unusedVariables false
set_option linter.unusedSimpArgs false

/-! ### A statement's truth as a Bool -/
noncomputable def B (p : Prop) : Bool := @decide p (Classical.propDecidable p)
theorem B_t {p : Prop} (h : p) : B p = true := by unfold B; exact @decide_eq_true p (Classical.propDecidable p) h
theorem B_f {p : Prop} (h : ¬ p) : B p = false := by unfold B; exact @decide_eq_false p (Classical.propDecidable p) h
theorem B_iff {p q : Prop} (h : p ↔ q) : B p = B q := by rw [propext h]
@[simp, go_sem] theorem B_true : B True = true := B_t trivial
@[simp, go_sem] theorem B_false : B False = false := B_f id
theorem ret_t {p : Prop} (h : p) : Ending.returned (.bool true) = Ending.returned (.bool (B p)) := by rw [B_t h]
theorem ret_f {p : Prop} (h : ¬ p) : Ending.returned (.bool false) = Ending.returned (.bool (B p)) := by rw [B_f h]
theorem ret_int {k : IntKind} {a b : Int} (h : a = b) : Ending.returned (.int k a) = Ending.returned (.int k b) := by rw [h]
theorem ret_str {a b : ByteArray} (h : a = b) : Ending.returned (.string a) = Ending.returned (.string b) := by rw [h]

/-! ### The bytes of a string -/
/-- The byte at a place, as a number (0 behind the end). -/
def bat (s : ByteArray) (i : Int) : Int := ((s.data.toList.getD i.toNat 0).toNat : Int)
theorem bat_lo (s : ByteArray) (i : Int) : 0 ≤ bat s i := by unfold bat; omega
theorem bat_hi (s : ByteArray) (i : Int) : bat s i < 256 := by unfold bat; have := (s.data.toList.getD i.toNat 0).toNat_lt; omega
theorem size_len (s : ByteArray) : s.size = s.data.toList.length := rfl

/-- The walk's law on 's[i]', in these words. -/
@[go_sem high] theorem run_index_bat {P : Program} (w : World) (t : TypeId) (s : ByteArray) (k : IntKind) (i : Int) (h : P.underlying t = some .string) :
    (Instr.index t (.string s) (.int k i)).run P w =
      if 0 ≤ i ∧ i < s.size then .ok (.int .u8 (bat s i)) w else (boundsPanic k i s.size .index).run P w := by
  rw [run_index_string w t s k i h]
  by_cases hi : 0 ≤ i ∧ i < s.size
  · rw [dif_pos hi, if_pos hi]
    have h2 : i.toNat < s.data.toList.length := by have := size_len s; omega
    have : bat s i = ((s[i.toNat]'(by omega)).toNat : Int) := by
      unfold bat; rw [List.getD_eq_getElem?_getD, List.getElem?_eq_getElem h2]; rfl
    rw [this]
  · rw [dif_neg hi, if_neg hi]

/-- A string out of numbers, each a byte. -/
def mkS (l : List Int) : ByteArray := ⟨(l.map fun n => UInt8.ofNat n.toNat).toArray⟩
theorem size_mkS (l : List Int) : (mkS l).size = l.length := by rw [size_len]; simp [mkS]
theorem bat_mkS (l : List Int) (i : Nat) (h : i < l.length) (h0 : 0 ≤ l[i]) (h1 : l[i] < 256) : bat (mkS l) i = l[i] := by
  unfold bat mkS
  rw [List.getD_eq_getElem?_getD, Int.toNat_natCast]
  simp only [List.getElem?_map, List.getElem?_eq_getElem h, Option.map_some, Option.getD_some]
  rw [UInt8.toNat_ofNat']
  omega
/-- A string is its bytes. -/
theorem str_ext {s t : ByteArray} (hs : s.size = t.size) (h : ∀ i : Nat, i < s.size → bat s i = bat t i) : s = t := by
  apply ByteArray.ext
  apply Array.ext'
  apply List.ext_getElem?
  intro i
  rw [size_len, size_len] at hs
  by_cases hi : i < s.data.toList.length
  · have h1 := h i hi
    unfold bat at h1
    rw [Int.toNat_natCast, List.getD_eq_getElem?_getD, List.getD_eq_getElem?_getD, List.getElem?_eq_getElem hi, List.getElem?_eq_getElem (by omega)] at h1
    rw [List.getElem?_eq_getElem hi, List.getElem?_eq_getElem (by omega)]
    simp only [Option.getD_some] at h1
    congr 1
    exact UInt8.toNat_inj.1 (by omega)
  · rw [List.getElem?_eq_none (by omega), List.getElem?_eq_none (by omega)]
theorem bat_append_l (s t : ByteArray) (i : Nat) (h : i < s.size) : bat (s ++ t) i = bat s i := by
  unfold bat
  rw [size_len] at h
  rw [Int.toNat_natCast, List.getD_eq_getElem?_getD, List.getD_eq_getElem?_getD, ByteArray.data_append, Array.toList_append, List.getElem?_append_left h]
theorem bat_append_r (s t : ByteArray) (i : Nat) : bat (s ++ t) ((s.size + i : Nat) : Int) = bat t i := by
  unfold bat
  rw [Int.toNat_natCast, Int.toNat_natCast, List.getD_eq_getElem?_getD, List.getD_eq_getElem?_getD, ByteArray.data_append, Array.toList_append, size_len, List.getElem?_append_right (by omega)]
  rw [show s.data.toList.length + i - s.data.toList.length = i from by omega]
theorem size_app (s t : ByteArray) : (s ++ t).size = s.size + t.size := by simp [ByteArray.size_append]
theorem size_ext (s : ByteArray) (a b : Nat) : (s.extract a b).size = min b s.size - a := by simp [ByteArray.size_extract]
theorem bat_ext (s : ByteArray) (a b i : Nat) (h : a + i < min b s.size) : bat (s.extract a b) i = bat s ((a + i : Nat) : Int) := by
  unfold bat
  rw [Int.toNat_natCast, Int.toNat_natCast, List.getD_eq_getElem?_getD, List.getD_eq_getElem?_getD, ByteArray.data_extract, Array.getElem?_toList, Array.getElem?_toList, Array.getElem?_extract]
  have : s.size = s.data.size := rfl
  rw [if_pos (by omega)]

/-! ### bits at int64 -/
theorem toNat_i64 (a : Nat) (ha : a < 2 ^ 63) : (BitVec.ofInt 64 (a : Int)).toNat = a := by
  rw [BitVec.ofInt_natCast, BitVec.toNat_ofNat]; exact Nat.mod_eq_of_lt (by omega)
theorem and_i64 (a b : Nat) (ha : a < 2 ^ 63) (hb : b < 2 ^ 63) : bits .and .i64 (a : Int) (b : Int) = ((a &&& b : Nat) : Int) := by
  have hx : a &&& b < 2 ^ 63 := Nat.and_lt_two_pow _ hb
  show IntKind.i64.wrap ((BitVec.ofInt 64 (a : Int) &&& BitVec.ofInt 64 (b : Int)).toNat : Int) = _
  rw [BitVec.toNat_and, toNat_i64 a ha, toNat_i64 b hb, IntWalk.i64_in _ (by omega)]
theorem or_i64 (a b : Nat) (ha : a < 2 ^ 63) (hb : b < 2 ^ 63) : bits .or .i64 (a : Int) (b : Int) = ((a ||| b : Nat) : Int) := by
  have hx : a ||| b < 2 ^ 63 := Nat.or_lt_two_pow ha hb
  show IntKind.i64.wrap ((BitVec.ofInt 64 (a : Int) ||| BitVec.ofInt 64 (b : Int)).toNat : Int) = _
  rw [BitVec.toNat_or, toNat_i64 a ha, toNat_i64 b hb, IntWalk.i64_in _ (by omega)]

/-! ### The cells of a block of the call's own, as a function of the place -/
def upd (f : Nat → Value) (i : Nat) (v : Value) : Nat → Value := fun j => if j = i then v else f j
theorem upd_same (f : Nat → Value) (i : Nat) (v : Value) : upd f i v i = v := if_pos rfl
theorem upd_other (f : Nat → Value) (i j : Nat) (v : Value) (h : j ≠ i) : upd f i v j = f j := if_neg h

/-- Block g holds, from its head on, n cells, f's values; none is frozen. -/
def Cells (w : World) (g n : Nat) (f : Nat → Value) : Prop :=
  g < w.heap.size ∧ ∀ i, i < n → w.cell? ⟨g, i, none⟩ = some (f i) ∧ w.frozen? ⟨g, i, none⟩ = false

section
variable {w w' : World} {g n : Nat} {f f' : Nat → Value}
theorem Cells.lt (h : Cells w g n f) : g < w.heap.size := h.1
theorem Cells.cell (h : Cells w g n f) {i : Nat} (hi : i < n) : w.cell? ⟨g, i, none⟩ = some (f i) := (h.2 i hi).1
theorem Cells.free (h : Cells w g n f) {i : Nat} (hi : i < n) : w.frozen? ⟨g, i, none⟩ = false := (h.2 i hi).2
theorem Cells.congr (h : Cells w g n f) (e : ∀ i, i < n → f i = f' i) : Cells w g n f' := ⟨h.1, fun i hi => by rw [← e i hi]; exact h.2 i hi⟩
theorem Cells.below {b : Nat} (h : Cells w g n f) (hb : Below b w w') (hg : g < b) : Cells w' g n f :=
  ⟨Nat.lt_of_lt_of_le h.1 hb.size, fun i hi => ⟨(hb.cell (p := ⟨g, i, none⟩) hg).trans (h.2 i hi).1, (hb.frozen (p := ⟨g, i, none⟩) hg).trans (h.2 i hi).2⟩⟩
theorem Cells.later (h : Cells w g n f) (hb : Below w.heap.size w w') : Cells w' g n f := h.below hb h.1
theorem Cells.drewN (h : Cells w g n f) (k : Nat) : Cells (w.drewN k) g n f := h
theorem Cells.alloc (h : Cells w g n f) (o : Obj) : Cells (w.alloc o) g n f := h.later ((Below.refl _ _).alloc (Nat.le_refl _) o)
theorem Cells.set (h : Cells w g n f) {i : Nat} (hi : i < n) (v : Value) : Cells (w.setCell ⟨g, i, none⟩ v) g n (upd f i v) := by
  refine ⟨by simpa using h.1, fun j hj => ⟨?_, by rw [World.frozen?_setCell]; exact h.free hj⟩⟩
  by_cases e : j = i
  · subst e; rw [World.cell?_setCell_same _ _ _ (h.cell hi), upd_same]
  · rw [World.cell?_setCell_other _ _ _ _ (fun he => e (by injection he with _ h2; exact h2.symm)), upd_other _ _ _ _ e]; exact h.cell hj
theorem Cells.other (h : Cells w g n f) {p : Addr} (hp : p.block ≠ g) (v : Value) : Cells (w.setCell p v) g n f :=
  ⟨by simpa using h.1, fun j hj => ⟨by rw [World.cell?_setCell_other _ _ _ _ (fun he => hp (by rw [he]))]; exact h.cell hj, by rw [World.frozen?_setCell]; exact h.free hj⟩⟩
theorem Cells.new (w : World) (c : Array Value) (t : TypeId) (n : Nat) (f : Nat → Value) (hc : ∀ i, i < n → c[i]? = some (f i)) : Cells (w.alloc (.cells c t)) w.heap.size n f :=
  ⟨by simp, fun i hi => ⟨by rw [World.cell?_alloc_new]; exact hc i hi, World.frozen?_alloc_new _ _ _ _⟩⟩
end

theorem drew2 (w : World) (m n : Nat) : (w.drewN m).drewN n = w.drewN (m + n) := World.drewN_drewN ..
theorem below_drewN {b : Nat} {a w : World} (h : Below b a w) (n : Nat) : Below b a (w.drewN n) := ⟨h.os, h.tape, h.output, h.size, h.block⟩

section
variable {P : Program} {ops : Array Oper} {rest : List Oper} {o : Oper} {a : Act} {Q : Exit → Act → World → Prop} {w : World}
theorem wp_of_run {K : Act → World → Prop} {v : Value} {w' : World} (hr : (execOp a.eval o).run P w = .ok (.value v) w') (h : K (a.put o.dst v) w') : o.wp P a w K Q := by
  unfold Oper.wp; rw [hr]; exact h

/-- 'make([]T, n)', an element one cell: what it gives, the world left open. -/
theorem wpList_make_cells (hgd : o.guard = none) (t : TypeId) (x : Operand) (ho : o.op = .makeSlice t x x) (e : TypeId) (z : Value) (bytes : Nat)
    (ht : P.underlying t = some (.slice e)) (hinfo : (P.info? e).map (fun i => (i.zero, i.size, i.bytes)) = some (some z, 1, bytes)) (hz1 : z.cells = #[z])
    (k : IntKind) (n : Nat) (hx : a.eval x = .int k (n : Int)) (hbytes : bytes * n ≤ 281474976710656) (h63 : n ≤ 9223372036854775807)
    (h : ∀ w', Cells w' w.heap.size n (fun _ => z) → Below w.heap.size w w' → w'.ownsRow w.heap.size e 1 (.slice (some ⟨w.heap.size, 0, none⟩) n n) n (List.replicate n z) →
      wpList P ops Q rest (a.put o.dst (.slice (some ⟨w.heap.size, 0, none⟩) n n)) w') : wpList P ops Q (o :: rest) a w := by
  refine wpList_plain hgd fun K hK => ?_
  have hr := run_make_row' (P := P) t e z bytes ht hinfo hz1 k k n hbytes h63 w
  refine wp_of_run (w' := w.alloc (.cells (madeCells #[z] n) e)) ?_ (hK _ _ (h _ ?_ ?_ ?_))
  · unfold execOp
    rw [ho]
    simp only [hx]
    simp [hr]
  · refine Cells.new w _ e n _ fun i hi => ?_
    simp [madeCells, hi, Nat.mod_one]
  · exact (Below.refl _ _).alloc (Nat.le_refl _) _
  · refine ⟨by simp, .inr ⟨w.heap.size, n, madeCells #[z] n, rfl, Nat.le_refl _, heap_alloc_new w _, Nat.le_refl _, h63, by simp [size_madeCells], ?_⟩⟩
    apply List.ext_getElem?
    intro i
    rw [List.getElem?_take]
    by_cases hi : i < n
    · simp [madeCells, hi, Nat.mod_one]
    · simp [hi]

/-- 'string([]byte{v})'. -/
@[go_sem high] theorem run_convert_one (W : World) (src dst e : TypeId) (v : Int) (n : Nat) (hn : n = W.heap.size) (hs : P.underlying src = some (.slice e)) (he : P.underlying e = some (.int .u8)) (hd : P.underlying dst = some .string) :
    (convert src dst (.slice (some ⟨n, 0, none⟩) 1 1)).run P (W.alloc (.cells #[.int .u8 v] e)) = .ok (.string (mkS [v])) (W.alloc (.cells #[.int .u8 v] e)) := by
  subst hn
  exact run_convert_bytes_arg (P := P) _ src e hs he W.heap.size 0 1 1 [v] rfl (fun i hi => by
    obtain rfl : i = 0 := by omega
    rw [Nat.zero_add, World.cell?_alloc_new]
    rfl) dst hd

/-- '[]byte(s)': what it gives, the world left open. -/
theorem wpList_bytes (hgd : o.guard = none) (x : Operand) (src dst e : TypeId) (ho : o.op = .convert src dst x) (hs : P.underlying src = some .string)
    (hd : P.underlying dst = some (.slice e)) (he : P.underlying e = some (.int .u8)) (s : ByteArray) (hx : a.eval x = .string s)
    (h : ∀ c w', Cells w' w.heap.size s.size (fun i => .int .u8 (bat s i)) → Below w.heap.size w w' →
      wpList P ops Q rest (a.put o.dst (.slice (some ⟨w.heap.size, 0, none⟩) s.size c)) w') : wpList P ops Q (o :: rest) a w := by
  refine wpList_plain hgd fun K hK => ?_
  have hr := run_bytes_of_string (P := P) w src dst e s hs hd he
  generalize hC : bytesRow s (grownCap w s.size 0 e) = C at hr
  have hsz : s.size ≤ C.size := by rw [← hC]; have : s.size = s.data.size := rfl; simp [bytesRow]
  refine wp_of_run (v := .slice (some ⟨w.heap.size, 0, none⟩) s.size (grownCap w s.size 0 e)) (w' := w.drew.alloc (.cells C e (C.size, C.size + 1))) ?_ (hK _ _ (h _ _ ?_ ((Below.refl w.heap.size w).drew.alloc (Nat.le_refl _) _)))
  · unfold execOp
    rw [ho]
    simp only [hx]
    simp [hr]
  · refine ⟨by simp, fun i hi => ⟨?_, ?_⟩⟩
    · refine (World.cell?_alloc_mark w.drew C e (C.size, C.size + 1) i).trans ?_
      rw [← hC, bytesRow_at s _ i hi]
      show _ = some (Value.int .u8 (bat s i))
      unfold bat
      rw [Int.toNat_natCast, List.getD_eq_getElem?_getD, List.getElem?_eq_getElem (by exact hi)]
      simp
    · refine (World.frozen?_alloc_mark w.drew C e C.size (C.size + 1) i).trans ?_
      simp; omega
end

theorem Cells.str {P : Program} {w : World} {g n : Nat} {f : Nat → Value} (h : Cells w g n f) (l : List Int) (hl : l.length = n) (hf : ∀ i (hi : i < n), f i = .int .u8 (l[i]'(by omega))) (src e dst : TypeId) (c : Nat)
    (hs : P.underlying src = some (.slice e)) (he : P.underlying e = some (.int .u8)) (hd : P.underlying dst = some .string) :
    (convert src dst (.slice (some ⟨g, 0, none⟩) n c)).run P w = .ok (.string (mkS l)) w :=
  run_convert_bytes_arg (P := P) w src e hs he g 0 n c l hl (fun i hi => by
    rw [Nat.zero_add, h.cell hi, hf i hi]
    simp [show i < l.length by omega]) dst hd
end Go.Proofs.YtglnehinmdmgmaaGreat

/-
  Contracts of chapter 1: rows.
-/
namespace Go.Proofs.YtglnehinmdmgmaaGreat
open Go.RowKit
set_option linter.unusedVariables false
set_option linter.unusedSimpArgs false
set_option maxRecDepth 100000

/-- A row: a permutation of the first bells. -/
def isRow (s : ByteArray) : Prop :=
  3 ≤ s.size ∧ s.size ≤ 8 ∧ (∀ i : Nat, i < s.size → 49 ≤ bat s i ∧ bat s i < 49 + s.size) ∧ (∀ i j : Nat, i < j → j < s.size → bat s i ≠ bat s j)

theorem isStage_any (n : Int) (w : World) :
    Calls Tryz.prog 50 #[.int .i64 n] w fun e w' => e = .returned (.bool (decide (3 ≤ n) && decide (n ≤ 8))) ∧ w = w' := by
  go_enter Tryz.func50, Tryz.ntmps50
  go_wp2
  all_goals (go_ret; exact ⟨by simp <;> omega, rfl⟩)
theorem isStage_t (n : Int) (w : World) (h1 : 3 ≤ n) (h2 : n ≤ 8) :
    Calls Tryz.prog 50 #[.int .i64 n] w fun e w' => e = .returned (.bool true) ∧ w = w' := by
  have := isStage_any n w; simpa [h1, h2] using this
theorem isStage_f (n : Int) (w : World) (h : n < 3 ∨ 8 < n) :
    Calls Tryz.prog 50 #[.int .i64 n] w fun e w' => e = .returned (.bool false) ∧ w = w' := by
  have := isStage_any n w
  have e : (decide (3 ≤ n) && decide (n ≤ 8)) = false := by simp <;> omega
  rw [e] at this; exact this

/-- The marks of the bells met so far. -/
def Marks (s : ByteArray) (k j : Nat) : Prop := j < 256 ∧ ∀ b : Nat, b < 8 → (j.testBit b = true ↔ ∃ i : Nat, i < k ∧ bat s i = 49 + b)
theorem Marks.zero (s : ByteArray) : Marks s 0 0 := ⟨by omega, fun b _ => by simp⟩
theorem Marks.step {s : ByteArray} {k j : Nat} (h : Marks s k j) (b : Nat) (hb : b < 8) (e : bat s k = 49 + b) : Marks s (k + 1) (j ||| 2 ^ b) := by
  refine ⟨?_, fun c hc => ?_⟩
  · have : 2 ^ b < 2 ^ 8 := Nat.pow_lt_pow_right (by omega) hb
    exact Nat.or_lt_two_pow (n := 8) h.1 this
  · rw [Nat.testBit_or, Nat.testBit_two_pow, Bool.or_eq_true, h.2 c hc, decide_eq_true_eq]
    constructor
    · rintro (⟨i, hi, hx⟩ | rfl)
      · exact ⟨i, by omega, hx⟩
      · exact ⟨k, by omega, e⟩
    · rintro ⟨i, hi, hx⟩
      rcases Nat.lt_or_eq_of_le (Nat.le_of_lt_succ hi) with h' | rfl
      · exact .inl ⟨i, h', hx⟩
      · right; omega
theorem bit_test (j b : Nat) (hj : j < 256) : (bits BinOp.and IntKind.i64 ((j : Int) / 2 ^ b) 1 == 1) = j.testBit b := by
  have e1 : ((j : Int) / 2 ^ b) = ((j / 2 ^ b : Nat) : Int) := by simp
  have e2 : (1 : Int) = ((1 : Nat) : Int) := rfl
  rw [e1, e2, and_i64 _ _ (by have := Nat.div_le_self j (2 ^ b); omega) (by omega), Nat.and_one_is_mod]
  rw [Nat.testBit_eq_decide_div_mod_eq]
  generalize j / 2 ^ b = m
  rw [Bool.eq_iff_iff]; simp <;> omega
theorem bit_or (j b : Nat) (hj : j < 256) (hb : b < 8) : bits BinOp.or IntKind.i64 (j : Int) (wrap64 (2 ^ b)) = ((j ||| 2 ^ b : Nat) : Int) := by
  have h8 : (2 : Nat) ^ b < 2 ^ 8 := Nat.pow_lt_pow_right (by omega) hb
  have e1 : ((2 : Int) ^ b) = ((2 ^ b : Nat) : Int) := by simp
  rw [e1]
  generalize 2 ^ b = m at *
  rw [IntWalk.wrap64_in _ (by omega), or_i64 _ _ (by omega) (by omega)]

set_option maxHeartbeats 800000 in
theorem goodRow_any (s : ByteArray) (w : World) :
    Calls Tryz.prog 69 #[.string s] w fun e w' => e = .returned (.bool (B (isRow s))) ∧ w = w' := by
  by_cases hs : 3 ≤ s.size ∧ s.size ≤ 8
  · obtain ⟨h1, h2⟩ := hs
    go_enter Tryz.func69, Tryz.ntmps69
    go_wp2_with (go_at_call 50; refine (isStage_t _ _ (by omega) (by omega)).mono ?_; rintro e w' ⟨rfl, rfl⟩)
    go_loop [3, 12] (fun m i => ∃ k j : Nat, k ≤ s.size ∧ i = .int .i64 k ∧ m = .int .i64 j ∧ Marks s k j ∧ (∀ i : Nat, i < k → 49 ≤ bat s i ∧ bat s i < 49 + s.size) ∧ (∀ i l : Nat, i < l → l < k → bat s i ≠ bat s l)) (fun _ i => s.size - (intOf i).toNat)
    case atStart => exact ⟨0, 0, by omega, by rfl, rfl, Marks.zero s, by omega, by omega⟩
    case round =>
      obtain ⟨k, j, hk, rfl, rfl, hm, hr, hd⟩ := hrel
      have hj := hm.1
      have Hm := Lib.hid hm
      have Hr := Lib.hid hr
      have Hd := Lib.hid hd
      clear hm hr hd
      by_cases hlt : k < s.size
      · have hb0 := bat_lo s k
        have hb1 := bat_hi s k
        by_cases c1 : bat s k < 49
        · go_wp2
          go_ret
          refine ⟨ret_f ?_, rfl⟩
          intro h; have := (h.2.2.1 k hlt).1; omega
        · by_cases c2 : (s.size : Int) ≤ bat s k - 49
          · go_wp2
            go_ret
            refine ⟨ret_f ?_, rfl⟩
            intro h; have := (h.2.2.1 k hlt).2; omega
          · obtain ⟨b, hb⟩ : ∃ b : Nat, bat s k - 49 = b := ⟨(bat s k - 49).toNat, by omega⟩
            have ht := bit_test j b hj
            have ho := bit_or j b hj (by omega)
            have Ho := Lib.hid ho
            clear ho
            by_cases c3 : (bits BinOp.and IntKind.i64 (↑j / 2 ^ (bat s k - 49).toNat) 1 == 1) = true
            · rw [hb, Int.toNat_natCast, ht] at c3
              have C3 := Lib.hid c3
              rw [c3] at ht
              have ht' : (bits BinOp.and IntKind.i64 (↑j / 2 ^ (bat s k - 49).toNat) 1 == 1) = true := by rw [hb, Int.toNat_natCast]; exact ht
              have Hb := Lib.hid hb
              clear ht c3 hb
              go_wp2
              go_ret
              refine ⟨ret_f ?_, rfl⟩
              have hb := Hb.out
              intro h
              obtain ⟨i, hi, he⟩ := (Hm.out.2 b (by omega)).1 C3.out
              exact h.2.2.2 i k hi hlt (by omega)
            · rw [hb, Int.toNat_natCast, ht, Bool.not_eq_true] at c3
              have C3 := Lib.hid c3
              rw [c3] at ht
              have ht' : (bits BinOp.and IntKind.i64 (↑j / 2 ^ (bat s k - 49).toNat) 1 == 1) = false := by rw [hb, Int.toNat_natCast]; exact ht
              have Hb := Lib.hid hb
              clear ht c3 hb
              go_wp2
              have hb := Hb.out
              go_round
              case rel =>
                refine ⟨k + 1, j ||| 2 ^ b, by omega, by go_num, ?_, Hm.out.step b (by omega) (by omega), fun i hi => ?_, fun i l hi hl => ?_⟩
                · rw [hb, Int.toNat_natCast, Ho.out]
                · rcases Nat.lt_or_eq_of_le (Nat.le_of_lt_succ hi) with h' | rfl
                  · exact Hr.out i h'
                  · omega
                · rcases Nat.lt_or_eq_of_le (Nat.le_of_lt_succ hl) with h' | rfl
                  · exact Hd.out i l hi h'
                  · intro he
                    have := (Hm.out.2 b (by omega)).2 ⟨i, hi, by omega⟩
                    rw [C3.out] at this
                    cases this
              case measure => simp [intOf]; omega
      · go_wp2
        go_ret
        obtain rfl : k = s.size := by omega
        exact ⟨ret_t ⟨h1, h2, Hr.out, Hd.out⟩, rfl⟩
  · go_enter Tryz.func69, Tryz.ntmps69
    go_wp2_with (go_at_call 50; refine (isStage_f _ _ (by omega)).mono ?_; rintro e w' ⟨rfl, rfl⟩)
    go_ret
    refine ⟨ret_f ?_, rfl⟩
    intro h; exact hs ⟨h.1, h.2.1⟩
theorem goodRow_t (s : ByteArray) (w : World) (h : (isRow s)) : Calls Tryz.prog 69 #[.string s] w fun e w' => e = .returned (.bool true) ∧ w = w' := by
  have := goodRow_any s w; rw [B_t h] at this; exact this
theorem goodRow_f (s : ByteArray) (w : World) (h : ¬ (isRow s)) : Calls Tryz.prog 69 #[.string s] w fun e w' => e = .returned (.bool false) ∧ w = w' := by
  have := goodRow_any s w; rw [B_f h] at this; exact this


def isRowOf (n : Int) (s : ByteArray) : Prop := (s.size : Int) = n ∧ isRow s
theorem isRowOf_any (n : Int) (s : ByteArray) (w : World) :
    Calls Tryz.prog 49 #[.int .i64 n, .string s] w fun e w' => e = .returned (.bool (B (isRowOf n s))) ∧ w = w' := by
  by_cases h : (s.size : Int) = n
  · have hb : ((s.size : Int) == n) = true := by simpa using h
    have H := Lib.hid h
    clear h
    by_cases g : isRow s
    · go_enter Tryz.func49, Tryz.ntmps49
      go_wp2_with (go_at_call 69; refine (goodRow_t s _ g).mono ?_; rintro e w' ⟨rfl, rfl⟩)
      go_ret
      exact ⟨ret_t ⟨H.out, g⟩, rfl⟩
    · go_enter Tryz.func49, Tryz.ntmps49
      go_wp2_with (go_at_call 69; refine (goodRow_f s _ g).mono ?_; rintro e w' ⟨rfl, rfl⟩)
      go_ret
      exact ⟨ret_f (fun x => g x.2), rfl⟩
  · have hb : ((s.size : Int) == n) = false := by simpa using h
    have H := Lib.hid h
    clear h
    go_enter Tryz.func49, Tryz.ntmps49
    go_wp2
    go_ret
    exact ⟨ret_f (fun x => H.out x.1), rfl⟩
def inB (n lo hi : Int) : Prop := lo ≤ n ∧ n ≤ hi
theorem l1In_any (n lo hi : Int) (w : World) :
    Calls Tryz.prog 53 #[.int .i64 n, .int .i64 lo, .int .i64 hi] w fun e w' => e = .returned (.bool (B (inB n lo hi))) ∧ w = w' := by
  by_cases h1 : lo ≤ n <;> by_cases h2 : n ≤ hi
  all_goals
    go_enter Tryz.func53, Tryz.ntmps53
    go_wp2
    go_ret
    first | exact ⟨ret_t ⟨h1, h2⟩, rfl⟩ | exact ⟨ret_f (fun x => by have := x.1; have := x.2; omega), rfl⟩
theorem l1In_t (n lo hi : Int) (w : World) (h : (inB n lo hi)) : Calls Tryz.prog 53 #[.int .i64 n, .int .i64 lo, .int .i64 hi] w fun e w' => e = .returned (.bool true) ∧ w = w' := by
  have := l1In_any n lo hi w; rw [B_t h] at this; exact this
theorem l1In_f (n lo hi : Int) (w : World) (h : ¬ (inB n lo hi)) : Calls Tryz.prog 53 #[.int .i64 n, .int .i64 lo, .int .i64 hi] w fun e w' => e = .returned (.bool false) ∧ w = w' := by
  have := l1In_any n lo hi w; rw [B_f h] at this; exact this


theorem l1At_any (s : ByteArray) (p : Int) (w : World) (h1 : 1 ≤ p) (h2 : p ≤ s.size) (hp : p ≤ 1000000) (h3 : 48 ≤ bat s (p - 1)) :
    Calls Tryz.prog 25 #[.string s, .int .i64 p] w fun e w' => e = .returned (.int .i64 (bat s (p - 1) - 48)) ∧ w = w' := by
  have hb1 := bat_hi s (p - 1)
  go_enter Tryz.func25, Tryz.ntmps25
  go_wp2
  go_ret
  exact ⟨rfl, rfl⟩

set_option maxHeartbeats 800000 in
theorem l1Row_any (s : ByteArray) (w : World) :
    Calls Tryz.prog 52 #[.string s] w fun e w' => e = .returned (.bool (B (isRow s))) ∧ ∃ n, w' = w.drewN n := by
  by_cases hs : 3 ≤ s.size ∧ s.size ≤ 8
  · obtain ⟨h1, h2⟩ := hs
    go_enter Tryz.func52, Tryz.ntmps52
    go_wp2_with (go_at_call 53; refine (l1In_t _ _ _ _ ⟨by omega, by omega⟩).mono ?_; rintro e w' ⟨rfl, rfl⟩)
    go_loopw [3] (fun i wr => ∃ k : Nat, k ≤ s.size ∧ i = .int .i64 k ∧ (∀ i : Nat, i < k → 49 ≤ bat s i ∧ bat s i < 49 + s.size) ∧ (∀ i l : Nat, i < l → l < k → bat s i ≠ bat s l) ∧ ∃ n, wr = w.drewN n) (fun i _ => s.size - (intOf i).toNat)
    case atStart => exact ⟨0, by omega, by rfl, by omega, by omega, 0, rfl⟩
    case round =>
      obtain ⟨k, hk, rfl, hr, hd, n, rfl⟩ := hrel
      have Hr := Lib.hid hr
      have Hd := Lib.hid hd
      clear hr hd
      by_cases hlt : k < s.size
      · have hb0 := bat_lo s k
        have hb1 := bat_hi s k
        by_cases c1 : bat s k < 49
        · go_wp2
          go_ret
          refine ⟨ret_f ?_, _, rfl⟩
          intro h; have := (h.2.2.1 k hlt).1; omega
        · by_cases c2 : (s.size : Int) < bat s k - 48
          · go_wp2
            go_ret
            refine ⟨ret_f ?_, _, rfl⟩
            intro h; have := (h.2.2.1 k hlt).2; omega
          · go_wp2
            go_loopw [4] (fun i wr => ∃ l : Nat, l ≤ k ∧ i = .int .i64 l ∧ (∀ i : Nat, i < l → bat s i ≠ bat s k) ∧ ∃ n, wr = w.drewN n) (fun i _ => k - (intOf i).toNat)
            case atStart => exact ⟨0, by omega, by rfl, by omega, n, rfl⟩
            case round =>
              obtain ⟨l, hl, rfl, he, m, rfl⟩ := hrel
              have He := Lib.hid he
              clear he
              by_cases hlt2 : l < k
              · have hb2 := bat_lo s l
                by_cases c3 : bat s l = bat s k
                · have c3b : (bat s l == bat s k) = true := by simpa using c3
                  have C3 := Lib.hid c3
                  clear c3
                  go_wp2
                  go_quiet (fail)
                  go_wp2
                  go_ret
                  refine ⟨ret_f ?_, _, drew2 _ _ _⟩
                  intro h; exact h.2.2.2 l k hlt2 hlt C3.out
                · have c3b : (bat s l == bat s k) = false := by simpa using c3
                  have C3 := Lib.hid c3
                  clear c3
                  go_wp2
                  go_quiet (fail)
                  go_wp2
                  go_roundw
                  case rel =>
                    refine ⟨l + 1, by omega, by go_num, fun i hi => ?_, _, rfl⟩
                    rcases Nat.lt_or_eq_of_le (Nat.le_of_lt_succ hi) with h' | rfl
                    · exact He.out i h'
                    · exact C3.out
                  case measure => simp [intOf]; omega
              · go_wp2
                go_roundw
                case rel =>
                  obtain rfl : l = k := by omega
                  refine ⟨l + 1, by omega, by go_num, fun i hi => ?_, fun i j hi hj => ?_, _, rfl⟩
                  · rcases Nat.lt_or_eq_of_le (Nat.le_of_lt_succ hi) with h' | rfl
                    · exact Hr.out i h'
                    · omega
                  · rcases Nat.lt_or_eq_of_le (Nat.le_of_lt_succ hj) with h' | rfl
                    · exact Hd.out i j hi h'
                    · exact He.out i hi
                case measure => simp [intOf]; omega
      · go_wp2
        go_ret
        obtain rfl : k = s.size := by omega
        exact ⟨ret_t ⟨h1, h2, Hr.out, Hd.out⟩, _, rfl⟩
  · go_enter Tryz.func52, Tryz.ntmps52
    go_wp2_with (go_at_call 53; refine (l1In_f _ _ _ _ (fun x => hs ⟨by have := x.1; omega, by have := x.2; omega⟩)).mono ?_; rintro e w' ⟨rfl, rfl⟩)
    go_ret
    refine ⟨ret_f ?_, 0, rfl⟩
    intro h; exact hs ⟨h.1, h.2.1⟩
end Go.Proofs.YtglnehinmdmgmaaGreat
