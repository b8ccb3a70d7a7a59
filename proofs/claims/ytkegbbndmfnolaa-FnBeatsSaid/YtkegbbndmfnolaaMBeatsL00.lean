import Derived.WalkKit
import Derived.WalkSpells
import Derived.WalkLawsBesides
import Derived.Lib.Hide
import Derived.Deep.Draws
import Derived.Deep.OwnRows
import Derived.Deep.QuietTactic
import Derived.BigQuiet
/-
  Words of our own that know no program: the byte of a string as a number, the truth of a statement as a Bool, a block's cells as a function; and small laws on them.
-/
namespace Go.Proofs.Ytkegbbndmfnolaa
open Go.RowKit
set_option linter.unusedVariables false
set_option linter.unusedSimpArgs false

/-! ### A statement's truth as a Bool -/
noncomputable def B (p : Prop) : Bool := @decide p (Classical.propDecidable p)
theorem B_t {p : Prop} (h : p) : B p = true := by unfold B; exact @decide_eq_true p (Classical.propDecidable p) h
theorem B_f {p : Prop} (h : ¬ p) : B p = false := by unfold B; exact @decide_eq_false p (Classical.propDecidable p) h
theorem B_iff {p q : Prop} (h : p ↔ q) : B p = B q := by rw [propext h]
@[simp, go_sem] theorem B_true : B True = true := B_t trivial
@[simp, go_sem] theorem B_false : B False = false := B_f id
theorem ret_t {p : Prop} (h : p) : Ending.returned (.bool true) = Ending.returned (.bool (B p)) := by rw [B_t h]
theorem ret_f {p : Prop} (h : ¬ p) : Ending.returned (.bool false) = Ending.returned (.bool (B p)) := by rw [B_f h]
theorem ret_int {k : IntKind} {a b : Int} (h : a = b) : Ending.returned (.int k a) = Ending.returned (.int k b) := by rw [h]
theorem ret_str {a b : ByteArray} (h : a = b) : Ending.returned (.string a) = Ending.returned (.string b) := by rw [h]

/-! ### The bytes of a string -/
/-- The byte at a place, as a number (0 behind the end). -/
def bat (s : ByteArray) (i : Int) : Int := ((s.data.toList.getD i.toNat 0).toNat : Int)
theorem bat_lo (s : ByteArray) (i : Int) : 0 ≤ bat s i := by unfold bat; omega
theorem bat_hi (s : ByteArray) (i : Int) : bat s i < 256 := by unfold bat; have := (s.data.toList.getD i.toNat 0).toNat_lt; omega
theorem size_len (s : ByteArray) : s.size = s.data.toList.length := rfl

/-- The walk's law on 's[i]', in these words. -/
@[go_sem high] theorem run_index_bat {P : Program} (w : World) (t : TypeId) (s : ByteArray) (k : IntKind) (i : Int) (h : P.underlying t = some .string) :
    (Instr.index t (.string s) (.int k i)).run P w =
      if 0 ≤ i ∧ i < s.size then .ok (.int .u8 (bat s i)) w else (boundsPanic k i s.size .index).run P w := by
  rw [run_index_string w t s k i h]
  by_cases hi : 0 ≤ i ∧ i < s.size
  · rw [dif_pos hi, if_pos hi]
    have h2 : i.toNat < s.data.toList.length := by have := size_len s; omega
    have : bat s i = ((s[i.toNat]'(by omega)).toNat : Int) := by
      unfold bat; rw [List.getD_eq_getElem?_getD, List.getElem?_eq_getElem h2]; rfl
    rw [this]
  · rw [dif_neg hi, if_neg hi]

/-- A string out of numbers, each a byte. -/
def mkS (l : List Int) : ByteArray := ⟨(l.map fun n => UInt8.ofNat n.toNat).toArray⟩
theorem size_mkS (l : List Int) : (mkS l).size = l.length := by rw [size_len]; simp [mkS]
theorem bat_mkS (l : List Int) (i : Nat) (h : i < l.length) (h0 : 0 ≤ l[i]) (h1 : l[i] < 256) : bat (mkS l) i = l[i] := by
  unfold bat mkS
  rw [List.getD_eq_getElem?_getD, Int.toNat_natCast]
  simp only [List.getElem?_map, List.getElem?_eq_getElem h, Option.map_some, Option.getD_some]
  rw [UInt8.toNat_ofNat']
  omega
/-- A string is its bytes. -/
theorem str_ext {s t : ByteArray} (hs : s.size = t.size) (h : ∀ i : Nat, i < s.size → bat s i = bat t i) : s = t := by
  apply ByteArray.ext
  apply Array.ext'
  apply List.ext_getElem?
  intro i
  rw [size_len, size_len] at hs
  by_cases hi : i < s.data.toList.length
  · have h1 := h i hi
    unfold bat at h1
    rw [Int.toNat_natCast, List.getD_eq_getElem?_getD, List.getD_eq_getElem?_getD, List.getElem?_eq_getElem hi, List.getElem?_eq_getElem (by omega)] at h1
    rw [List.getElem?_eq_getElem hi, List.getElem?_eq_getElem (by omega)]
    simp only [Option.getD_some] at h1
    congr 1
    exact UInt8.toNat_inj.1 (by omega)
  · rw [List.getElem?_eq_none (by omega), List.getElem?_eq_none (by omega)]
theorem bat_append_l (s t : ByteArray) (i : Nat) (h : i < s.size) : bat (s ++ t) i = bat s i := by
  unfold bat
  rw [size_len] at h
  rw [Int.toNat_natCast, List.getD_eq_getElem?_getD, List.getD_eq_getElem?_getD, ByteArray.data_append, Array.toList_append, List.getElem?_append_left h]
theorem bat_append_r (s t : ByteArray) (i : Nat) : bat (s ++ t) ((s.size + i : Nat) : Int) = bat t i := by
  unfold bat
  rw [Int.toNat_natCast, Int.toNat_natCast, List.getD_eq_getElem?_getD, List.getD_eq_getElem?_getD, ByteArray.data_append, Array.toList_append, size_len, List.getElem?_append_right (by omega)]
  rw [show s.data.toList.length + i - s.data.toList.length = i from by omega]
theorem size_app (s t : ByteArray) : (s ++ t).size = s.size + t.size := by simp [ByteArray.size_append]
theorem size_ext (s : ByteArray) (a b : Nat) : (s.extract a b).size = min b s.size - a := by simp [ByteArray.size_extract]
theorem bat_ext (s : ByteArray) (a b i : Nat) (h : a + i < min b s.size) : bat (s.extract a b) i = bat s ((a + i : Nat) : Int) := by
  unfold bat
  rw [Int.toNat_natCast, Int.toNat_natCast, List.getD_eq_getElem?_getD, List.getD_eq_getElem?_getD, ByteArray.data_extract, Array.getElem?_toList, Array.getElem?_toList, Array.getElem?_extract]
  have : s.size = s.data.size := rfl
  rw [if_pos (by omega)]

/-! ### bits at int64 -/
/-! ### The cells of a block of the call's own, as a function of the place -/
def upd (f : Nat → Value) (i : Nat) (v : Value) : Nat → Value := fun j => if j = i then v else f j
theorem upd_same (f : Nat → Value) (i : Nat) (v : Value) : upd f i v i = v := if_pos rfl
theorem upd_other (f : Nat → Value) (i j : Nat) (v : Value) (h : j ≠ i) : upd f i v j = f j := if_neg h

/-- Block g holds, from its head on, n cells, f's values; none is frozen. -/
def Cells (w : World) (g n : Nat) (f : Nat → Value) : Prop :=
  g < w.heap.size ∧ ∀ i, i < n → w.cell? ⟨g, i, none⟩ = some (f i) ∧ w.frozen? ⟨g, i, none⟩ = false

section
variable {w w' : World} {g n : Nat} {f f' : Nat → Value}
theorem Cells.lt (h : Cells w g n f) : g < w.heap.size := h.1
theorem Cells.cell (h : Cells w g n f) {i : Nat} (hi : i < n) : w.cell? ⟨g, i, none⟩ = some (f i) := (h.2 i hi).1
theorem Cells.free (h : Cells w g n f) {i : Nat} (hi : i < n) : w.frozen? ⟨g, i, none⟩ = false := (h.2 i hi).2
theorem Cells.congr (h : Cells w g n f) (e : ∀ i, i < n → f i = f' i) : Cells w g n f' := ⟨h.1, fun i hi => by rw [← e i hi]; exact h.2 i hi⟩
theorem Cells.below {b : Nat} (h : Cells w g n f) (hb : Below b w w') (hg : g < b) : Cells w' g n f :=
  ⟨Nat.lt_of_lt_of_le h.1 hb.size, fun i hi => ⟨(hb.cell (p := ⟨g, i, none⟩) hg).trans (h.2 i hi).1, (hb.frozen (p := ⟨g, i, none⟩) hg).trans (h.2 i hi).2⟩⟩
theorem Cells.later (h : Cells w g n f) (hb : Below w.heap.size w w') : Cells w' g n f := h.below hb h.1
theorem Cells.drewN (h : Cells w g n f) (k : Nat) : Cells (w.drewN k) g n f := h
theorem Cells.alloc (h : Cells w g n f) (o : Obj) : Cells (w.alloc o) g n f := h.later ((Below.refl _ _).alloc (Nat.le_refl _) o)
theorem Cells.set (h : Cells w g n f) {i : Nat} (hi : i < n) (v : Value) : Cells (w.setCell ⟨g, i, none⟩ v) g n (upd f i v) := by
  refine ⟨by simpa using h.1, fun j hj => ⟨?_, by rw [World.frozen?_setCell]; exact h.free hj⟩⟩
  by_cases e : j = i
  · subst e; rw [World.cell?_setCell_same _ _ _ (h.cell hi), upd_same]
  · rw [World.cell?_setCell_other _ _ _ _ (fun he => e (by injection he with _ h2; exact h2.symm)), upd_other _ _ _ _ e]; exact h.cell hj
theorem Cells.other (h : Cells w g n f) {p : Addr} (hp : p.block ≠ g) (v : Value) : Cells (w.setCell p v) g n f :=
  ⟨by simpa using h.1, fun j hj => ⟨by rw [World.cell?_setCell_other _ _ _ _ (fun he => hp (by rw [he]))]; exact h.cell hj, by rw [World.frozen?_setCell]; exact h.free hj⟩⟩
theorem Cells.new (w : World) (c : Array Value) (t : TypeId) (n : Nat) (f : Nat → Value) (hc : ∀ i, i < n → c[i]? = some (f i)) : Cells (w.alloc (.cells c t)) w.heap.size n f :=
  ⟨by simp, fun i hi => ⟨by rw [World.cell?_alloc_new]; exact hc i hi, World.frozen?_alloc_new _ _ _ _⟩⟩
end

theorem drew2 (w : World) (m n : Nat) : (w.drewN m).drewN n = w.drewN (m + n) := World.drewN_drewN ..
theorem below_drewN {b : Nat} {a w : World} (h : Below b a w) (n : Nat) : Below b a (w.drewN n) := ⟨h.os, h.tape, h.output, h.size, h.block⟩

section
variable {P : Program} {ops : Array Oper} {rest : List Oper} {o : Oper} {a : Act} {Q : Exit → Act → World → Prop} {w : World}
theorem wp_of_run {K : Act → World → Prop} {v : Value} {w' : World} (hr : (execOp a.eval o).run P w = .ok (.value v) w') (h : K (a.put o.dst v) w') : o.wp P a w K Q := by
  unfold Oper.wp; rw [hr]; exact h

/-- 'make([]T, n)', an element one cell: what it gives, the world left open. -/
theorem wpList_make_cells (hgd : o.guard = none) (t : TypeId) (x : Operand) (ho : o.op = .makeSlice t x x) (e : TypeId) (z : Value) (bytes : Nat)
    (ht : P.underlying t = some (.slice e)) (hinfo : (P.info? e).map (fun i => (i.zero, i.size, i.bytes)) = some (some z, 1, bytes)) (hz1 : z.cells = #[z])
    (k : IntKind) (n : Nat) (hx : a.eval x = .int k (n : Int)) (hbytes : bytes * n ≤ 281474976710656) (h63 : n ≤ 9223372036854775807)
    (h : ∀ w', Cells w' w.heap.size n (fun _ => z) → Below w.heap.size w w' → w'.ownsRow w.heap.size e 1 (.slice (some ⟨w.heap.size, 0, none⟩) n n) n (List.replicate n z) →
      wpList P ops Q rest (a.put o.dst (.slice (some ⟨w.heap.size, 0, none⟩) n n)) w') : wpList P ops Q (o :: rest) a w := by
  refine wpList_plain hgd fun K hK => ?_
  have hr := run_make_row' (P := P) t e z bytes ht hinfo hz1 k k n hbytes h63 w
  refine wp_of_run (w' := w.alloc (.cells (madeCells #[z] n) e)) ?_ (hK _ _ (h _ ?_ ?_ ?_))
  · unfold execOp
    rw [ho]
    simp only [hx]
    simp [hr]
  · refine Cells.new w _ e n _ fun i hi => ?_
    simp [madeCells, hi, Nat.mod_one]
  · exact (Below.refl _ _).alloc (Nat.le_refl _) _
  · refine ⟨by simp, .inr ⟨w.heap.size, n, madeCells #[z] n, rfl, Nat.le_refl _, heap_alloc_new w _, Nat.le_refl _, h63, by simp [size_madeCells], ?_⟩⟩
    apply List.ext_getElem?
    intro i
    rw [List.getElem?_take]
    by_cases hi : i < n
    · simp [madeCells, hi, Nat.mod_one]
    · simp [hi]

/-- 'string([]byte{v})'. -/
@[go_sem high] theorem run_convert_one (W : World) (src dst e : TypeId) (v : Int) (n : Nat) (hn : n = W.heap.size) (hs : P.underlying src = some (.slice e)) (he : P.underlying e = some (.int .u8)) (hd : P.underlying dst = some .string) :
    (convert src dst (.slice (some ⟨n, 0, none⟩) 1 1)).run P (W.alloc (.cells #[.int .u8 v] e)) = .ok (.string (mkS [v])) (W.alloc (.cells #[.int .u8 v] e)) := by
  subst hn
  exact run_convert_bytes_arg (P := P) _ src e hs he W.heap.size 0 1 1 [v] rfl (fun i hi => by
    obtain rfl : i = 0 := by omega
    rw [Nat.zero_add, World.cell?_alloc_new]
    rfl) dst hd

/-- '[]byte(s)': what it gives, the world left open. -/
theorem wpList_bytes (hgd : o.guard = none) (x : Operand) (src dst e : TypeId) (ho : o.op = .convert src dst x) (hs : P.underlying src = some .string)
    (hd : P.underlying dst = some (.slice e)) (he : P.underlying e = some (.int .u8)) (s : ByteArray) (hx : a.eval x = .string s)
    (h : ∀ c w', Cells w' w.heap.size s.size (fun i => .int .u8 (bat s i)) → Below w.heap.size w w' →
      wpList P ops Q rest (a.put o.dst (.slice (some ⟨w.heap.size, 0, none⟩) s.size c)) w') : wpList P ops Q (o :: rest) a w := by
  refine wpList_plain hgd fun K hK => ?_
  have hr := run_bytes_of_string (P := P) w src dst e s hs hd he
  generalize hC : bytesRow s (grownCap w s.size 0 e) = C at hr
  have hsz : s.size ≤ C.size := by rw [← hC]; have : s.size = s.data.size := rfl; simp [bytesRow]
  refine wp_of_run (v := .slice (some ⟨w.heap.size, 0, none⟩) s.size (grownCap w s.size 0 e)) (w' := w.drew.alloc (.cells C e (C.size, C.size + 1))) ?_ (hK _ _ (h _ _ ?_ ((Below.refl w.heap.size w).drew.alloc (Nat.le_refl _) _)))
  · unfold execOp
    rw [ho]
    simp only [hx]
    simp [hr]
  · refine ⟨by simp, fun i hi => ⟨?_, ?_⟩⟩
    · refine (World.cell?_alloc_mark w.drew C e (C.size, C.size + 1) i).trans ?_
      rw [← hC, bytesRow_at s _ i hi]
      show _ = some (Value.int .u8 (bat s i))
      unfold bat
      rw [Int.toNat_natCast, List.getD_eq_getElem?_getD, List.getElem?_eq_getElem (by exact hi)]
      simp
    · refine (World.frozen?_alloc_mark w.drew C e C.size (C.size + 1) i).trans ?_
      simp; omega
end

theorem Cells.str {P : Program} {w : World} {g n : Nat} {f : Nat → Value} (h : Cells w g n f) (l : List Int) (hl : l.length = n) (hf : ∀ i (hi : i < n), f i = .int .u8 (l[i]'(by omega))) (src e dst : TypeId) (c : Nat)
    (hs : P.underlying src = some (.slice e)) (he : P.underlying e = some (.int .u8)) (hd : P.underlying dst = some .string) :
    (convert src dst (.slice (some ⟨g, 0, none⟩) n c)).run P w = .ok (.string (mkS l)) w :=
  run_convert_bytes_arg (P := P) w src e hs he g 0 n c l hl (fun i hi => by
    rw [Nat.zero_add, h.cell hi, hf i hi]
    simp [show i < l.length by omega]) dst hd
end Go.Proofs.Ytkegbbndmfnolaa
