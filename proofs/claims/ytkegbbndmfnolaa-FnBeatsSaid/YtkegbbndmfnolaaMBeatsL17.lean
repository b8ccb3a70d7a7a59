import Derived.Test.YtkegbbndmfnolaaMBeatsL01
import Derived.Test.YtkegbbndmfnolaaMBeatsL06
import Derived.Deep.Cut
import Derived.Deep.CutRange
import Derived.Test.YtkegbbndmfnolaaRows
import Derived.Test.YtkegbbndmfnolaaMBeatsL02
/-
  The reader of choices: contracts of the functions by which the reference draws its inputs.
-/
namespace Go.Proofs.Ytkegbbndmfnolaa
open Go.RowKit
set_option linter.unusedVariables false
set_option linter.unusedSimpArgs false
set_option maxRecDepth 100000

/-- A reader lies in block g: it has gone on at most K times. -/
structure CurAt (w : World) (g : Nat) (A : Option Addr) (n c : Nat) (at_ : Nat) (sd : Int) : Prop where
  lt : g < w.heap.size
  c0 : w.cell? ⟨g, 0, none⟩ = some (.slice A n c)
  c1 : w.cell? ⟨g, 1, none⟩ = some (.int .i64 (at_ : Int))
  c2 : w.cell? ⟨g, 2, none⟩ = some (.int .u64 sd)
  f1 : w.frozen? ⟨g, 1, none⟩ = false
  f2 : w.frozen? ⟨g, 2, none⟩ = false
  lo : 0 ≤ sd
  hi : sd < 18446744073709551616
  by_ : ∀ i : Nat, i < n → ∃ ga off v, A = some ⟨ga, off, none⟩ ∧ ga ≠ g ∧ ga < g ∧ w.cell? ⟨ga, off + i, none⟩ = some (.int .u8 v) ∧ 0 ≤ v ∧ v < 256
  nn : n ≤ 9223372036854775807
def Cur (w : World) (g K : Nat) : Prop := ∃ A n c at_ sd, CurAt w g A n c at_ sd ∧ at_ ≤ K
theorem Cur.lt {w : World} {g K : Nat} (h : Cur w g K) : g < w.heap.size := by obtain ⟨_, _, _, _, _, h, _⟩ := h; exact h.lt
theorem Cur.more {w : World} {g K K' : Nat} (h : Cur w g K) (hk : K ≤ K') : Cur w g K' := by obtain ⟨A, n, c, a, s, h, h2⟩ := h; exact ⟨A, n, c, a, s, h, Nat.le_trans h2 hk⟩
theorem Cur.later {w w' : World} {g K : Nat} (h : Cur w g K) (hb : Below w.heap.size w w') : Cur w' g K := by
  obtain ⟨A, n, c, a, s, h, h2⟩ := h
  exact ⟨A, n, c, a, s, ⟨Nat.lt_of_lt_of_le h.lt hb.size, (hb.cell (p := ⟨g, 0, none⟩) h.lt).trans h.c0, (hb.cell (p := ⟨g, 1, none⟩) h.lt).trans h.c1, (hb.cell (p := ⟨g, 2, none⟩) h.lt).trans h.c2, (hb.frozen (p := ⟨g, 1, none⟩) h.lt).trans h.f1, (hb.frozen (p := ⟨g, 2, none⟩) h.lt).trans h.f2, h.lo, h.hi,
    fun i hi => by obtain ⟨ga, off, v, h1, h3, h4, h5, h6⟩ := h.by_ i hi; exact ⟨ga, off, v, h1, h3, h4, (hb.cell (p := ⟨ga, off + i, none⟩) (Nat.lt_trans h4 h.lt)).trans h5, h6⟩, h.nn⟩, h2⟩
theorem Cur.keep {w w' : World} {g K b : Nat} (h : Cur w g K) (hb : Below b w w') (hg : g < b) : Cur w' g K := by
  obtain ⟨A, n, c, a, s, h, h2⟩ := h
  exact ⟨A, n, c, a, s, ⟨Nat.lt_of_lt_of_le h.lt hb.size, (hb.cell (p := ⟨g, 0, none⟩) hg).trans h.c0, (hb.cell (p := ⟨g, 1, none⟩) hg).trans h.c1, (hb.cell (p := ⟨g, 2, none⟩) hg).trans h.c2, (hb.frozen (p := ⟨g, 1, none⟩) hg).trans h.f1, (hb.frozen (p := ⟨g, 2, none⟩) hg).trans h.f2, h.lo, h.hi,
    fun i hi => by obtain ⟨ga, off, v, h1, h3, h4, h5, h6⟩ := h.by_ i hi; exact ⟨ga, off, v, h1, h3, h4, (hb.cell (p := ⟨ga, off + i, none⟩) (Nat.lt_trans h4 hg)).trans h5, h6⟩, h.nn⟩, h2⟩
/-- Only block g has turned; what is new is new. -/
abbrev Turn (g : Nat) (w w' : World) : Prop := Chg g (g + 1) w w'
theorem Turn.trans {g : Nat} {a b c : World} (h : Turn g a b) (k : Turn g b c) : Turn g a c :=
  ⟨k.os.trans h.os, k.tape.trans h.tape, k.output.trans h.output, Nat.le_trans h.size k.size, fun i hi hr => (k.block i (Nat.lt_of_lt_of_le hi h.size) hr).trans (h.block i hi hr)⟩
theorem Turn.of {g : Nat} {a b : World} (k : Below a.heap.size a b) : Turn g a b := ⟨k.os, k.tape, k.output, k.size, fun i hi _ => k.block i hi⟩
theorem Turn.then {g : Nat} {a b c : World} (h : Turn g a b) (k : Below b.heap.size b c) : Turn g a c := h.trans (Turn.of k)
theorem Turn.cell {g : Nat} {a b : World} {p : Addr} (h : Turn g a b) (hp : p.block < a.heap.size) (hg : p.block ≠ g) : b.cell? p = a.cell? p := World.cell?_of_block (a := p) (h.block p.block hp (by omega))
theorem wrap_u64 (x : Int) : 0 ≤ IntKind.u64.wrap x ∧ IntKind.u64.wrap x < 18446744073709551616 := by
  unfold IntKind.wrap
  simp only [IntKind.signed, IntKind.bits]
  constructor <;> (try simp) <;> omega
theorem and255 (x : Int) : 0 ≤ wrap64 (bits .and .u64 x 255) ∧ wrap64 (bits .and .u64 x 255) < 256 := by
  have h : ∃ m : Nat, m < 256 ∧ bits .and .u64 x 255 = (m : Int) := by
    refine ⟨(BitVec.ofInt 64 x &&& BitVec.ofInt 64 255).toNat, ?_, ?_⟩
    · rw [BitVec.toNat_and]
      have : (BitVec.ofInt 64 255).toNat = 255 := by decide
      rw [this]
      exact Nat.lt_of_le_of_lt Nat.and_le_right (by omega)
    · show IntKind.u64.wrap ((BitVec.ofInt 64 x &&& BitVec.ofInt 64 255).toNat : Int) = _
      have hlt := (BitVec.ofInt 64 x &&& BitVec.ofInt 64 255).isLt
      generalize (BitVec.ofInt 64 x &&& BitVec.ofInt 64 255).toNat = m at hlt ⊢
      unfold IntKind.wrap
      simp only [IntKind.signed, IntKind.bits]
      simp
      omega
  obtain ⟨m, hm, e⟩ := h
  rw [e]
  unfold wrap64
  omega
theorem CurAt.moved {w : World} {g : Nat} {A : Option Addr} {n c at_ K : Nat} {sd : Int} (h : CurAt w g A n c at_ sd) (s' : Int) (hs : 0 ≤ s' ∧ s' < 18446744073709551616) (hK : at_ ≤ K) (i j : Nat) :
    Cur ((((w.drewN i).setCell ⟨g, 1, none⟩ (.int .i64 ((at_ : Int) + 1))).setCell ⟨g, 2, none⟩ (.int .u64 s')).drewN j) g (K + 1) ∧ Turn g w ((((w.drewN i).setCell ⟨g, 1, none⟩ (.int .i64 ((at_ : Int) + 1))).setCell ⟨g, 2, none⟩ (.int .u64 s')).drewN j) := by
  have hT : Turn g w (((w.setCell ⟨g, 1, none⟩ (.int .i64 ((at_ : Int) + 1))).setCell ⟨g, 2, none⟩ (.int .u64 s'))) := ((Chg.refl _ _ w).setCell (p := ⟨g, 1, none⟩) (Nat.le_refl _) (Nat.lt_succ_self _) _).setCell (p := ⟨g, 2, none⟩) (Nat.le_refl _) (Nat.lt_succ_self _) _
  refine ⟨?_, ⟨hT.os, hT.tape, hT.output, hT.size, hT.block⟩⟩
  refine ⟨A, n, c, at_ + 1, s', ⟨?_, ?_, ?_, ?_, ?_, ?_, hs.1, hs.2, fun k hk => ?_, h.nn⟩, by omega⟩
  · exact Nat.lt_of_lt_of_le h.lt hT.size
  · show (((w.setCell ⟨g, 1, none⟩ (.int .i64 ((at_ : Int) + 1))).setCell ⟨g, 2, none⟩ (.int .u64 s'))).cell? ⟨g, 0, none⟩ = _
    rw [World.cell?_setCell_other _ _ _ _ (fun e => by injection e with _ e; omega), World.cell?_setCell_other _ _ _ _ (fun e => by injection e with _ e; omega)]; exact h.c0
  · show (((w.setCell ⟨g, 1, none⟩ (.int .i64 ((at_ : Int) + 1))).setCell ⟨g, 2, none⟩ (.int .u64 s'))).cell? ⟨g, 1, none⟩ = _
    rw [World.cell?_setCell_other _ _ _ _ (fun e => by injection e with _ e; omega), World.cell?_setCell_same _ _ _ h.c1]; rfl
  · show (((w.setCell ⟨g, 1, none⟩ (.int .i64 ((at_ : Int) + 1))).setCell ⟨g, 2, none⟩ (.int .u64 s'))).cell? ⟨g, 2, none⟩ = _
    exact World.cell?_setCell_same _ _ _ ((World.cell?_setCell_other w ⟨g, 1, none⟩ ⟨g, 2, none⟩ _ (fun e => by injection e with _ e; omega)).trans h.c2)
  · show (((w.setCell ⟨g, 1, none⟩ (.int .i64 ((at_ : Int) + 1))).setCell ⟨g, 2, none⟩ (.int .u64 s'))).frozen? ⟨g, 1, none⟩ = _
    rw [World.frozen?_setCell, World.frozen?_setCell]; exact h.f1
  · show (((w.setCell ⟨g, 1, none⟩ (.int .i64 ((at_ : Int) + 1))).setCell ⟨g, 2, none⟩ (.int .u64 s'))).frozen? ⟨g, 2, none⟩ = _
    rw [World.frozen?_setCell, World.frozen?_setCell]; exact h.f2
  · obtain ⟨ga, off, v, h1, h3, h4, h5, h6⟩ := h.by_ k hk
    exact ⟨ga, off, v, h1, h3, h4, (hT.cell (p := ⟨ga, off + k, none⟩) (Nat.lt_trans h4 h.lt) h3).trans h5, h6⟩
set_option maxHeartbeats 1600000 in
theorem next_any (g K : Nat) (w : World) (h : Cur w g K) (hK : K ≤ 1000000000) :
    Calls Try.prog 80 #[.pointer (some ⟨g, 0, none⟩)] w fun e w' => ∃ x, e = .returned (.int .i64 x) ∧ 0 ≤ x ∧ x < 256 ∧ Cur w' g (K + 1) ∧ Turn g w w' := by
  obtain ⟨A, n, c, a, sd, h, hak⟩ := h
  have hH := Lib.hid h
  have c0 := h.c0
  have c1 := h.c1
  have c2 := h.c2
  have f1 := h.f1
  have f2 := h.f2
  have hnn := h.nn
  obtain ⟨gl, glo, ghi⟩ := And.intro h.lt (And.intro h.lo h.hi)
  by_cases ha : a < n
  · obtain ⟨ga, off, v, hA, hne, hlt, hv, hv1, hv2⟩ := h.by_ a ha
    subst hA
    clear h
    have d1 : decide ((a : Int) < (n : Int)) = true := by simp; omega
    have d2 : decide ((a : Int) + 1 ≤ (n : Int)) = true := by simp; omega
    go_enter Try.func80, Try.ntmps80
    go_wp2
    go_quiet (fail)
    go_wp2
    go_quiet (fail)
    go_wp2
    go_quiet (fail)
    go_wp2
    go_ret
    have hm := hH.out.moved (IntKind.u64.wrap (IntKind.u64.wrap (IntKind.u64.wrap (sd * 6364136223846793005) + v) + 1442695040888963407)) (wrap_u64 _) hak
    exact ⟨v, rfl, hv1, hv2, (hm _ _).1, (hm _ _).2⟩
  · clear h
    have d1 : decide ((a : Int) < (n : Int)) = false := by simp; omega
    have d2 : decide ((a : Int) + 1 ≤ (n : Int)) = false := by simp; omega
    go_enter Try.func80, Try.ntmps80
    go_wp2
    go_quiet (fail)
    go_wp2
    go_quiet (fail)
    go_wp2
    go_ret
    have hm := hH.out.moved (IntKind.u64.wrap (IntKind.u64.wrap (IntKind.u64.wrap (sd * 6364136223846793005)) + 1442695040888963407)) (wrap_u64 _) hak
    have hb := and255 (IntKind.u64.wrap (IntKind.u64.wrap (IntKind.u64.wrap (sd * 6364136223846793005)) + 1442695040888963407) / 1099511627776)
    exact ⟨_, rfl, hb.1, hb.2, (hm _ _).1, (hm _ _).2⟩
theorem tmod_in {x n : Int} (h0 : 0 ≤ x) (hn : 1 < n) : 0 ≤ x % n ∧ x % n < n :=
  ⟨Int.emod_nonneg _ (by omega), Int.emod_lt_of_pos _ (by omega)⟩
set_option maxHeartbeats 1600000 in
theorem pick_any (g K : Nat) (n : Int) (w : World) (h : Cur w g K) (hK : K ≤ 100000000) (hn : n ≤ 1000000) :
    Calls Try.prog 61 #[.pointer (some ⟨g, 0, none⟩), .int .i64 n] w fun e w' => ∃ x, e = .returned (.int .i64 x) ∧ 0 ≤ x ∧ (x < n ∨ x = 0) ∧ Cur w' g (K + 2) ∧ Turn g w w' := by
  have H := Lib.hid h
  clear h
  by_cases h1 : n ≤ 1
  · have d1 : decide (n ≤ 1) = true := decide_eq_true h1
    go_enter Try.func61, Try.ntmps61
    go_wp2
    go_ret
    exact ⟨0, rfl, by omega, .inr rfl, H.out.more (by omega), Chg.refl _ _ _⟩
  · have d1 : decide (n ≤ 1) = false := decide_eq_false h1
    have hn1 : 1 < n := by omega
    have hn0 : n ≠ 0 := by omega
    by_cases h2 : 200 < n
    · have d2 : decide (200 < n) = true := decide_eq_true h2
      go_enter Try.func61, Try.ntmps61
      go_upto_region 5 with (go_at_call 80; refine (next_any g K _ H.out (by omega)).mono ?_; rintro e w1 ⟨x, rfl, hx0, hx1, hc, ht⟩; have HC := Lib.hid hc; have HT := Lib.hid ht; clear hc ht)
      go_wp2_with (go_at_call 80; refine (next_any g (K + 1) _ HC.out (by omega)).mono ?_; rintro e w2 ⟨y, rfl, hy0, hy1, hc, ht⟩; have HC2 := Lib.hid hc; have HT2 := Lib.hid ht; clear hc ht)
      go_ret
      have := tmod_in (x := x * 256 + y) (by omega) hn1
      exact ⟨_, rfl, this.1, .inl this.2, HC2.out, HT.out.trans HT2.out⟩
    · have d2 : decide (200 < n) = false := decide_eq_false h2
      go_enter Try.func61, Try.ntmps61
      go_wp2_with (go_at_call 80; refine (next_any g K _ H.out (by omega)).mono ?_; rintro e w1 ⟨x, rfl, hx0, hx1, hc, ht⟩; have HC := Lib.hid hc; have HT := Lib.hid ht; clear hc ht)
      go_ret
      have := tmod_in (x := x) hx0 hn1
      exact ⟨_, rfl, this.1, .inl this.2, HC.out.more (by omega), HT.out⟩
theorem one_any (g K : Nat) (n : Int) (w : World) (h : Cur w g K) (hK : K ≤ 100000000) (hn : n ≤ 1000000) :
    Calls Try.prog 102 #[.pointer (some ⟨g, 0, none⟩), .int .i64 n] w fun e w' => ∃ b, e = .returned (.bool b) ∧ Cur w' g (K + 2) ∧ Turn g w w' := by
  have H := Lib.hid h
  clear h
  go_enter Try.func102, Try.ntmps102
  go_wp2_with (go_at_call 61; refine (pick_any g K n _ H.out (by omega) (by omega)).mono ?_; rintro e w1 ⟨x, rfl, hx0, hx1, hc, ht⟩; have HC := Lib.hid hc; have HT := Lib.hid ht; clear hc ht)
  go_ret
  exact ⟨_, rfl, HC.out, HT.out⟩
set_option maxHeartbeats 1600000 in
theorem among_any (g K ga n c : Nat) (f : Nat → Value) (P : Int → Prop) (w : World) (h : Cur w g K) (hK : K ≤ 100000000) (hn : n ≤ 1000) (h0 : 0 < n) (hc : Cells w ga n f) (hg : ga ≠ g) (hf : ∀ k, k < n → ∃ x, f k = .int .i64 x ∧ P x) :
    Calls Try.prog 51 #[.pointer (some ⟨g, 0, none⟩), .slice (some ⟨ga, 0, none⟩) n c] w fun e w' => ∃ x, e = .returned (.int .i64 x) ∧ P x ∧ Cur w' g (K + 2) ∧ Turn g w w' := by
  have H := Lib.hid h
  have Hc := Lib.hid hc
  have Hf := Lib.hid hf
  clear h hc hf
  go_enter Try.func51, Try.ntmps51
  go_wp2_with (go_at_call 61; refine (pick_any g K (n : Int) _ H.out (by omega) (by omega)).mono ?_; rintro e w1 ⟨x, rfl, hx0, hx1, hc, ht⟩; have HC := Lib.hid hc; have HT := Lib.hid ht; clear hc ht; obtain ⟨k, rfl⟩ : ∃ k : Nat, x = (k : Int) := ⟨x.toNat, by omega⟩; have hk : k < n := (by omega); obtain ⟨y, hy, hP⟩ := Hf.out k hk; have hcell := (HT.out.cell (p := ⟨ga, k, none⟩) Hc.out.lt hg).trans (Hc.out.cell hk); rw [hy] at hcell; have HP := Lib.hid hP; clear hP hy)
  go_ret
  exact ⟨_, rfl, HP.out, HC.out, HT.out⟩
set_option maxHeartbeats 1600000 in
theorem of_any (g K ga n c : Nat) (f : Nat → Value) (P : ByteArray → Prop) (w : World) (h : Cur w g K) (hK : K ≤ 100000000) (hn : n ≤ 1000) (h0 : 0 < n) (hc : Cells w ga n f) (hg : ga ≠ g) (hf : ∀ k, k < n → ∃ x, f k = .string x ∧ P x) :
    Calls Try.prog 130 #[.pointer (some ⟨g, 0, none⟩), .slice (some ⟨ga, 0, none⟩) n c] w fun e w' => ∃ x, e = .returned (.string x) ∧ P x ∧ Cur w' g (K + 2) ∧ Turn g w w' := by
  have H := Lib.hid h
  have Hc := Lib.hid hc
  have Hf := Lib.hid hf
  clear h hc hf
  go_enter Try.func130, Try.ntmps130
  go_wp2_with (go_at_call 61; refine (pick_any g K (n : Int) _ H.out (by omega) (by omega)).mono ?_; rintro e w1 ⟨x, rfl, hx0, hx1, hc, ht⟩; have HC := Lib.hid hc; have HT := Lib.hid ht; clear hc ht; obtain ⟨k, rfl⟩ : ∃ k : Nat, x = (k : Int) := ⟨x.toNat, by omega⟩; have hk : k < n := (by omega); obtain ⟨y, hy, hP⟩ := Hf.out k hk; have hcell := (HT.out.cell (p := ⟨ga, k, none⟩) Hc.out.lt hg).trans (Hc.out.cell hk); rw [hy] at hcell; have HP := Lib.hid hP; clear hP hy)
  go_ret
  exact ⟨_, rfl, HP.out, HC.out, HT.out⟩
/-- A new block of literal values. -/
theorem Cells.lit (w : World) (c : Array Value) (t : TypeId) (n : Nat) (h : c.size = n) : Cells (w.alloc (.cells c t)) w.heap.size n (fun i => c.getD i undef) := by subst h; exact Cells.new w c t _ _ fun i hi => by simp [Array.getD, hi]
def encByte (v : Int) : List Value := [.int .u8 v]
/-- A new reader over some bytes. -/
theorem Cur.new {w : World} {A : Option Addr} {c : Nat} {l : List Int} (h : RdL w w.heap.size A 1 encByte l) (hb : ∀ x ∈ l, 0 ≤ x ∧ x < 256) (hl : l.length ≤ 9223372036854775807) (t : TypeId) :
    Cur (w.alloc (.cells #[.slice A l.length c, .int .i64 0, .int .u64 0] t)) w.heap.size 0 := by
  have hc := Cells.lit w #[.slice A l.length c, .int .i64 0, .int .u64 0] t 3 rfl
  have hbl : Below w.heap.size w (w.alloc (.cells #[.slice A l.length c, .int .i64 0, .int .u64 0] t)) := (Below.refl _ _).alloc (Nat.le_refl _) _
  refine ⟨A, l.length, c, 0, 0, ⟨hc.lt, hc.cell (i := 0) (by omega), hc.cell (i := 1) (by omega), hc.cell (i := 2) (by omega), hc.free (i := 1) (by omega), hc.free (i := 2) (by omega), by omega, by omega, fun i hi => ?_, hl⟩, Nat.le_refl _⟩
  obtain ⟨ga, off, hA, hg, hcell⟩ := h.at hi
  have hv := hb _ (List.getElem_mem hi)
  have h0 := hcell 0 _ rfl
  rw [Nat.mul_one, Nat.add_zero] at h0
  exact ⟨ga, off, l[i], hA, Nat.ne_of_lt hg, hg, (hbl.cell (p := ⟨ga, off + i, none⟩) hg).trans h0, hv⟩
end Go.Proofs.Ytkegbbndmfnolaa

/-
  A law's argument of bytes.
-/
namespace Go.Proofs.Ytkegbbndmfnolaa
open Go.RowKit Go.ChangeShapes Go.WideShapes
set_option linter.unusedVariables false
set_option linter.unusedSimpArgs false
set_option maxRecDepth 100000
def Byte_small (lim : Int) (x : Int) : Prop := 0 ≤ x ∧ x < 256
theorem Byte_el {H : Type} {en : TypeId × Value → H} {w : World} {base : Nat} {spare : Nat → Bool} {held : Bool} (n : Nat) (cs : List Value) (y : DataW H × List MemPlace) (h : DataW.trod en Try.prog w base spare held n 5 cs = some y) : ∃ x : Int, cs = encByte x ∧ Byte_small 9223372036854775807 x := by
  obtain ⟨a, rfl, _, hw⟩ := DataW.trod_int Try.underlying5 h
  refine ⟨a, rfl, ?_⟩
  simp [Lit.wf, IntKind.min, IntKind.max, IntKind.signed, IntKind.bits] at hw
  unfold Byte_small; omega
end Go.Proofs.Ytkegbbndmfnolaa
