/-
  Valid books of records: in plain words, and the contracts of both sides.
-/
import Derived.Test.YtdegbckoejddeaaRecord
import Derived.Test.YtdegbckoejddeaaTurns
import Derived.Test.YtdegbckoejddeaaStrEq
import Derived.Test.YtdegbckoejddeaaQuiet
namespace Go.Proofs.Ytdegbckoejddeaa
open Go.RowKit
set_option linter.unusedVariables false
set_option linter.unusedSimpArgs false
set_option maxRecDepth 100000

/-- Alike: of the same method, and the touches are turns of one another. -/
def alikeP (x : Rcd) (m t : ByteArray) : Prop := x.meth = m ∧ leastB x.touch = leastB t
/-- One of the first elements is alike. -/
def likeUpTo (l : List Rcd) (n : Nat) (m t : ByteArray) : Prop := ∃ (j : Nat) (h : j < l.length), j < n ∧ alikeP l[j] m t
def bookAt (l : List Rcd) (i : Nat) (hi : i < l.length) : Prop := recP l[i] ∧ (∀ (h0 : 0 < i), l[i - 1].day ≤ l[i].day) ∧ ¬ likeUpTo l i l[i].meth l[i].touch
/-- A valid book. -/
def bookP (l : List Rcd) : Prop := l.length ≤ 20 ∧ ∀ (i : Nat) (hi : i < l.length), bookAt l i hi
/-- The first of the first n elements that is alike, -1 for none. -/
noncomputable def firstLike (l : List Rcd) (m t : ByteArray) : Nat → Int
  | 0 => -1
  | k + 1 => if 0 ≤ firstLike l m t k then firstLike l m t k else if B (∃ h : k < l.length, alikeP l[k] m t) = true then (k : Int) else -1
theorem firstLike_none {l : List Rcd} {m t : ByteArray} : ∀ n, (∀ (j : Nat) (hj : j < l.length), j < n → ¬ alikeP l[j] m t) → firstLike l m t n = -1
  | 0, _ => rfl
  | k + 1, h => by
    simp only [firstLike]
    rw [firstLike_none k (fun j hj hk => h j hj (by omega)), if_neg (by omega), if_neg]
    rw [B_f (fun ⟨h1, h2⟩ => h k h1 (by omega) h2)]
    simp
theorem firstLike_some {l : List Rcd} {m t : ByteArray} {k : Nat} (hk : k < l.length) (h : alikeP l[k] m t) (hn : ∀ (j : Nat) (hj : j < l.length), j < k → ¬ alikeP l[j] m t) : ∀ n, k < n → firstLike l m t n = (k : Int)
  | 0, h0 => by omega
  | n + 1, h0 => by
    simp only [firstLike]
    by_cases e : k = n
    · subst e
      rw [firstLike_none k hn, if_neg (by omega), if_pos (B_t ⟨hk, h⟩)]
    · rw [firstLike_some hk h hn n (by omega), if_pos (by omega)]
theorem firstLike_pos {l : List Rcd} {m t : ByteArray} : ∀ n, 0 ≤ firstLike l m t n ↔ likeUpTo l n m t
  | 0 => by simp [firstLike, likeUpTo]
  | n + 1 => by
    simp only [firstLike]
    have ih := firstLike_pos (l := l) (m := m) (t := t) n
    by_cases h : 0 ≤ firstLike l m t n
    · rw [if_pos h]
      refine ⟨fun _ => ?_, fun _ => h⟩
      obtain ⟨j, h1, h2, h3⟩ := ih.1 h
      exact ⟨j, h1, by omega, h3⟩
    · rw [if_neg h]
      by_cases c : ∃ h : n < l.length, alikeP l[n] m t
      · rw [if_pos (B_t c)]
        obtain ⟨c1, c2⟩ := c
        exact ⟨fun _ => ⟨n, c1, by omega, c2⟩, fun _ => by omega⟩
      · rw [if_neg (by rw [B_f c]; simp)]
        refine ⟨fun h => absurd h (by omega), fun ⟨j, h1, h2, h3⟩ => ?_⟩
        rcases Nat.lt_or_eq_of_le (Nat.le_of_lt_succ h2) with h' | rfl
        · exact absurd (ih.2 ⟨j, h1, h', h3⟩) h
        · exact absurd ⟨h1, h3⟩ c
theorem firstLike_le {l : List Rcd} {m t : ByteArray} : ∀ n : Nat, -1 ≤ firstLike l m t n ∧ firstLike l m t n < n
  | 0 => by simp [firstLike]
  | n + 1 => by
    have ih := firstLike_le (l := l) (m := m) (t := t) n
    simp only [firstLike]
    split
    · omega
    · split <;> omega


theorem alike_any (x : Rcd) (m t : ByteArray) (w : World) (h1 : touchP x.touch) (h2 : touchP t) :
    Calls Try.prog 86 #[.agg #[.int .i64 x.day, .string x.meth, .string x.touch, .int .i64 x.rows, .string x.note], .string m, .string t] w fun e w' => e = .returned (.bool (B (alikeP x m t))) ∧ Below w.heap.size w w' := by
  have H1 := Lib.hid h1
  have H2 := Lib.hid h2
  have hb0 : Hid (Below w.heap.size w (w.alloc (.cells #[.int .i64 x.day, .string x.meth, .string x.touch, .int .i64 x.rows, .string x.note] 109))) := Lib.hid ((Below.refl _ _).alloc (Nat.le_refl _) _)
  clear h1 h2
  by_cases c1 : x.meth = m
  · have e1 := eqB_t c1
    have C1 := Lib.hid c1
    clear c1
    by_cases c2 : leastB x.touch = leastB t
    · have e2 := eqB_t c2
      have C2 := Lib.hid c2
      clear c2
      go_enter Try.func86, Try.ntmps86
      go_wp2_with (first | (go_at_call 140; (with_reducible show Calls _ _ #[.string x.touch, _] _ _); refine (leastTurn_t x.touch _ H1.out).mono ?_; rintro e w1 ⟨rfl, hb1⟩) | (go_at_call 140; refine (leastTurn_t t _ H2.out).mono ?_; rintro e w2 ⟨rfl, hb2⟩))
      go_ret
      exact ⟨ret_t ⟨C1.out, C2.out⟩, (hb0.out.trans (hb1.mono hb0.out.size)).trans (hb2.mono (Nat.le_trans hb0.out.size hb1.size))⟩
    · have e2 := eqB_f c2
      have C2 := Lib.hid c2
      clear c2
      go_enter Try.func86, Try.ntmps86
      go_wp2_with (first | (go_at_call 140; (with_reducible show Calls _ _ #[.string x.touch, _] _ _); refine (leastTurn_t x.touch _ H1.out).mono ?_; rintro e w1 ⟨rfl, hb1⟩) | (go_at_call 140; refine (leastTurn_t t _ H2.out).mono ?_; rintro e w2 ⟨rfl, hb2⟩))
      go_ret
      exact ⟨ret_f (fun h => C2.out h.2), (hb0.out.trans (hb1.mono hb0.out.size)).trans (hb2.mono (Nat.le_trans hb0.out.size hb1.size))⟩
  · have e1 := eqB_f c1
    have C1 := Lib.hid c1
    clear c1
    go_enter Try.func86, Try.ntmps86
    go_wp2_with fail
    go_ret
    exact ⟨ret_f (fun h => C1.out h.1), hb0.out⟩
theorem l28Alike_any (x y : Rcd) (w : World) (h1 : touchP x.touch) (h2 : touchP y.touch) :
    Calls Try.prog 137 #[.agg #[.int .i64 x.day, .string x.meth, .string x.touch, .int .i64 x.rows, .string x.note], .agg #[.int .i64 y.day, .string y.meth, .string y.touch, .int .i64 y.rows, .string y.note]] w fun e w' => e = .returned (.bool (B (alikeP x y.meth y.touch))) ∧ Below w.heap.size w w' := by
  have H1 := Lib.hid h1
  have H2 := Lib.hid h2
  have hb0 : Hid (Below w.heap.size w ((w.alloc (.cells #[.int .i64 x.day, .string x.meth, .string x.touch, .int .i64 x.rows, .string x.note] 109)).alloc (.cells #[.int .i64 y.day, .string y.meth, .string y.touch, .int .i64 y.rows, .string y.note] 109))) := Lib.hid (((Below.refl _ _).alloc (Nat.le_refl _) _).alloc (by simp) _)
  have a1 : Hid (((w.alloc (.cells #[.int .i64 x.day, .string x.meth, .string x.touch, .int .i64 x.rows, .string x.note] 109)).alloc (.cells #[.int .i64 y.day, .string y.meth, .string y.touch, .int .i64 y.rows, .string y.note] 109)).cell? ⟨w.heap.size + 1, 1, none⟩ = some (.string y.meth)) := Lib.hid (by rw [show w.heap.size + 1 = (w.alloc (.cells #[.int .i64 x.day, .string x.meth, .string x.touch, .int .i64 x.rows, .string x.note] 109)).heap.size from by simp, World.cell?_alloc_new]; rfl)
  have a2 : Hid (((w.alloc (.cells #[.int .i64 x.day, .string x.meth, .string x.touch, .int .i64 x.rows, .string x.note] 109)).alloc (.cells #[.int .i64 y.day, .string y.meth, .string y.touch, .int .i64 y.rows, .string y.note] 109)).cell? ⟨w.heap.size + 1, 2, none⟩ = some (.string y.touch)) := Lib.hid (by rw [show w.heap.size + 1 = (w.alloc (.cells #[.int .i64 x.day, .string x.meth, .string x.touch, .int .i64 x.rows, .string x.note] 109)).heap.size from by simp, World.cell?_alloc_new]; rfl)
  have a3 : Hid (((w.alloc (.cells #[.int .i64 x.day, .string x.meth, .string x.touch, .int .i64 x.rows, .string x.note] 109)).alloc (.cells #[.int .i64 y.day, .string y.meth, .string y.touch, .int .i64 y.rows, .string y.note] 109)).cell? ⟨w.heap.size, 1, none⟩ = some (.string x.meth)) := Lib.hid (by rw [World.cell?_alloc_lt _ _ _ (by simp), World.cell?_alloc_new]; rfl)
  clear h1 h2
  by_cases c1 : x.meth = y.meth
  · have e1 := eqB_t c1
    have C1 := Lib.hid c1
    clear c1
    by_cases c2 : leastB x.touch = leastB y.touch
    · have e2 := eqB_t c2
      have C2 := Lib.hid c2
      clear c2
      go_enter Try.func137, Try.ntmps137
      go_wp2_with (first | (go_at_call 169; (with_reducible show Calls _ _ #[.string x.touch, _] _ _); refine (sLeastTurn_t x.touch _ H1.out).mono ?_; rintro e w1 ⟨rfl, hb1⟩; have q1 := (hb1.cell (p := ⟨w.heap.size + 1, 1, none⟩) (by simp)).trans a1.out; have q2 := (hb1.cell (p := ⟨w.heap.size + 1, 2, none⟩) (by simp)).trans a2.out; have q3 := (hb1.cell (p := ⟨w.heap.size, 1, none⟩) (by simp <;> omega)).trans a3.out; have hz1 : w.heap.size + 1 < w1.heap.size := Nat.lt_of_lt_of_le (by simp) hb1.size) | (go_at_call 169; refine (sLeastTurn_t y.touch _ H2.out).mono ?_; rintro e w2 ⟨rfl, hb2⟩; have q4 := (hb2.cell (p := ⟨w.heap.size + 1, 1, none⟩) (show w.heap.size + 1 < w1.heap.size by omega)).trans q1; have q5 := (hb2.cell (p := ⟨w.heap.size, 1, none⟩) (show w.heap.size < w1.heap.size by omega)).trans q3))
      go_ret
      exact ⟨ret_t ⟨C1.out, C2.out⟩, (hb0.out.trans (hb1.mono hb0.out.size)).trans (hb2.mono (Nat.le_trans hb0.out.size hb1.size))⟩
    · have e2 := eqB_f c2
      have C2 := Lib.hid c2
      clear c2
      go_enter Try.func137, Try.ntmps137
      go_wp2_with (first | (go_at_call 169; (with_reducible show Calls _ _ #[.string x.touch, _] _ _); refine (sLeastTurn_t x.touch _ H1.out).mono ?_; rintro e w1 ⟨rfl, hb1⟩; have q1 := (hb1.cell (p := ⟨w.heap.size + 1, 1, none⟩) (by simp)).trans a1.out; have q2 := (hb1.cell (p := ⟨w.heap.size + 1, 2, none⟩) (by simp)).trans a2.out; have q3 := (hb1.cell (p := ⟨w.heap.size, 1, none⟩) (by simp <;> omega)).trans a3.out; have hz1 : w.heap.size + 1 < w1.heap.size := Nat.lt_of_lt_of_le (by simp) hb1.size) | (go_at_call 169; refine (sLeastTurn_t y.touch _ H2.out).mono ?_; rintro e w2 ⟨rfl, hb2⟩; have q4 := (hb2.cell (p := ⟨w.heap.size + 1, 1, none⟩) (show w.heap.size + 1 < w1.heap.size by omega)).trans q1; have q5 := (hb2.cell (p := ⟨w.heap.size, 1, none⟩) (show w.heap.size < w1.heap.size by omega)).trans q3))
      go_ret
      exact ⟨ret_f (fun h => C2.out h.2), (hb0.out.trans (hb1.mono hb0.out.size)).trans (hb2.mono (Nat.le_trans hb0.out.size hb1.size))⟩
  · have e1 := eqB_f c1
    have C1 := Lib.hid c1
    clear c1
    go_enter Try.func137, Try.ntmps137
    go_wp2_with (first | (go_at_call 169; (with_reducible show Calls _ _ #[.string x.touch, _] _ _); refine (sLeastTurn_t x.touch _ H1.out).mono ?_; rintro e w1 ⟨rfl, hb1⟩; have q1 := (hb1.cell (p := ⟨w.heap.size + 1, 1, none⟩) (by simp)).trans a1.out; have q2 := (hb1.cell (p := ⟨w.heap.size + 1, 2, none⟩) (by simp)).trans a2.out; have q3 := (hb1.cell (p := ⟨w.heap.size, 1, none⟩) (by simp <;> omega)).trans a3.out; have hz1 : w.heap.size + 1 < w1.heap.size := Nat.lt_of_lt_of_le (by simp) hb1.size) | (go_at_call 169; refine (sLeastTurn_t y.touch _ H2.out).mono ?_; rintro e w2 ⟨rfl, hb2⟩; have q4 := (hb2.cell (p := ⟨w.heap.size + 1, 1, none⟩) (show w.heap.size + 1 < w1.heap.size by omega)).trans q1; have q5 := (hb2.cell (p := ⟨w.heap.size, 1, none⟩) (show w.heap.size < w1.heap.size by omega)).trans q3))
    go_ret
    exact ⟨ret_f (fun h => C1.out h.1), (hb0.out.trans (hb1.mono hb0.out.size)).trans (hb2.mono (Nat.le_trans hb0.out.size hb1.size))⟩
/-! ### The program's search -/


theorem bookFn_any (y : Rcd) (gx : Nat) (m t : ByteArray) (w : World) (p1 : w.cell? ⟨gx, 1, none⟩ = some (.string m)) (p2 : w.cell? ⟨gx, 2, none⟩ = some (.string t)) (hgx : gx < w.heap.size) (h1 : touchP y.touch) (h2 : touchP t) :
    Calls Try.prog 85 #[.agg #[.int .i64 y.day, .string y.meth, .string y.touch, .int .i64 y.rows, .string y.note], .pointer (some ⟨gx, 0, none⟩)] w fun e w' => e = .returned (.bool (B (alikeP y m t))) ∧ Below w.heap.size w w' := by
  have H1 := Lib.hid h1
  have H2 := Lib.hid h2
  clear h1 h2
  have hb0 : Hid (Below w.heap.size w (w.alloc (.cells #[.int .i64 y.day, .string y.meth, .string y.touch, .int .i64 y.rows, .string y.note] 109))) := Lib.hid ((Below.refl _ _).alloc (Nat.le_refl _) _)
  go_enter Try.func85, Try.ntmps85
  go_wp2_with (go_at_call 86; refine (alike_any y m t _ H1.out H2.out).mono ?_; rintro e w' ⟨rfl, hb1⟩)
  go_ret
  exact ⟨rfl, hb0.out.trans (hb1.mono hb0.out.size)⟩
set_option maxHeartbeats 1600000 in
theorem bookIndex_any (l : List Rcd) (n : Nat) (hn : n ≤ l.length) (A : Option Addr) (c : Nat) (gx : Nat) (m t : ByteArray) (w : World) (hr : RdL w w.heap.size A 5 Rcd.enc l) (hl : l.length ≤ 1048576) (p1 : w.cell? ⟨gx, 1, none⟩ = some (.string m)) (p2 : w.cell? ⟨gx, 2, none⟩ = some (.string t)) (hgx : gx < w.heap.size) (h1 : ∀ (j : Nat) (hj : j < l.length), j < n → touchP l[j].touch) (h2 : touchP t) :
    Calls Try.prog 109 #[.slice A n c, .func (.func 85) #[] #[.pointer (some ⟨gx, 0, none⟩)]] w fun e w' => e = .returned (.int .i64 (firstLike l m t n)) ∧ Below w.heap.size w w' := by
  have Hr := Lib.hid hr
  have P1 := Lib.hid p1
  have P2 := Lib.hid p2
  have H1 := Lib.hid h1
  have H2 := Lib.hid h2
  clear hr p1 p2 h1 h2
  go_enter Try.func109, Try.ntmps109
  go_wp2
  go_loopw [8] (fun i wr => ∃ k : Nat, k ≤ n ∧ i = .int .i64 k ∧ (∀ (j : Nat) (hj : j < l.length), j < k → ¬ alikeP l[j] m t) ∧ Below w.heap.size w wr) (fun i _ => n - (intOf i).toNat)
  case atStart => exact ⟨0, by omega, by rfl, fun j _ h => by omega, Below.refl _ _⟩
  case round =>
    obtain ⟨k, hk, rfl, hq, hbl⟩ := hrel
    have Hq := Lib.hid hq
    have Hbl := Lib.hid hbl
    have hgs := hbl.size
    clear hq hbl
    by_cases hlt : k < n
    · obtain ⟨g, off, hA, hg, hcell⟩ := Hr.out.at (k := k) (by omega)
      subst hA
      have r0 := (Hbl.out.cell (p := ⟨g, off + k * 5, none⟩) hg).trans (hcell 0 _ rfl)
      have r1 := (Hbl.out.cell (p := ⟨g, off + k * 5 + 1, none⟩) hg).trans (hcell 1 _ rfl)
      have r2 := (Hbl.out.cell (p := ⟨g, off + k * 5 + 2, none⟩) hg).trans (hcell 2 _ rfl)
      have r3 := (Hbl.out.cell (p := ⟨g, off + k * 5 + 3, none⟩) hg).trans (hcell 3 _ rfl)
      have r4 := (Hbl.out.cell (p := ⟨g, off + k * 5 + 4, none⟩) hg).trans (hcell 4 _ rfl)
      have q1 : Hid (wr.cell? ⟨gx, 1, none⟩ = some (.string m)) := Lib.hid ((Hbl.out.cell (p := ⟨gx, 1, none⟩) hgx).trans P1.out)
      have q2 : Hid (wr.cell? ⟨gx, 2, none⟩ = some (.string t)) := Lib.hid ((Hbl.out.cell (p := ⟨gx, 2, none⟩) hgx).trans P2.out)
      obtain ⟨x, hx⟩ : ∃ x, Hid (l[k]'(by omega) = x) := ⟨_, Lib.hid rfl⟩
      have ht : touchP x.touch := by rw [← hx.out]; exact H1.out k (by omega) hlt
      have Ht := Lib.hid ht
      rw [hx.out] at r0 r1 r2 r3 r4
      clear hcell ht
      by_cases e : alikeP x m t
      · have e5 := B_t e
        have E := Lib.hid e
        clear e
        go_wp2_with (go_at_call 85; refine (bookFn_any x gx m t _ q1.out q2.out (by omega) Ht.out H2.out).mono ?_; rintro e w' ⟨rfl, hb2⟩)
        go_ret
        exact ⟨ret_int (firstLike_some (by omega) (by rw [hx.out]; exact E.out) Hq.out n hlt).symm, Hbl.out.trans (hb2.mono hgs)⟩
      · have e5 := B_f e
        have E := Lib.hid e
        clear e
        go_wp2_with (go_at_call 85; refine (bookFn_any x gx m t _ q1.out q2.out (by omega) Ht.out H2.out).mono ?_; rintro e w' ⟨rfl, hb2⟩)
        go_roundw
        case rel =>
          refine ⟨k + 1, by omega, by go_num, fun j hj h1 => ?_, Hbl.out.trans (hb2.mono hgs)⟩
          rcases Nat.lt_or_eq_of_le (Nat.le_of_lt_succ h1) with h' | rfl
          · exact Hq.out j hj h'
          · rw [hx.out]; exact E.out
        case measure => simp [intOf]; omega
    · obtain rfl : k = n := by omega
      go_wp2
      go_ret
      exact ⟨ret_int (firstLike_none k Hq.out).symm, Hbl.out⟩
theorem bookContains_any (l : List Rcd) (n : Nat) (hn : n ≤ l.length) (A : Option Addr) (c : Nat) (gx : Nat) (m t : ByteArray) (w : World) (hr : RdL w w.heap.size A 5 Rcd.enc l) (hl : l.length ≤ 1048576) (p1 : w.cell? ⟨gx, 1, none⟩ = some (.string m)) (p2 : w.cell? ⟨gx, 2, none⟩ = some (.string t)) (hgx : gx < w.heap.size) (h1 : ∀ (j : Nat) (hj : j < l.length), j < n → touchP l[j].touch) (h2 : touchP t) :
    Calls Try.prog 84 #[.slice A n c, .func (.func 85) #[] #[.pointer (some ⟨gx, 0, none⟩)]] w fun e w' => e = .returned (.bool (B (likeUpTo l n m t))) ∧ Below w.heap.size w w' := by
  have Hr := Lib.hid hr
  have P1 := Lib.hid p1
  have P2 := Lib.hid p2
  have H1 := Lib.hid h1
  have H2 := Lib.hid h2
  clear hr p1 p2 h1 h2
  obtain ⟨r, HR⟩ : ∃ r, Hid (firstLike l m t n = r) := ⟨_, Lib.hid rfl⟩
  go_enter Try.func84, Try.ntmps84
  go_wp2_with (go_at_call 109; refine (bookIndex_any l n hn A c gx m t _ Hr.out hl P1.out P2.out hgx H1.out H2.out).mono ?_; rintro e w' ⟨rfl, hb⟩; rw [HR.out])
  all_goals go_ret
  have hp := firstLike_pos (l := l) (m := m) (t := t) n
  rw [HR.out] at hp
  by_cases hq : likeUpTo l n m t
  · exact ⟨by have := hp.2 hq; rw [B_t hq]; first | (simp; done) | (simp; omega), hb⟩
  · exact ⟨by have : ¬ 0 ≤ r := fun h => hq (hp.1 h); rw [B_f hq]; first | (simp; done) | (simp; omega), hb⟩
theorem findFn_any (y : Rcd) (gx gy : Nat) (m t : ByteArray) (w : World) (p1 : w.cell? ⟨gx, 0, none⟩ = some (.string m)) (p2 : w.cell? ⟨gy, 0, none⟩ = some (.string t)) (hgx : gx < w.heap.size) (hgy : gy < w.heap.size) (h1 : touchP y.touch) (h2 : touchP t) :
    Calls Try.prog 110 #[.agg #[.int .i64 y.day, .string y.meth, .string y.touch, .int .i64 y.rows, .string y.note], .pointer (some ⟨gx, 0, none⟩), .pointer (some ⟨gy, 0, none⟩)] w fun e w' => e = .returned (.bool (B (alikeP y m t))) ∧ Below w.heap.size w w' := by
  have H1 := Lib.hid h1
  have H2 := Lib.hid h2
  clear h1 h2
  have hb0 : Hid (Below w.heap.size w (w.alloc (.cells #[.int .i64 y.day, .string y.meth, .string y.touch, .int .i64 y.rows, .string y.note] 109))) := Lib.hid ((Below.refl _ _).alloc (Nat.le_refl _) _)
  go_enter Try.func110, Try.ntmps110
  go_wp2_with (go_at_call 86; refine (alike_any y m t _ H1.out H2.out).mono ?_; rintro e w' ⟨rfl, hb1⟩)
  go_ret
  exact ⟨rfl, hb0.out.trans (hb1.mono hb0.out.size)⟩
set_option maxHeartbeats 1600000 in
theorem findIndex_any (l : List Rcd) (n : Nat) (hn : n ≤ l.length) (A : Option Addr) (c : Nat) (gx gy : Nat) (m t : ByteArray) (w : World) (hr : RdL w w.heap.size A 5 Rcd.enc l) (hl : l.length ≤ 1048576) (p1 : w.cell? ⟨gx, 0, none⟩ = some (.string m)) (p2 : w.cell? ⟨gy, 0, none⟩ = some (.string t)) (hgx : gx < w.heap.size) (hgy : gy < w.heap.size) (h1 : ∀ (j : Nat) (hj : j < l.length), j < n → touchP l[j].touch) (h2 : touchP t) :
    Calls Try.prog 109 #[.slice A n c, .func (.func 110) #[] #[.pointer (some ⟨gx, 0, none⟩), .pointer (some ⟨gy, 0, none⟩)]] w fun e w' => e = .returned (.int .i64 (firstLike l m t n)) ∧ Below w.heap.size w w' := by
  have Hr := Lib.hid hr
  have P1 := Lib.hid p1
  have P2 := Lib.hid p2
  have H1 := Lib.hid h1
  have H2 := Lib.hid h2
  clear hr p1 p2 h1 h2
  go_enter Try.func109, Try.ntmps109
  go_wp2
  go_loopw [8] (fun i wr => ∃ k : Nat, k ≤ n ∧ i = .int .i64 k ∧ (∀ (j : Nat) (hj : j < l.length), j < k → ¬ alikeP l[j] m t) ∧ Below w.heap.size w wr) (fun i _ => n - (intOf i).toNat)
  case atStart => exact ⟨0, by omega, by rfl, fun j _ h => by omega, Below.refl _ _⟩
  case round =>
    obtain ⟨k, hk, rfl, hq, hbl⟩ := hrel
    have Hq := Lib.hid hq
    have Hbl := Lib.hid hbl
    have hgs := hbl.size
    clear hq hbl
    by_cases hlt : k < n
    · obtain ⟨g, off, hA, hg, hcell⟩ := Hr.out.at (k := k) (by omega)
      subst hA
      have r0 := (Hbl.out.cell (p := ⟨g, off + k * 5, none⟩) hg).trans (hcell 0 _ rfl)
      have r1 := (Hbl.out.cell (p := ⟨g, off + k * 5 + 1, none⟩) hg).trans (hcell 1 _ rfl)
      have r2 := (Hbl.out.cell (p := ⟨g, off + k * 5 + 2, none⟩) hg).trans (hcell 2 _ rfl)
      have r3 := (Hbl.out.cell (p := ⟨g, off + k * 5 + 3, none⟩) hg).trans (hcell 3 _ rfl)
      have r4 := (Hbl.out.cell (p := ⟨g, off + k * 5 + 4, none⟩) hg).trans (hcell 4 _ rfl)
      have q1 : Hid (wr.cell? ⟨gx, 0, none⟩ = some (.string m)) := Lib.hid ((Hbl.out.cell (p := ⟨gx, 0, none⟩) hgx).trans P1.out)
      have q2 : Hid (wr.cell? ⟨gy, 0, none⟩ = some (.string t)) := Lib.hid ((Hbl.out.cell (p := ⟨gy, 0, none⟩) hgy).trans P2.out)
      obtain ⟨x, hx⟩ : ∃ x, Hid (l[k]'(by omega) = x) := ⟨_, Lib.hid rfl⟩
      have ht : touchP x.touch := by rw [← hx.out]; exact H1.out k (by omega) hlt
      have Ht := Lib.hid ht
      rw [hx.out] at r0 r1 r2 r3 r4
      clear hcell ht
      by_cases e : alikeP x m t
      · have e5 := B_t e
        have E := Lib.hid e
        clear e
        go_wp2_with (go_at_call 110; refine (findFn_any x gx gy m t _ q1.out q2.out (by omega) (by omega) Ht.out H2.out).mono ?_; rintro e w' ⟨rfl, hb2⟩)
        go_ret
        exact ⟨ret_int (firstLike_some (by omega) (by rw [hx.out]; exact E.out) Hq.out n hlt).symm, Hbl.out.trans (hb2.mono hgs)⟩
      · have e5 := B_f e
        have E := Lib.hid e
        clear e
        go_wp2_with (go_at_call 110; refine (findFn_any x gx gy m t _ q1.out q2.out (by omega) (by omega) Ht.out H2.out).mono ?_; rintro e w' ⟨rfl, hb2⟩)
        go_roundw
        case rel =>
          refine ⟨k + 1, by omega, by go_num, fun j hj h1 => ?_, Hbl.out.trans (hb2.mono hgs)⟩
          rcases Nat.lt_or_eq_of_le (Nat.le_of_lt_succ h1) with h' | rfl
          · exact Hq.out j hj h'
          · rw [hx.out]; exact E.out
        case measure => simp [intOf]; omega
    · obtain rfl : k = n := by omega
      go_wp2
      go_ret
      exact ⟨ret_int (firstLike_none k Hq.out).symm, Hbl.out⟩
/-! ### Valid books -/





set_option maxHeartbeats 4000000 in
theorem iBook_any (l : List Rcd) (A : Option Addr) (c : Nat) (w : World) (h : RdL w w.heap.size A 5 Rcd.enc l) (hl : l.length ≤ 1048576) (hc : l.length ≤ c) (hs : ∀ x ∈ l, Record_small 1048576 x) :
    Calls Try.prog 25 #[.slice A l.length c] w fun e w' => e = .returned (.bool (B (bookP l))) ∧ Below w.heap.size w w' := by
  have Hr := Lib.hid h
  have Hs := Lib.hid hs
  clear h hs
  by_cases hn : l.length ≤ 20
  rotate_left
  · go_enter Try.func25, Try.ntmps25
    go_wp2
    go_ret
    exact ⟨ret_f (fun h => hn h.1), Below.refl _ _⟩
  go_enter Try.func25, Try.ntmps25
  go_wp2
  go_loopw [10] (fun i wr => ∃ k : Nat, k ≤ l.length ∧ i = .int .i64 k ∧ (∀ (j : Nat) (hj : j < l.length), j < k → bookAt l j hj) ∧ Below w.heap.size w wr) (fun i _ => l.length - (intOf i).toNat)
  case atStart => exact ⟨0, by omega, by rfl, by omega, Below.refl _ _⟩
  case round =>
    obtain ⟨k, hk, rfl, hp, hbl⟩ := hrel
    have Hp := Lib.hid hp
    have Hbl := Lib.hid hbl
    have hgs := hbl.size
    clear hp hbl
    by_cases hlt : k < l.length
    · obtain ⟨g, off, hA, hg, hcell⟩ := Hr.out.at hlt
      have r0 := (Hbl.out.cell (p := ⟨g, off + k * 5, none⟩) hg).trans (hcell 0 _ rfl)
      have r1 := (Hbl.out.cell (p := ⟨g, off + k * 5 + 1, none⟩) hg).trans (hcell 1 _ rfl)
      have r2 := (Hbl.out.cell (p := ⟨g, off + k * 5 + 2, none⟩) hg).trans (hcell 2 _ rfl)
      have r3 := (Hbl.out.cell (p := ⟨g, off + k * 5 + 3, none⟩) hg).trans (hcell 3 _ rfl)
      have r4 := (Hbl.out.cell (p := ⟨g, off + k * 5 + 4, none⟩) hg).trans (hcell 4 _ rfl)
      have hxs := Hs.out _ (List.getElem_mem hlt)
      obtain ⟨x, hx⟩ : ∃ x, Hid (l[k] = x) := ⟨l[k], Lib.hid rfl⟩
      rw [hx.out] at r0 r1 r2 r3 r4 hxs
      have Hsm := Lib.hid hxs
      clear hxs
      have hprev : 0 < k → ∃ p : Rcd, Hid (l[k - 1] = p) ∧ wr.cell? ⟨g, off + (k - 1) * 5, none⟩ = some (.int .i64 p.day) := fun h0 => by
        obtain ⟨g', off', hA', hg', hcell'⟩ := Hr.out.at (k := k - 1) (by omega)
        rw [hA] at hA'
        simp only [Option.some.injEq, Addr.mk.injEq, and_true] at hA'
        obtain ⟨rfl, rfl⟩ := hA'
        exact ⟨_, Lib.hid rfl, (Hbl.out.cell (p := ⟨g, off + (k - 1) * 5, none⟩) hg).trans (hcell' 0 _ rfl)⟩
      subst hA
      clear hcell
      have hgw : g < wr.heap.size := Nat.lt_of_lt_of_le hg hgs
      have hW : ∃ W : World, Hid (wr.alloc (.cells #[.int .i64 x.day, .string x.meth, .string x.touch, .int .i64 x.rows, .string x.note] 109) = W) ∧ Hid (wr.heap.size + 1 = W.heap.size) ∧ Hid (Below wr.heap.size wr W) ∧ (∀ y : Later W, y.W.cell? ⟨wr.heap.size, 0, none⟩ = some (.int .i64 x.day)) ∧ (∀ y : Later W, y.W.cell? ⟨wr.heap.size, 1, none⟩ = some (.string x.meth)) ∧ (∀ y : Later W, y.W.cell? ⟨wr.heap.size, 2, none⟩ = some (.string x.touch)) ∧ (∀ y : Later W, y.W.cell? ⟨wr.heap.size, 3, none⟩ = some (.int .i64 x.rows)) ∧ (∀ y : Later W, y.W.cell? ⟨wr.heap.size, 4, none⟩ = some (.string x.note)) ∧ (∀ y : Later W, ∀ (o : Nat) (u : Value), wr.cell? ⟨g, o, none⟩ = some u → y.W.cell? ⟨g, o, none⟩ = some u) := by
        refine ⟨_, Lib.hid rfl, Lib.hid (by simp), Lib.hid ((Below.refl _ _).alloc (Nat.le_refl _) _), fun y => ?_, fun y => ?_, fun y => ?_, fun y => ?_, fun y => ?_, fun y o u hu => ?_⟩
        · exact (y.hb.cell (p := ⟨wr.heap.size, 0, none⟩) (by simp)).trans (by simp [go_sem])
        · exact (y.hb.cell (p := ⟨wr.heap.size, 1, none⟩) (by simp)).trans (by simp [go_sem])
        · exact (y.hb.cell (p := ⟨wr.heap.size, 2, none⟩) (by simp)).trans (by simp [go_sem])
        · exact (y.hb.cell (p := ⟨wr.heap.size, 3, none⟩) (by simp)).trans (by simp [go_sem])
        · exact (y.hb.cell (p := ⟨wr.heap.size, 4, none⟩) (by simp)).trans (by simp [go_sem])
        · refine (y.hb.cell (p := ⟨g, o, none⟩) (by simp; omega)).trans ?_
          rw [World.cell?_alloc_lt _ _ _ hgw]
          exact hu
      obtain ⟨W, hWe, hWs, hWb, u0, u1, u2, u3, u4, hold⟩ := hW
      by_cases c1 : recP x
      rotate_left
      · have e1 := B_f c1
        have C1 := Lib.hid c1
        clear c1 hprev hold
        go_wp2
        rw [hWe.out]
        (refine wp_region_later (by kernel_rfl) (by kernel_rfl) ?_; (repeat (go_big_quiet_step ((go_at_call 83; refine Later.call (calls_bool (iRecord_any x _ Hsm.out) e1))))); refine wpQuiet_nil ?_; intro _ hw'; obtain ⟨y, hw''⟩ := hw'; subst hw'')
        go_wp2
        have hyb : Hid (Below w.heap.size w y.W) := Lib.hid ((Hbl.out.trans (hWb.out.mono hgs)).trans (y.hb.mono (by have := hWs.out; omega)))
        have hys : wr.heap.size < y.W.heap.size := Nat.lt_of_lt_of_le (by have := hWs.out; omega) y.hb.size
        go_ret
        refine ⟨ret_f (fun h => C1.out ?_), hyb.out⟩
        have := (h.2 k hlt).1; rw [hx.out] at this; exact this
      have e1 := B_t c1
      have C1 := Lib.hid c1
      clear c1
      have hto : Hid (∀ (j : Nat) (hj : j < l.length), j < k → touchP l[j].touch) := Lib.hid (fun j hj hjk => (Hp.out j hj hjk).1.2.2.1)
      rcases Nat.eq_zero_or_pos k with h0 | hpos
      · subst h0
        simp only [Nat.zero_mul, Nat.add_zero] at r0 r1 r2 r3 r4
        clear hprev
        have hlike : ¬ likeUpTo l 0 x.meth x.touch := fun ⟨j, _, h, _⟩ => absurd h (by omega)
        have e2 := B_f hlike
        have HL := Lib.hid hlike
        clear hlike
        go_wp2
        rw [hWe.out]
        (refine wp_region_later (by kernel_rfl) (by kernel_rfl) ?_; (repeat (go_big_quiet_step ((go_at_call 83; refine Later.call (calls_bool (iRecord_any x _ Hsm.out) e1))))); refine wpQuiet_nil ?_; intro _ hw'; obtain ⟨y, hw''⟩ := hw'; subst hw'')
        go_wp2_with fail
        have hyb : Hid (Below w.heap.size w y.W) := Lib.hid ((Hbl.out.trans (hWb.out.mono hgs)).trans (y.hb.mono (by have := hWs.out; omega)))
        have hys : wr.heap.size < y.W.heap.size := Nat.lt_of_lt_of_le (by have := hWs.out; omega) y.hb.size
        have v1 := u1 y
        have v2 := u2 y
        refine (bookContains_any l _ (by omega) _ _ wr.heap.size x.meth x.touch _ ((Hr.out.below hyb.out (Nat.le_refl _)).more hyb.out.size) hl v1 v2 hys hto.out C1.out.2.2.1).mono ?_
        rintro e w3 ⟨he, hb3⟩
        rw [e2] at he
        subst he
        have hfin : Hid (Below w.heap.size w w3) := Lib.hid (hyb.out.trans (hb3.mono hyb.out.size))
        go_wp2_with fail
        go_roundw
        case rel =>
          refine ⟨1, by omega, by go_num, fun j hj hj1 => ?_, hfin.out⟩
          obtain rfl : j = 0 := by omega
          unfold bookAt
          rw [hx.out]
          exact ⟨C1.out, fun h0 => by omega, HL.out⟩
        case measure => simp [intOf]; omega
      · obtain ⟨p, hp, rp⟩ := hprev hpos
        obtain ⟨m, rfl⟩ : ∃ m, k = m + 1 := ⟨k - 1, by omega⟩
        have u5 := fun y => hold y _ _ rp
        rw [show m + 1 - 1 = m from rfl] at u5
        clear hold hprev rp
        by_cases c3 : p.day ≤ x.day
        rotate_left
        · have c4 : x.day < p.day := by omega
          clear c3
          go_wp2
          rw [hWe.out]
          (refine wp_region_later (by kernel_rfl) (by kernel_rfl) ?_; (repeat (go_big_quiet_step ((go_at_call 83; refine Later.call (calls_bool (iRecord_any x _ Hsm.out) e1))))); refine wpQuiet_nil ?_; intro _ hw'; obtain ⟨y, hw''⟩ := hw'; subst hw'')
          go_wp2
          have hyb : Hid (Below w.heap.size w y.W) := Lib.hid ((Hbl.out.trans (hWb.out.mono hgs)).trans (y.hb.mono (by have := hWs.out; omega)))
          have hys : wr.heap.size < y.W.heap.size := Nat.lt_of_lt_of_le (by have := hWs.out; omega) y.hb.size
          go_ret
          refine ⟨ret_f (fun h => ?_), hyb.out⟩
          have := (h.2 (m + 1) hlt).2.1 (by omega)
          rw [hx.out, hp.out] at this
          omega
        by_cases c5 : likeUpTo l (m + 1) x.meth x.touch
        · have e2 := B_t c5
          have C5 := Lib.hid c5
          clear c5
          go_wp2
          rw [hWe.out]
          (refine wp_region_later (by kernel_rfl) (by kernel_rfl) ?_; (repeat (go_big_quiet_step ((go_at_call 83; refine Later.call (calls_bool (iRecord_any x _ Hsm.out) e1))))); refine wpQuiet_nil ?_; intro _ hw'; obtain ⟨y, hw''⟩ := hw'; subst hw'')
          go_wp2_with fail
          have hyb : Hid (Below w.heap.size w y.W) := Lib.hid ((Hbl.out.trans (hWb.out.mono hgs)).trans (y.hb.mono (by have := hWs.out; omega)))
          have hys : wr.heap.size < y.W.heap.size := Nat.lt_of_lt_of_le (by have := hWs.out; omega) y.hb.size
          have v1 := u1 y
          have v2 := u2 y
          refine (bookContains_any l _ (by omega) _ _ wr.heap.size x.meth x.touch _ ((Hr.out.below hyb.out (Nat.le_refl _)).more hyb.out.size) hl v1 v2 hys hto.out C1.out.2.2.1).mono ?_
          rintro e w3 ⟨he, hb3⟩
          rw [e2] at he
          subst he
          have hfin : Hid (Below w.heap.size w w3) := Lib.hid (hyb.out.trans (hb3.mono hyb.out.size))
          go_wp2_with fail
          go_ret
          refine ⟨ret_f (fun h => ?_), hfin.out⟩
          have := (h.2 (m + 1) hlt).2.2
          rw [hx.out] at this
          exact this C5.out
        · have e2 := B_f c5
          have C5 := Lib.hid c5
          clear c5
          go_wp2
          rw [hWe.out]
          (refine wp_region_later (by kernel_rfl) (by kernel_rfl) ?_; (repeat (go_big_quiet_step ((go_at_call 83; refine Later.call (calls_bool (iRecord_any x _ Hsm.out) e1))))); refine wpQuiet_nil ?_; intro _ hw'; obtain ⟨y, hw''⟩ := hw'; subst hw'')
          go_wp2_with fail
          have hyb : Hid (Below w.heap.size w y.W) := Lib.hid ((Hbl.out.trans (hWb.out.mono hgs)).trans (y.hb.mono (by have := hWs.out; omega)))
          have hys : wr.heap.size < y.W.heap.size := Nat.lt_of_lt_of_le (by have := hWs.out; omega) y.hb.size
          have v1 := u1 y
          have v2 := u2 y
          refine (bookContains_any l _ (by omega) _ _ wr.heap.size x.meth x.touch _ ((Hr.out.below hyb.out (Nat.le_refl _)).more hyb.out.size) hl v1 v2 hys hto.out C1.out.2.2.1).mono ?_
          rintro e w3 ⟨he, hb3⟩
          rw [e2] at he
          subst he
          have hfin : Hid (Below w.heap.size w w3) := Lib.hid (hyb.out.trans (hb3.mono hyb.out.size))
          go_wp2_with fail
          go_roundw
          case rel =>
            refine ⟨m + 1 + 1, by omega, by go_num, fun j hj hj1 => ?_, hfin.out⟩
            rcases Nat.lt_or_eq_of_le (Nat.le_of_lt_succ hj1) with h' | rfl
            · exact Hp.out j hj h'
            · have := hp.out
              unfold bookAt
              simp only [hx.out]
              exact ⟨C1.out, fun h0 => by rw [this]; exact c3, C5.out⟩
          case measure => simp [intOf]; omega
    · obtain rfl : k = l.length := by omega
      go_wp2
      go_ret
      exact ⟨ret_t ⟨hn, fun i hi => Hp.out i hi hi⟩, Hbl.out⟩








set_option maxHeartbeats 4000000 in
theorem l28Book_any (l : List Rcd) (A : Option Addr) (c : Nat) (w : World) (h : RdL w w.heap.size A 5 Rcd.enc l) (hl : l.length ≤ 1048576) (hc : l.length ≤ c) (hs : ∀ x ∈ l, Record_small 1048576 x) :
    Calls Try.prog 81 #[.slice A l.length c] w fun e w' => e = .returned (.bool (B (bookP l))) ∧ Below w.heap.size w w' := by
  have Hr := Lib.hid h
  have Hs := Lib.hid hs
  clear h hs
  skip
  go_enter Try.func81, Try.ntmps81
  go_wp2
  go_loopw [9] (fun i wr => ∃ k : Nat, k ≤ l.length ∧ i = .int .i64 k ∧ (∀ (j : Nat) (hj : j < l.length), j < k → bookAt l j hj) ∧ Below w.heap.size w wr) (fun i _ => l.length - (intOf i).toNat)
  case atStart => exact ⟨0, by omega, by rfl, by omega, Below.refl _ _⟩
  case round =>
    obtain ⟨k, hk, rfl, hp, hbl⟩ := hrel
    have Hp := Lib.hid hp
    have Hbl := Lib.hid hbl
    have hgs := hbl.size
    clear hp hbl
    by_cases hlt : k < l.length
    · obtain ⟨g, off, hA, hg, hcell⟩ := Hr.out.at hlt
      have r0 := (Hbl.out.cell (p := ⟨g, off + k * 5, none⟩) hg).trans (hcell 0 _ rfl)
      have r1 := (Hbl.out.cell (p := ⟨g, off + k * 5 + 1, none⟩) hg).trans (hcell 1 _ rfl)
      have r2 := (Hbl.out.cell (p := ⟨g, off + k * 5 + 2, none⟩) hg).trans (hcell 2 _ rfl)
      have r3 := (Hbl.out.cell (p := ⟨g, off + k * 5 + 3, none⟩) hg).trans (hcell 3 _ rfl)
      have r4 := (Hbl.out.cell (p := ⟨g, off + k * 5 + 4, none⟩) hg).trans (hcell 4 _ rfl)
      have hxs := Hs.out _ (List.getElem_mem hlt)
      obtain ⟨x, hx⟩ : ∃ x, Hid (l[k] = x) := ⟨l[k], Lib.hid rfl⟩
      rw [hx.out] at r0 r1 r2 r3 r4 hxs
      have Hsm := Lib.hid hxs
      clear hxs
      have hprev : 0 < k → ∃ p : Rcd, Hid (l[k - 1] = p) ∧ wr.cell? ⟨g, off + (k - 1) * 5, none⟩ = some (.int .i64 p.day) := fun h0 => by
        obtain ⟨g', off', hA', hg', hcell'⟩ := Hr.out.at (k := k - 1) (by omega)
        rw [hA] at hA'
        simp only [Option.some.injEq, Addr.mk.injEq, and_true] at hA'
        obtain ⟨rfl, rfl⟩ := hA'
        exact ⟨_, Lib.hid rfl, (Hbl.out.cell (p := ⟨g, off + (k - 1) * 5, none⟩) hg).trans (hcell' 0 _ rfl)⟩
      subst hA
      clear hcell
      have hgw : g < wr.heap.size := Nat.lt_of_lt_of_le hg hgs
      have hW : ∃ W : World, Hid (wr.alloc (.cells #[.int .i64 x.day, .string x.meth, .string x.touch, .int .i64 x.rows, .string x.note] 109) = W) ∧ Hid (wr.heap.size + 1 = W.heap.size) ∧ Hid (Below wr.heap.size wr W) ∧ (∀ y : Later W, y.W.cell? ⟨wr.heap.size, 0, none⟩ = some (.int .i64 x.day)) ∧ (∀ y : Later W, y.W.cell? ⟨wr.heap.size, 1, none⟩ = some (.string x.meth)) ∧ (∀ y : Later W, y.W.cell? ⟨wr.heap.size, 2, none⟩ = some (.string x.touch)) ∧ (∀ y : Later W, y.W.cell? ⟨wr.heap.size, 3, none⟩ = some (.int .i64 x.rows)) ∧ (∀ y : Later W, y.W.cell? ⟨wr.heap.size, 4, none⟩ = some (.string x.note)) ∧ (∀ y : Later W, ∀ (o : Nat) (u : Value), wr.cell? ⟨g, o, none⟩ = some u → y.W.cell? ⟨g, o, none⟩ = some u) := by
        refine ⟨_, Lib.hid rfl, Lib.hid (by simp), Lib.hid ((Below.refl _ _).alloc (Nat.le_refl _) _), fun y => ?_, fun y => ?_, fun y => ?_, fun y => ?_, fun y => ?_, fun y o u hu => ?_⟩
        · exact (y.hb.cell (p := ⟨wr.heap.size, 0, none⟩) (by simp)).trans (by simp [go_sem])
        · exact (y.hb.cell (p := ⟨wr.heap.size, 1, none⟩) (by simp)).trans (by simp [go_sem])
        · exact (y.hb.cell (p := ⟨wr.heap.size, 2, none⟩) (by simp)).trans (by simp [go_sem])
        · exact (y.hb.cell (p := ⟨wr.heap.size, 3, none⟩) (by simp)).trans (by simp [go_sem])
        · exact (y.hb.cell (p := ⟨wr.heap.size, 4, none⟩) (by simp)).trans (by simp [go_sem])
        · refine (y.hb.cell (p := ⟨g, o, none⟩) (by simp; omega)).trans ?_
          rw [World.cell?_alloc_lt _ _ _ hgw]
          exact hu
      obtain ⟨W, hWe, hWs, hWb, u0, u1, u2, u3, u4, hold⟩ := hW
      by_cases c1 : recP x
      rotate_left
      · have e1 := B_f c1
        have C1 := Lib.hid c1
        clear c1 hprev hold
        go_wp2
        rw [hWe.out]
        (refine wp_region_later (by kernel_rfl) (by kernel_rfl) ?_; (repeat (go_big_quiet_step ((go_at_call 136; refine Later.call (calls_bool (l28Good_any x _ Hsm.out) e1))))); refine wpQuiet_nil ?_; intro _ hw'; obtain ⟨y, hw''⟩ := hw'; subst hw'')
        go_wp2
        have hyb : Hid (Below w.heap.size w y.W) := Lib.hid ((Hbl.out.trans (hWb.out.mono hgs)).trans (y.hb.mono (by have := hWs.out; omega)))
        have hys : wr.heap.size < y.W.heap.size := Nat.lt_of_lt_of_le (by have := hWs.out; omega) y.hb.size
        go_ret
        refine ⟨ret_f (fun h => C1.out ?_), hyb.out⟩
        have := (h.2 k hlt).1; rw [hx.out] at this; exact this
      have e1 := B_t c1
      have C1 := Lib.hid c1
      clear c1
      have hto : Hid (∀ (j : Nat) (hj : j < l.length), j < k → touchP l[j].touch) := Lib.hid (fun j hj hjk => (Hp.out j hj hjk).1.2.2.1)
      rcases Nat.eq_zero_or_pos k with h0 | hpos
      · subst h0
        simp only [Nat.zero_mul, Nat.add_zero] at r0 r1 r2 r3 r4
        clear hprev
        have hlike : ¬ likeUpTo l 0 x.meth x.touch := fun ⟨j, _, h, _⟩ => absurd h (by omega)
        have e2 := B_f hlike
        have HL := Lib.hid hlike
        clear hlike
        go_wp2
        rw [hWe.out]
        (refine wp_region_later (by kernel_rfl) (by kernel_rfl) ?_; (repeat (go_big_quiet_step ((go_at_call 136; refine Later.call (calls_bool (l28Good_any x _ Hsm.out) e1))))); refine wpQuiet_nil ?_; intro _ hw'; obtain ⟨y, hw''⟩ := hw'; subst hw'')
        go_wp2_with fail
        have hyb : Hid (Below w.heap.size w y.W) := Lib.hid ((Hbl.out.trans (hWb.out.mono hgs)).trans (y.hb.mono (by have := hWs.out; omega)))
        have hys : wr.heap.size < y.W.heap.size := Nat.lt_of_lt_of_le (by have := hWs.out; omega) y.hb.size
        have v1 := u1 y
        have v2 := u2 y
        skip
        have Z0 := Lib.hid (u0 y)
        have Z1 := Lib.hid (u1 y)
        have Z2 := Lib.hid (u2 y)
        have Z3 := Lib.hid (u3 y)
        have Z4 := Lib.hid (u4 y)
        obtain ⟨wo, rfl⟩ : ∃ wo, wo = wr := ⟨wr, rfl⟩
        go_loopw [36] (fun i wr2 => ∃ j : Nat, j ≤ 0 ∧ i = .int .i64 j ∧ (∀ (j' : Nat) (hj : j' < l.length), j' < j → ¬ alikeP l[j'] x.meth x.touch) ∧ Below y.W.heap.size y.W wr2) (fun i _ => 0 - (intOf i).toNat)
        case atStart => exact ⟨0, by omega, by rfl, fun j _ h => by omega, Below.refl _ _⟩
        case' round =>
          obtain ⟨j, hj, rfl, hq, hb2⟩ := hrel
          have Hq := Lib.hid hq
          have Hb2 := Lib.hid hb2
          have hg2 := hb2.size
          clear hq hb2
          have hy2 : Hid (Below w.heap.size w wr) := Lib.hid (hyb.out.trans (Hb2.out.mono hyb.out.size))
          obtain rfl : j = 0 := by omega
          go_wp2_with fail
          have hfin := hy2
        go_roundw
        case rel =>
          refine ⟨1, by omega, by go_num, fun j hj hj1 => ?_, hfin.out⟩
          obtain rfl : j = 0 := by omega
          unfold bookAt
          rw [hx.out]
          exact ⟨C1.out, fun h0 => by omega, HL.out⟩
        case measure => simp [intOf]; omega
      · obtain ⟨p, hp, rp⟩ := hprev hpos
        obtain ⟨m, rfl⟩ : ∃ m, k = m + 1 := ⟨k - 1, by omega⟩
        rw [show ((m + 1 : Nat) : Int) = (m : Int) + 1 from by omega]
        have hdl : decide ((m : Int) + 1 < (l.length : Int)) = true := decide_eq_true (by omega)
        have u5 := fun y => hold y _ _ rp
        rw [show m + 1 - 1 = m from rfl] at u5
        clear hold hprev rp
        by_cases c3 : p.day ≤ x.day
        rotate_left
        · have c4 : x.day < p.day := by omega
          clear c3
          go_wp2
          rw [hWe.out]
          (refine wp_region_later (by kernel_rfl) (by kernel_rfl) ?_; (repeat (go_big_quiet_step ((go_at_call 136; refine Later.call (calls_bool (l28Good_any x _ Hsm.out) e1))))); refine wpQuiet_nil ?_; intro _ hw'; obtain ⟨y, hw''⟩ := hw'; subst hw'')
          go_wp2
          have hyb : Hid (Below w.heap.size w y.W) := Lib.hid ((Hbl.out.trans (hWb.out.mono hgs)).trans (y.hb.mono (by have := hWs.out; omega)))
          have hys : wr.heap.size < y.W.heap.size := Nat.lt_of_lt_of_le (by have := hWs.out; omega) y.hb.size
          go_ret
          refine ⟨ret_f (fun h => ?_), hyb.out⟩
          have := (h.2 (m + 1) hlt).2.1 (by omega)
          rw [hx.out, hp.out] at this
          omega
        by_cases c5 : likeUpTo l (m + 1) x.meth x.touch
        · have e2 := B_t c5
          have C5 := Lib.hid c5
          clear c5
          go_wp2
          rw [hWe.out]
          (refine wp_region_later (by kernel_rfl) (by kernel_rfl) ?_; (repeat (go_big_quiet_step ((go_at_call 136; refine Later.call (calls_bool (l28Good_any x _ Hsm.out) e1))))); refine wpQuiet_nil ?_; intro _ hw'; obtain ⟨y, hw''⟩ := hw'; subst hw'')
          go_wp2_with fail
          have hyb : Hid (Below w.heap.size w y.W) := Lib.hid ((Hbl.out.trans (hWb.out.mono hgs)).trans (y.hb.mono (by have := hWs.out; omega)))
          have hys : wr.heap.size < y.W.heap.size := Nat.lt_of_lt_of_le (by have := hWs.out; omega) y.hb.size
          have v1 := u1 y
          have v2 := u2 y
          skip
          have Z0 := Lib.hid (u0 y)
          have Z1 := Lib.hid (u1 y)
          have Z2 := Lib.hid (u2 y)
          have Z3 := Lib.hid (u3 y)
          have Z4 := Lib.hid (u4 y)
          obtain ⟨wo, rfl⟩ : ∃ wo, wo = wr := ⟨wr, rfl⟩
          go_loopw [36] (fun i wr2 => ∃ j : Nat, j ≤ m + 1 ∧ i = .int .i64 j ∧ (∀ (j' : Nat) (hj : j' < l.length), j' < j → ¬ alikeP l[j'] x.meth x.touch) ∧ Below y.W.heap.size y.W wr2) (fun i _ => m + 1 - (intOf i).toNat)
          case atStart => exact ⟨0, by omega, by rfl, fun j _ h => by omega, Below.refl _ _⟩
          case' round =>
            obtain ⟨j, hj, rfl, hq, hb2⟩ := hrel
            have Hq := Lib.hid hq
            have Hb2 := Lib.hid hb2
            have hg2 := hb2.size
            clear hq hb2
            have hy2 : Hid (Below w.heap.size w wr) := Lib.hid (hyb.out.trans (Hb2.out.mono hyb.out.size))
            by_cases hlj : j < m + 1
            rotate_left
            · exfalso
              obtain ⟨j', h1, h2, h3⟩ := C5.out
              exact Hq.out j' h1 (by omega) h3
            obtain ⟨g', off', hA', hg', hcell'⟩ := Hr.out.at (k := j) (by omega)
            simp only [Option.some.injEq, Addr.mk.injEq, and_true] at hA'
            obtain ⟨rfl, rfl⟩ := hA'
            have a0 := (hy2.out.cell (p := ⟨g, off + j * 5, none⟩) hg).trans (hcell' 0 _ rfl)
            have a1 := (hy2.out.cell (p := ⟨g, off + j * 5 + 1, none⟩) hg).trans (hcell' 1 _ rfl)
            have a2 := (hy2.out.cell (p := ⟨g, off + j * 5 + 2, none⟩) hg).trans (hcell' 2 _ rfl)
            have a3 := (hy2.out.cell (p := ⟨g, off + j * 5 + 3, none⟩) hg).trans (hcell' 3 _ rfl)
            have a4 := (hy2.out.cell (p := ⟨g, off + j * 5 + 4, none⟩) hg).trans (hcell' 4 _ rfl)
            have tz := hto.out j (by omega) hlj
            obtain ⟨z, hz⟩ : ∃ z, Hid (l[j]'(by omega) = z) := ⟨_, Lib.hid rfl⟩
            rw [hz.out] at a0 a1 a2 a3 a4 tz
            have Tz := Lib.hid tz
            have b0 := (Hb2.out.cell (p := ⟨wo.heap.size, 0, none⟩) hys).trans Z0.out
            have b1 := (Hb2.out.cell (p := ⟨wo.heap.size, 1, none⟩) hys).trans Z1.out
            have b2 := (Hb2.out.cell (p := ⟨wo.heap.size, 2, none⟩) hys).trans Z2.out
            have b3 := (Hb2.out.cell (p := ⟨wo.heap.size, 3, none⟩) hys).trans Z3.out
            have b4 := (Hb2.out.cell (p := ⟨wo.heap.size, 4, none⟩) hys).trans Z4.out
            have hgw2 : g < wr.heap.size := Nat.lt_of_lt_of_le hg hy2.out.size
            have hxw2 : wo.heap.size < wr.heap.size := Nat.lt_of_lt_of_le hys hg2
            clear hcell' tz
            by_cases e : alikeP z x.meth x.touch
            rotate_left
            · have e5 := B_f e
              have E := Lib.hid e
              clear e
              go_wp2_with (go_at_call 137; refine (l28Alike_any z x _ Tz.out C1.out.2.2.1).mono ?_; rintro e w' ⟨rfl, hb3⟩)
              go_roundw
              case rel =>
                refine ⟨j + 1, by omega, by go_num, fun j' hj1 h1 => ?_, (Hb2.out.alloc hg2 _).trans (hb3.mono (by simp; omega))⟩
                rcases Nat.lt_or_eq_of_le (Nat.le_of_lt_succ h1) with h' | rfl
                · exact Hq.out j' hj1 h'
                · rw [hz.out]; exact E.out
              case measure => simp [intOf]; omega
            have e5 := B_t e
            clear e
            go_wp2_with (go_at_call 137; refine (l28Alike_any z x _ Tz.out C1.out.2.2.1).mono ?_; rintro e w' ⟨rfl, hb3⟩)
            have hfin := Lib.hid ((hy2.out.alloc hy2.out.size _).trans (hb3.mono (Nat.le_trans hy2.out.size (by simp))))
          go_ret
          refine ⟨ret_f (fun h => ?_), hfin.out⟩
          have := (h.2 (m + 1) hlt).2.2
          rw [hx.out] at this
          exact this C5.out
        · have e2 := B_f c5
          have C5 := Lib.hid c5
          clear c5
          go_wp2
          rw [hWe.out]
          (refine wp_region_later (by kernel_rfl) (by kernel_rfl) ?_; (repeat (go_big_quiet_step ((go_at_call 136; refine Later.call (calls_bool (l28Good_any x _ Hsm.out) e1))))); refine wpQuiet_nil ?_; intro _ hw'; obtain ⟨y, hw''⟩ := hw'; subst hw'')
          go_wp2_with fail
          have hyb : Hid (Below w.heap.size w y.W) := Lib.hid ((Hbl.out.trans (hWb.out.mono hgs)).trans (y.hb.mono (by have := hWs.out; omega)))
          have hys : wr.heap.size < y.W.heap.size := Nat.lt_of_lt_of_le (by have := hWs.out; omega) y.hb.size
          have v1 := u1 y
          have v2 := u2 y
          skip
          have Z0 := Lib.hid (u0 y)
          have Z1 := Lib.hid (u1 y)
          have Z2 := Lib.hid (u2 y)
          have Z3 := Lib.hid (u3 y)
          have Z4 := Lib.hid (u4 y)
          obtain ⟨wo, rfl⟩ : ∃ wo, wo = wr := ⟨wr, rfl⟩
          go_loopw [36] (fun i wr2 => ∃ j : Nat, j ≤ m + 1 ∧ i = .int .i64 j ∧ (∀ (j' : Nat) (hj : j' < l.length), j' < j → ¬ alikeP l[j'] x.meth x.touch) ∧ Below y.W.heap.size y.W wr2) (fun i _ => m + 1 - (intOf i).toNat)
          case atStart => exact ⟨0, by omega, by rfl, fun j _ h => by omega, Below.refl _ _⟩
          case' round =>
            obtain ⟨j, hj, rfl, hq, hb2⟩ := hrel
            have Hq := Lib.hid hq
            have Hb2 := Lib.hid hb2
            have hg2 := hb2.size
            clear hq hb2
            have hy2 : Hid (Below w.heap.size w wr) := Lib.hid (hyb.out.trans (Hb2.out.mono hyb.out.size))
            by_cases hlj : j < m + 1
            · obtain ⟨g', off', hA', hg', hcell'⟩ := Hr.out.at (k := j) (by omega)
              simp only [Option.some.injEq, Addr.mk.injEq, and_true] at hA'
              obtain ⟨rfl, rfl⟩ := hA'
              have a0 := (hy2.out.cell (p := ⟨g, off + j * 5, none⟩) hg).trans (hcell' 0 _ rfl)
              have a1 := (hy2.out.cell (p := ⟨g, off + j * 5 + 1, none⟩) hg).trans (hcell' 1 _ rfl)
              have a2 := (hy2.out.cell (p := ⟨g, off + j * 5 + 2, none⟩) hg).trans (hcell' 2 _ rfl)
              have a3 := (hy2.out.cell (p := ⟨g, off + j * 5 + 3, none⟩) hg).trans (hcell' 3 _ rfl)
              have a4 := (hy2.out.cell (p := ⟨g, off + j * 5 + 4, none⟩) hg).trans (hcell' 4 _ rfl)
              have tz := hto.out j (by omega) hlj
              obtain ⟨z, hz⟩ : ∃ z, Hid (l[j]'(by omega) = z) := ⟨_, Lib.hid rfl⟩
              rw [hz.out] at a0 a1 a2 a3 a4 tz
              have Tz := Lib.hid tz
              have b0 := (Hb2.out.cell (p := ⟨wo.heap.size, 0, none⟩) hys).trans Z0.out
              have b1 := (Hb2.out.cell (p := ⟨wo.heap.size, 1, none⟩) hys).trans Z1.out
              have b2 := (Hb2.out.cell (p := ⟨wo.heap.size, 2, none⟩) hys).trans Z2.out
              have b3 := (Hb2.out.cell (p := ⟨wo.heap.size, 3, none⟩) hys).trans Z3.out
              have b4 := (Hb2.out.cell (p := ⟨wo.heap.size, 4, none⟩) hys).trans Z4.out
              have hgw2 : g < wr.heap.size := Nat.lt_of_lt_of_le hg hy2.out.size
              have hxw2 : wo.heap.size < wr.heap.size := Nat.lt_of_lt_of_le hys hg2
              clear hcell' tz
              have e : ¬ alikeP z x.meth x.touch := fun h => C5.out ⟨j, by omega, hlj, by rw [hz.out]; exact h⟩
              have e5 := B_f e
              have E := Lib.hid e
              clear e
              go_wp2_with (go_at_call 137; refine (l28Alike_any z x _ Tz.out C1.out.2.2.1).mono ?_; rintro e w' ⟨rfl, hb3⟩)
              go_roundw
              case rel =>
                refine ⟨j + 1, by omega, by go_num, fun j' hj1 h1 => ?_, (Hb2.out.alloc hg2 _).trans (hb3.mono (by simp; omega))⟩
                rcases Nat.lt_or_eq_of_le (Nat.le_of_lt_succ h1) with h' | rfl
                · exact Hq.out j' hj1 h'
                · rw [hz.out]; exact E.out
              case measure => simp [intOf]; omega
            obtain rfl : j = m + 1 := by omega
            go_wp2_with fail
            have hfin := hy2
          go_roundw
          case rel =>
            refine ⟨m + 1 + 1, by omega, by go_num, fun j hj hj1 => ?_, hfin.out⟩
            rcases Nat.lt_or_eq_of_le (Nat.le_of_lt_succ hj1) with h' | rfl
            · exact Hp.out j hj h'
            · have := hp.out
              unfold bookAt
              simp only [hx.out]
              exact ⟨C1.out, fun h0 => by rw [this]; exact c3, C5.out⟩
          case measure => simp [intOf]; omega
    · obtain rfl : k = l.length := by omega
      by_cases hn : l.length ≤ 20
      · go_wp2
        go_ret
        exact ⟨by rw [B_t (show bookP l from ⟨hn, fun i hi => Hp.out i hi hi⟩)]; simp; omega, Hbl.out⟩
      · go_wp2
        go_ret
        exact ⟨by rw [B_f (show ¬ bookP l from fun x => hn x.1)]; simp; omega, Hbl.out⟩
theorem sBook_any (l : List Rcd) (A : Option Addr) (c : Nat) (w : World) (h : RdL w w.heap.size A 5 Rcd.enc l) (hl : l.length ≤ 1048576) (hc : l.length ≤ c) (hs : ∀ x ∈ l, Record_small 1048576 x) :
    Calls Try.prog 23 #[.slice A l.length c] w fun e w' => e = .returned (.bool (B (bookP l))) ∧ Below w.heap.size w w' := by
  have H := Lib.hid h
  have Hs := Lib.hid hs
  clear h hs
  go_enter Try.func23, Try.ntmps23
  go_wp2_with (go_at_call 81; refine (l28Book_any l A c _ H.out hl hc Hs.out).mono ?_; rintro e w' ⟨rfl, hb1⟩)
  go_ret
  exact ⟨rfl, hb1⟩
end Go.Proofs.Ytdegbckoejddeaa
