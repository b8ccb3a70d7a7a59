import Derived.ProofKit
import Derived.OpenShut
import Derived.ShutString
import Derived.Below
import Derived.Carry
import Derived.Test.YtkegbbndmfnolaaMBeatsL01
import Derived.Deep.Slices
import Derived.Deep.Fields
import Derived.Test.YtkegbbndmfnolaaRows
import Derived.StillTailTactics
import Derived.Deep.RegionHeld3
import Derived.Test.YtkegbbndmfnolaaMBeatsL00
/-
  A law's last step, once for all: a call that answers true and leaves every block that was there as it was meets the row's post.
-/
namespace Go.Proofs.Ytkegbbndmfnolaa
open Go.ChangeShapes Go.WideShapes Go.ChangeAt Go.RowKit

theorem trodAll_below {H : Type} {enc : TypeId × Value → H} {P : Program} (hl : laidOutB P = true) {W W' : World} (hb : Below W.heap.size W W') :
    ∀ (ts : List TypeId) (vs : List Value) (ds : List (DataW H)) (ps : List MemPlace), ts.all (fun t => P.readableRec t && decide (t < P.types.size)) = true →
      DataW.TrodAll enc P W 0 (fun _ => true) true ts vs ds ps → (∀ x ∈ ps, x.block < W.heap.size) →
      DataW.TrodAll enc P W' 0 (fun b => decide (b < W.heap.size)) true ts vs ds ps := by
  intro ts
  induction ts with
  | nil =>
    intro vs ds ps _ h _
    obtain ⟨rfl, rfl, rfl⟩ := trodAll_nil h
    exact trodAll_mk0
  | cons t ts ih =>
    intro vs ds ps hr h hlt
    obtain ⟨v, vs', d, ds', p, q, rfl, rfl, rfl, h0, h1⟩ := trodAll_cons h
    rw [List.all_cons, Bool.and_eq_true, Bool.and_eq_true, decide_eq_true_eq] at hr
    exact trodAll_cons_mk (Below.trod hl hr.1.1 hr.1.2 h0 hb (fun x hx => hlt x (List.mem_append.2 (.inl hx)))) (ih _ _ _ hr.2 h1 (fun x hx => hlt x (List.mem_append.2 (.inr hx))))

theorem law_post {H : Type} {enc : TypeId × Value → H} {P : Program} {f : Func} {s : ChangeSpec} {apart : Bool} {W W' : World} {args : Array Value} {ds : List (DataW H)} {before : List MemPlace} {tb : TypeId}
    (hl : laidOutB P = true) (hr : f.params.toList.all (fun t => P.readableRec t && decide (t < P.types.size)) = true)
    (ht : f.resultTypes = #[tb]) (hu : P.underlying tb = some .bool) (hv : s.vars = []) (hs : s.fn H (ds ++ []) = { results := [.lit (.bool true)], args := ds })
    (hW : DataW.Whole enc P f.params.toList s.vars apart W args.toList ds [] before) (hb : Below W.heap.size W W') :
    s.post enc P f apart true false false W args (.bool true) W' := by
  have hlt : ∀ p ∈ before, p.block < W.heap.size := fun p hp => by simpa using hW.lt p hp
  have hW' := hW
  obtain ⟨p, q, hA, hV, rfl, _, _⟩ := hW
  rw [hv] at hV
  obtain ⟨_, rfl⟩ := trodVars_none hV
  refine ⟨ds, [], p ++ [], [], p, [], hW', ?_, ?_, ?_, World.keptBut_mono (fun x hx => ⟨hx, ?_⟩) (hb.frame (· ∈ p ++ [])), fun h => by cases h⟩
  · rw [hs, ht]
    exact trodAll_cons_mk (shut_bool hu _) trodAll_mk0
  · rw [hs]
    exact trodAll_below hl hb _ _ _ _ hr hA (fun x hx => hlt x (List.mem_append.2 (.inl hx)))
  · rw [hs, hv]
    rfl
  · right; left; simpa using hx
end Go.Proofs.Ytkegbbndmfnolaa

/-
  A law's arguments, opened: a slice reads as a list of elements; a struct by value.
-/
namespace Go.Proofs.Ytkegbbndmfnolaa
open Go.ChangeShapes Go.WideShapes Go.ChangeAt Go.RowKit Go.Deep
set_option linter.unusedVariables false
set_option linter.unusedSimpArgs false

theorem choose_list {α : Type} (Q : Nat → α → Prop) : ∀ n, (∀ i, i < n → ∃ x, Q i x) → ∃ l : List α, l.length = n ∧ ∀ (i : Nat) (hi : i < l.length), Q i l[i]
  | 0, _ => ⟨[], rfl, fun i hi => by simp at hi⟩
  | n + 1, h => by
    obtain ⟨l, hl, hq⟩ := choose_list Q n (fun i hi => h i (by omega))
    obtain ⟨x, hx⟩ := h n (by omega)
    refine ⟨l ++ [x], by simp [hl], fun i hi => ?_⟩
    by_cases e : i < l.length
    · rw [List.getElem_append_left e]; exact hq i e
    · obtain rfl : i = n := by simp at hi; omega
      rw [List.getElem_append_right (by omega)]
      simpa using hx

section
variable {H : Type} {enc : TypeId × Value → H} {P : Program} {w : World} {base : Nat} {spare : Nat → Bool} {held : Bool}
theorem open_list {α : Type} {r : Reach} {b0 : Nat} {t e : TypeId} {v : Value} {d : DataW H} {p : List MemPlace} (ht : P.underlying t = some (.slice e)) (C : Nat) (hC : P.cellsOf e = C) (hC0 : 0 < C)
    (en : α → List Value) (ok : α → Prop) (hel : ∀ (n : Nat) (cs : List Value) (y : DataW H × List MemPlace), DataW.trod enc P w base spare held n e cs = some y → ∃ x : α, cs = en x ∧ ok x)
    (hv : Value.okWide P w r b0 t v) (h : DataW.Trod enc P w base spare held t v d p) :
    ∃ (A : Option Addr) (l : List α) (c : Nat), v = .slice A l.length c ∧ l.length ≤ maxLen ∧ RdL w w.heap.size A C en l ∧ ∀ x ∈ l, ok x := by
  obtain ⟨a0, len, cap, rfl⟩ := okWide_slice ht hv
  obtain ⟨fuel, hf⟩ := h
  have hf' : DataW.trod enc P w base spare held fuel t [.slice a0 len cap] = some (d, p) := by simpa [Value.cells] using hf
  rcases open_slice ht hf' with ⟨h0, _⟩ | ⟨a, len', cap', m, n, D, Pl, hcs, _, hl, hm, hmm, _, hi⟩
  · simp only [List.cons.injEq, Value.slice.injEq, and_true] at h0
    obtain ⟨rfl, rfl, rfl⟩ := h0
    exact ⟨none, [], 0, rfl, by simp, .inl rfl, by simp⟩
  · simp only [List.cons.injEq, Value.slice.injEq, and_true] at hcs
    obtain ⟨rfl, rfl, rfl⟩ := hcs
    have hle : len ≤ m := by rw [hmm]; split <;> omega
    obtain ⟨l, hlen, hq⟩ := choose_list (fun i x => (∀ (j : Nat) (u : Value), (en x)[j]? = some u → w.cell? (a.add (i * C + j)) = some u) ∧ ok x) len (fun i hi' => by
      obtain ⟨cs', hc, ht'⟩ := hi i (by omega)
      obtain ⟨x, rfl, hok⟩ := hel _ _ _ ht'
      rw [hC] at hc
      obtain ⟨_, hcl, hat⟩ := World.cells?_some hc
      refine ⟨x, fun j u hu => ?_, hok⟩
      have hj : j < C := by rw [← hcl]; exact (List.getElem?_eq_some_iff.1 hu).1
      rw [← Go.Deep.add_add, hat j hj, hu])
    subst hlen
    refine ⟨some a, l, cap, rfl, by omega, ?_, fun x hx => ?_⟩
    · rcases Nat.eq_zero_or_pos l.length with h0 | hpos
      · exact .inl (List.eq_nil_of_length_eq_zero h0)
      · -- the address has no spot
        obtain ⟨cs', hc, ht'⟩ := hi 0 (by omega)
        obtain ⟨x, rfl, _⟩ := hel _ _ _ ht'
        rw [hC] at hc
        obtain ⟨_, hcl, hat⟩ := World.cells?_some hc
        have h00 := hat 0 hC0
        have hadd : (a.add (0 * C)).add 0 = a := by rw [Nat.zero_mul]; unfold Addr.add; simp
        rw [hadd, List.getElem?_eq_getElem (by omega)] at h00
        have hlt := World.block_lt_of_cell? _ _ h00
        obtain ⟨g, off, sp⟩ := a
        have hsp : sp = none := by
          unfold World.cell? at h00
          split at h00
          · cases sp with
            | none => rfl
            | some _ => simp at h00
          · cases h00
        subst hsp
        refine .inr ⟨g, off, rfl, hlt, fun i hi' j u hu => ?_⟩
        have := (hq i hi').1 j u hu
        have e : (⟨g, off, none⟩ : Addr).add (i * C + j) = ⟨g, off + (i * C + j), none⟩ := by unfold Addr.add; split <;> simp_all
        rw [e] at this
        exact this
    · obtain ⟨i, hi', rfl⟩ := List.getElem_of_mem hx
      exact (hq i hi').2
end
end Go.Proofs.Ytkegbbndmfnolaa

/-
  Contracts of the helper functions that the laws use for lists of Int.
-/
namespace Go.Proofs.Ytkegbbndmfnolaa
open Go.RowKit Go.ChangeShapes Go.WideShapes
set_option linter.unusedVariables false
set_option linter.unusedSimpArgs false
set_option maxRecDepth 100000


def encInt (x : Int) : List Value := [.int .i64 x]
theorem encInt_len (x : Int) : (encInt x).length = 1 := rfl
def Int_small (lim : Int) (x : Int) : Prop := True
theorem Int_info : (Try.prog.info? 3).map (fun i => (i.zero, i.size, i.bytes)) = some (some (.int .i64 0), 1, 8) := by kernel_rfl

/-- What the marks make of a list of so many elements. -/
def markIntL (m q : Nat) : List Int := (List.range m).map fun i : Nat => (((q + i : Nat) : Int) : Int)
end Go.Proofs.Ytkegbbndmfnolaa
/-
  Contracts of chapter 1: rows.
-/
namespace Go.Proofs.Ytkegbbndmfnolaa
open Go.RowKit
set_option linter.unusedVariables false
set_option linter.unusedSimpArgs false
set_option maxRecDepth 100000

/-- A row: a permutation of the first bells. -/
def isRow (s : ByteArray) : Prop :=
  3 ≤ s.size ∧ s.size ≤ 8 ∧ (∀ i : Nat, i < s.size → 49 ≤ bat s i ∧ bat s i < 49 + s.size) ∧ (∀ i j : Nat, i < j → j < s.size → bat s i ≠ bat s j)

theorem isStage_any (n : Int) (w : World) :
    Calls Try.prog 58 #[.int .i64 n] w fun e w' => e = .returned (.bool (decide (3 ≤ n) && decide (n ≤ 8))) ∧ w = w' := by
  go_enter Try.func58, Try.ntmps58
  go_wp2
  all_goals (go_ret; exact ⟨by simp <;> omega, rfl⟩)
theorem isStage_t (n : Int) (w : World) (h1 : 3 ≤ n) (h2 : n ≤ 8) :
    Calls Try.prog 58 #[.int .i64 n] w fun e w' => e = .returned (.bool true) ∧ w = w' := by
  have := isStage_any n w; simpa [h1, h2] using this
theorem isStage_f (n : Int) (w : World) (h : n < 3 ∨ 8 < n) :
    Calls Try.prog 58 #[.int .i64 n] w fun e w' => e = .returned (.bool false) ∧ w = w' := by
  have := isStage_any n w
  have e : (decide (3 ≤ n) && decide (n ≤ 8)) = false := by simp <;> omega
  rw [e] at this; exact this

/-- The marks of the bells met so far. -/
def Marks (s : ByteArray) (k j : Nat) : Prop := j < 256 ∧ ∀ b : Nat, b < 8 → (j.testBit b = true ↔ ∃ i : Nat, i < k ∧ bat s i = 49 + b)
theorem Marks.zero (s : ByteArray) : Marks s 0 0 := ⟨by omega, fun b _ => by simp⟩
theorem Marks.step {s : ByteArray} {k j : Nat} (h : Marks s k j) (b : Nat) (hb : b < 8) (e : bat s k = 49 + b) : Marks s (k + 1) (j ||| 2 ^ b) := by
  refine ⟨?_, fun c hc => ?_⟩
  · have : 2 ^ b < 2 ^ 8 := Nat.pow_lt_pow_right (by omega) hb
    exact Nat.or_lt_two_pow (n := 8) h.1 this
  · rw [Nat.testBit_or, Nat.testBit_two_pow, Bool.or_eq_true, h.2 c hc, decide_eq_true_eq]
    constructor
    · rintro (⟨i, hi, hx⟩ | rfl)
      · exact ⟨i, by omega, hx⟩
      · exact ⟨k, by omega, e⟩
    · rintro ⟨i, hi, hx⟩
      rcases Nat.lt_or_eq_of_le (Nat.le_of_lt_succ hi) with h' | rfl
      · exact .inl ⟨i, h', hx⟩
      · right; omega
def isRowOf (n : Int) (s : ByteArray) : Prop := (s.size : Int) = n ∧ isRow s
def inB (n lo hi : Int) : Prop := lo ≤ n ∧ n ≤ hi
theorem l1In_any (n lo hi : Int) (w : World) :
    Calls Try.prog 56 #[.int .i64 n, .int .i64 lo, .int .i64 hi] w fun e w' => e = .returned (.bool (B (inB n lo hi))) ∧ w = w' := by
  by_cases h1 : lo ≤ n <;> by_cases h2 : n ≤ hi
  all_goals
    go_enter Try.func56, Try.ntmps56
    go_wp2
    go_ret
    first | exact ⟨ret_t ⟨h1, h2⟩, rfl⟩ | exact ⟨ret_f (fun x => by have := x.1; have := x.2; omega), rfl⟩
theorem l1In_t (n lo hi : Int) (w : World) (h : (inB n lo hi)) : Calls Try.prog 56 #[.int .i64 n, .int .i64 lo, .int .i64 hi] w fun e w' => e = .returned (.bool true) ∧ w = w' := by
  have := l1In_any n lo hi w; rw [B_t h] at this; exact this
theorem l1In_f (n lo hi : Int) (w : World) (h : ¬ (inB n lo hi)) : Calls Try.prog 56 #[.int .i64 n, .int .i64 lo, .int .i64 hi] w fun e w' => e = .returned (.bool false) ∧ w = w' := by
  have := l1In_any n lo hi w; rw [B_f h] at this; exact this


theorem l1At_any (s : ByteArray) (p : Int) (w : World) (h1 : 1 ≤ p) (h2 : p ≤ s.size) (hp : p ≤ 1000000) (h3 : 48 ≤ bat s (p - 1)) :
    Calls Try.prog 67 #[.string s, .int .i64 p] w fun e w' => e = .returned (.int .i64 (bat s (p - 1) - 48)) ∧ w = w' := by
  have hb1 := bat_hi s (p - 1)
  go_enter Try.func67, Try.ntmps67
  go_wp2
  go_ret
  exact ⟨rfl, rfl⟩

set_option maxHeartbeats 800000 in
theorem l1Row_any (s : ByteArray) (w : World) :
    Calls Try.prog 64 #[.string s] w fun e w' => e = .returned (.bool (B (isRow s))) ∧ ∃ n, w' = w.drewN n := by
  by_cases hs : 3 ≤ s.size ∧ s.size ≤ 8
  · obtain ⟨h1, h2⟩ := hs
    go_enter Try.func64, Try.ntmps64
    go_wp2_with (go_at_call 56; refine (l1In_t _ _ _ _ ⟨by omega, by omega⟩).mono ?_; rintro e w' ⟨rfl, rfl⟩)
    go_loopw [3] (fun i wr => ∃ k : Nat, k ≤ s.size ∧ i = .int .i64 k ∧ (∀ i : Nat, i < k → 49 ≤ bat s i ∧ bat s i < 49 + s.size) ∧ (∀ i l : Nat, i < l → l < k → bat s i ≠ bat s l) ∧ ∃ n, wr = w.drewN n) (fun i _ => s.size - (intOf i).toNat)
    case atStart => exact ⟨0, by omega, by rfl, by omega, by omega, 0, rfl⟩
    case round =>
      obtain ⟨k, hk, rfl, hr, hd, n, rfl⟩ := hrel
      have Hr := Lib.hid hr
      have Hd := Lib.hid hd
      clear hr hd
      by_cases hlt : k < s.size
      · have hb0 := bat_lo s k
        have hb1 := bat_hi s k
        by_cases c1 : bat s k < 49
        · go_wp2
          go_ret
          refine ⟨ret_f ?_, _, rfl⟩
          intro h; have := (h.2.2.1 k hlt).1; omega
        · by_cases c2 : (s.size : Int) < bat s k - 48
          · go_wp2
            go_ret
            refine ⟨ret_f ?_, _, rfl⟩
            intro h; have := (h.2.2.1 k hlt).2; omega
          · go_wp2
            go_loopw [4] (fun i wr => ∃ l : Nat, l ≤ k ∧ i = .int .i64 l ∧ (∀ i : Nat, i < l → bat s i ≠ bat s k) ∧ ∃ n, wr = w.drewN n) (fun i _ => k - (intOf i).toNat)
            case atStart => exact ⟨0, by omega, by rfl, by omega, n, rfl⟩
            case round =>
              obtain ⟨l, hl, rfl, he, m, rfl⟩ := hrel
              have He := Lib.hid he
              clear he
              by_cases hlt2 : l < k
              · have hb2 := bat_lo s l
                by_cases c3 : bat s l = bat s k
                · have c3b : (bat s l == bat s k) = true := by simpa using c3
                  have C3 := Lib.hid c3
                  clear c3
                  go_wp2
                  go_quiet (fail)
                  go_wp2
                  go_ret
                  refine ⟨ret_f ?_, _, drew2 _ _ _⟩
                  intro h; exact h.2.2.2 l k hlt2 hlt C3.out
                · have c3b : (bat s l == bat s k) = false := by simpa using c3
                  have C3 := Lib.hid c3
                  clear c3
                  go_wp2
                  go_quiet (fail)
                  go_wp2
                  go_roundw
                  case rel =>
                    refine ⟨l + 1, by omega, by go_num, fun i hi => ?_, _, rfl⟩
                    rcases Nat.lt_or_eq_of_le (Nat.le_of_lt_succ hi) with h' | rfl
                    · exact He.out i h'
                    · exact C3.out
                  case measure => simp [intOf]; omega
              · go_wp2
                go_roundw
                case rel =>
                  obtain rfl : l = k := by omega
                  refine ⟨l + 1, by omega, by go_num, fun i hi => ?_, fun i j hi hj => ?_, _, rfl⟩
                  · rcases Nat.lt_or_eq_of_le (Nat.le_of_lt_succ hi) with h' | rfl
                    · exact Hr.out i h'
                    · omega
                  · rcases Nat.lt_or_eq_of_le (Nat.le_of_lt_succ hj) with h' | rfl
                    · exact Hd.out i j hi h'
                    · exact He.out i hi
                case measure => simp [intOf]; omega
      · go_wp2
        go_ret
        obtain rfl : k = s.size := by omega
        exact ⟨ret_t ⟨h1, h2, Hr.out, Hd.out⟩, _, rfl⟩
  · go_enter Try.func64, Try.ntmps64
    go_wp2_with (go_at_call 56; refine (l1In_f _ _ _ _ (fun x => hs ⟨by have := x.1; omega, by have := x.2; omega⟩)).mono ?_; rintro e w' ⟨rfl, rfl⟩)
    go_ret
    refine ⟨ret_f ?_, 0, rfl⟩
    intro h; exact hs ⟨h.1, h.2.1⟩
end Go.Proofs.Ytkegbbndmfnolaa

/-
  Contracts: words, notes, calls and touches as texts (both sides).
-/
namespace Go.Proofs.Ytkegbbndmfnolaa
open Go.RowKit
set_option linter.unusedVariables false
set_option linter.unusedSimpArgs false
set_option maxRecDepth 100000

theorem within_any (n lo hi : Int) (w : World) :
    Calls Try.prog 59 #[.int .i64 n, .int .i64 lo, .int .i64 hi] w fun e w' => e = .returned (.bool (B (inB n lo hi))) ∧ w = w' := by
  by_cases h1 : lo ≤ n <;> by_cases h2 : n ≤ hi
  all_goals
    go_enter Try.func59, Try.ntmps59
    go_wp2
    go_ret
    first | exact ⟨ret_t ⟨h1, h2⟩, rfl⟩ | exact ⟨ret_f (fun x => by have := x.1; have := x.2; omega), rfl⟩
/-! ### A text whose bytes are all of a kind -/
def allB (p : Int → Prop) (s : ByteArray) : Prop := ∀ i : Nat, i < s.size → p (bat s i)
def wordByte (b : Int) : Prop := 97 ≤ b ∧ b ≤ 122
def isWordP (s : ByteArray) : Prop := allB wordByte s ∧ 1 ≤ s.size ∧ s.size ≤ 10
def noteByte (b : Int) : Prop := (97 ≤ b ∧ b ≤ 122) ∨ (48 ≤ b ∧ b ≤ 57) ∨ b = 46 ∨ b = 45
def isNoteP (s : ByteArray) : Prop := allB noteByte s ∧ s.size ≤ 20
def callByte (b : Int) : Prop := b = 112 ∨ b = 98 ∨ b = 115









/-! ### calls and touches -/
/-- A text of one letter that is a call. -/
def isCallP (s : ByteArray) : Prop := s.toList = [112] ∨ s.toList = [98] ∨ s.toList = [115]
def areCallsP (s : ByteArray) : Prop := allB callByte s
def touchP (s : ByteArray) : Prop := areCallsP s ∧ 1 ≤ s.size ∧ s.size ≤ 60
end Go.Proofs.Ytkegbbndmfnolaa

/-
  Contracts: all numbers of a list within bounds; a number among the first of a list (both sides).
-/
namespace Go.Proofs.Ytkegbbndmfnolaa
open Go.RowKit
set_option linter.unusedVariables false
set_option linter.unusedSimpArgs false
set_option maxRecDepth 100000

def allIn (l : List Int) (lo hi : Int) : Prop := ∀ s ∈ l, inB s lo hi
def hasUpTo (l : List Int) (m : Nat) (n : Int) : Prop := ∃ (j : Nat) (h : j < l.length), j < m ∧ l[j] = n


end Go.Proofs.Ytkegbbndmfnolaa
