import Derived.Test.YtglnehinmdmgmaaGreatMErrorsL10
import Derived.Test.YtglnehinmdmgmaaGreatMErrorsL06
import Derived.Test.YtglnehinmdmgmaaGreatMErrorsL07
import Derived.Test.YtglnehinmdmgmaaGreatMErrorsL01
import Derived.Test.YtglnehinmdmgmaaGreatMErrorsL05
import Derived.Test.YtglnehinmdmgmaaGreatMErrorsL03
import Derived.Deep.CutRange
/-
  Drawn calls and a drawn touch.
-/
namespace Go.Proofs.YtglnehinmdmgmaaGreat
open Go.RowKit
set_option linter.unusedVariables false
set_option linter.unusedSimpArgs false
set_option maxRecDepth 100000









end Go.Proofs.YtglnehinmdmgmaaGreat

/-
  A drawn touch.
-/
namespace Go.Proofs.YtglnehinmdmgmaaGreat
open Go.RowKit
set_option linter.unusedVariables false
set_option linter.unusedSimpArgs false
set_option maxRecDepth 100000

def callB (s : ByteArray) : Bool := s.data.toList.all (fun b => decide (b.toNat = 112) || (decide (b.toNat = 98) || decide (b.toNat = 115))) && decide (s.size = 1)
end Go.Proofs.YtglnehinmdmgmaaGreat

/-
  A region that draws its order, by what holds behind whichever of its operations: words of our own that know no program.
-/
namespace Go.Proofs.YtglnehinmdmgmaaGreat
open Go.RowKit
set_option linter.unusedVariables false
set_option linter.unusedSimpArgs false

def iRun (P : Program) (R : Value → World → Prop) : Result Next → Prop
  | .ok (.value u) w' => R u w'
  | .ok .skip w' => R undef w'
  | .ok (.enter f args) w' => Calls P f args w' fun e w'' => ∃ u, e = .returned u ∧ R u w''
  | _ => False
def dstOf (ops : Array Oper) (k : Nat) : Option Tmp := (ops[k]?).bind (·.dst)
/-- The frame where the chosen operations have yielded. -/
def putSel (ops : Array Oper) (val : Nat → Value) (a : Act) (L : Nat → Bool) : Nat → Act
  | 0 => a
  | n + 1 => if L n then (putSel ops val a L n).put (dstOf ops n) (val n) else putSel ops val a L n
def onL (L : Nat → Bool) (i : Nat) : Nat → Bool := fun k => if k = i then true else L k
section
variable {ops : Array Oper} {val val' : Nat → Value} {a : Act} {L L' : Nat → Bool}
end
def putAll (a : Act) (l : List (Option Tmp × Value)) : Act := l.foldl (fun a x => a.put x.1 x.2) a
/-- All results go to places of their own; no operation is guarded. -/
def invOk (ops : Array Oper) (n : Nat) : Bool := (List.range ops.size).all fun i =>
  (match ops[i]? with | some o => true | none => false) && (match dstOf ops i with | none => true | some d => decide (d < n) && (List.range ops.size).all fun j => i == j || dstOf ops j != some d)
section
variable {P : Program} {ops : Array Oper} {md : Region.Mode} {Q : Exit → Act → World → Prop}
end
section
variable {P : Program} {R : Value → World → Prop} {r : Result Next} {w' : World}
end
end Go.Proofs.YtglnehinmdmgmaaGreat

/-
  Contracts: lead heads with a call (both sides).
-/
namespace Go.Proofs.YtglnehinmdmgmaaGreat
open Go.RowKit
set_option linter.unusedVariables false
set_option linter.unusedSimpArgs false
set_option maxRecDepth 100000










end Go.Proofs.YtglnehinmdmgmaaGreat

/-
  Contracts: the heads of a touch, whether it comes round (the reference's side).
-/
namespace Go.Proofs.YtglnehinmdmgmaaGreat
open Go.RowKit
set_option linter.unusedVariables false
set_option linter.unusedSimpArgs false
set_option maxRecDepth 100000

theorem Grow.capN' {α : Type} {w : World} {base : Nat} {e : TypeId} {size : Nat} {enc : α → List Value} {l : List α} {A : Option Addr} {n c : Nat} (h : Grow w base e size enc (.slice A n c) l) : n ≤ c := by
  rcases h.2 with ⟨h1, h2⟩ | ⟨g, cap, cur, h1, h2, h3, h4, h5, _⟩
  · injection h1 with _ e1 e2; omega
  · injection h1 with _ e1 e2; omega
theorem RdL.take {α : Type} {w : World} {b : Nat} {A : Option Addr} {size : Nat} {enc : α → List Value} {l : List α} (h : RdL w b A size enc l) (m : Nat) : RdL w b A size enc (l.take m) := by
  rcases h with h | ⟨g, off, hA, hg, hc⟩
  · exact .inl (by subst h; simp)
  · refine .inr ⟨g, off, hA, hg, fun i hi j u hu => hc i (by simp at hi; omega) j u ?_⟩
    rw [List.getElem_take] at hu; exact hu





end Go.Proofs.YtglnehinmdmgmaaGreat

/-
  The rows of a touch (the reference's side), exactly.
-/
namespace Go.Proofs.YtglnehinmdmgmaaGreat
open Go.RowKit
set_option linter.unusedVariables false
set_option linter.unusedSimpArgs false
set_option maxRecDepth 100000

/-- The rows of the first k leads of a touch. -/
noncomputable def rowsTo (n : Nat) (x : List ByteArray) (b s t : ByteArray) : Nat → List ByteArray
  | 0 => []
  | k + 1 => rowsTo n x b s t k ++ walkL (chF n) (headS n x b s t k) x x.length
/-- The rows of a touch. -/
noncomputable def rowsL9 (n : Nat) (x : List ByteArray) (b s t : ByteArray) : List ByteArray := rowsTo n x b s t t.size





end Go.Proofs.YtglnehinmdmgmaaGreat

/-
  The reader of choices: rows, texts that are spoilt.
-/
namespace Go.Proofs.YtglnehinmdmgmaaGreat
open Go.RowKit
set_option linter.unusedVariables false
set_option linter.unusedSimpArgs false
set_option maxRecDepth 100000

def fct : Nat → Nat
  | 0 => 1
  | n + 1 => (n + 1) * fct n
theorem fct_pos : ∀ n, 1 ≤ fct n
  | 0 => Nat.le_refl _
  | n + 1 => by
    have := fct_pos n
    show 1 ≤ (n + 1) * fct n
    exact Nat.le_trans (show 1 ≤ 1 * 1 by omega) (Nat.mul_le_mul (by omega) this)
theorem fct_mono {m n : Nat} (h : m ≤ n) : fct m ≤ fct n := by
  induction n with
  | zero =>
    obtain rfl : m = 0 := by omega
    exact Nat.le_refl _
  | succ n ih =>
    by_cases e : m = n + 1
    · rw [e]; exact Nat.le_refl _
    · refine Nat.le_trans (ih (by omega)) ?_
      show fct n ≤ (n + 1) * fct n
      exact Nat.le_mul_of_pos_left _ (by omega)
theorem fct_8 : fct 8 = 40320 := rfl
set_option maxHeartbeats 1600000 in
theorem l1Fact_any (n : Nat) (w : World) (hn : n ≤ 8) :
    Calls Tryz.prog 106 #[.int .i64 (n : Int)] w fun e w' => e = .returned (.int .i64 (fct n : Int)) ∧ w = w' := by
  have h8 := fct_mono hn
  rw [fct_8] at h8
  go_enter Tryz.func106, Tryz.ntmps106
  go_wp2
  go_loopw [0, 3] (fun a b wr => ∃ j c : Nat, j ≤ n ∧ a = .int .i64 j ∧ b = .int .i64 c ∧ c * fct j = fct n ∧ w = wr) (fun a _ _ => (intOf a).toNat)
  case atStart => exact ⟨n, 1, Nat.le_refl _, by rfl, by rfl, by omega, rfl⟩
  case round =>
    obtain ⟨j, c, hj, rfl, rfl, hc, rfl⟩ := hrel
    have hcf : c ≤ fct n := by rw [← hc]; exact Nat.le_mul_of_pos_right _ (fct_pos j)
    have Hc := Lib.hid hc
    clear hc
    by_cases h1 : 1 < j
    · obtain ⟨m, rfl⟩ : ∃ m, j = m + 1 := ⟨j - 1, by omega⟩
      have hd : decide ((1 : Int) < (m : Int) + 1) = true := by simp; omega
      have hcm : c * (m + 1) ≤ 40320 := by
        have := Hc.out
        have h2 : c * (m + 1) ≤ c * fct (m + 1) := Nat.mul_le_mul_left _ (by show m + 1 ≤ (m + 1) * fct m; exact Nat.le_mul_of_pos_right _ (fct_pos m))
        omega
      have hcmi : ((c : Int) * ((m : Int) + 1)) = ((c * (m + 1) : Nat) : Int) := by simp
      obtain ⟨d, hd2⟩ : ∃ d : Nat, Hid (c * (m + 1) = d) := ⟨_, Lib.hid rfl⟩
      have hcmi2 : ((c : Int) * ((m : Int) + 1)) = (d : Int) := by rw [hcmi, hd2.out]
      rw [hd2.out] at hcm
      clear hcmi
      go_wp2
      go_roundw
      case rel => exact ⟨m, d, by omega, by go_num, by rfl, by rw [← hd2.out, ← Hc.out, Nat.mul_assoc]; rfl, by first | rfl | trivial⟩
      case measure => simp [intOf]
    · have hd : decide ((1 : Int) < (j : Int)) = false := by simp; omega
      have hf : Hid (c = fct n) := Lib.hid (by
        have := Hc.out
        rcases (show j = 0 ∨ j = 1 by omega) with rfl | rfl
        · simpa [fct] using this
        · simpa [fct] using this)
      go_wp2
      go_ret
      exact ⟨by rw [hf.out]; rfl, rfl⟩
def strLen : Value → Nat
  | .string s => s.size
  | _ => 0
set_option maxHeartbeats 3200000 in
theorem rowOf_any (n k : Nat) (w : World) (h3 : 3 ≤ n) (h8 : n ≤ 8) (hk : k < fct n) :
    Calls Tryz.prog 105 #[.int .i64 (n : Int), .int .i64 (k : Int)] w fun e w' => ∃ s : ByteArray, e = .returned (.tuple #[.string s, .bool true]) ∧ s.size = n ∧ Below w.heap.size w w' := by
  have hf8 := fct_mono h8
  rw [fct_8] at hf8
  have e1 := B_t (show inB (n : Int) 3 8 from ⟨by omega, by omega⟩)
  have e2 := B_t (show inB (k : Int) 0 ((fct n : Int) - 1) from ⟨by omega, by omega⟩)
  have hr := roundsS_size (n := (n : Int)) (by omega) (by omega)
  go_enter Tryz.func105, Tryz.ntmps105
  go_wp2_with (first | (go_at_call 53; refine (l1In_any _ _ _ _).mono ?_; rintro e w' ⟨rfl, rfl⟩) | (go_at_call 106; refine (l1Fact_any n _ h8).mono ?_; rintro e w' ⟨rfl, rfl⟩) | (go_at_call 88; refine (l1Rounds_any (n : Int) _ (by omega) (by omega)).mono ?_; rintro e w' ⟨rfl, rfl⟩))
  obtain ⟨R, hR⟩ : ∃ R, Hid (roundsS (n : Int) = R) := ⟨_, Lib.hid rfl⟩
  rw [hR.out] at hr ⊢
  have HR := Lib.hid (show R.size = n by omega)
  clear hr e1 e2
  go_loopw [1, 6, 7] (fun a r o wr => ∃ (j k : Nat) (rr oo : ByteArray), j ≤ n ∧ k < fct j ∧ a = .int .i64 k ∧ r = .string rr ∧ o = .string oo ∧ rr.size = j ∧ oo.size + j = n ∧ Below w.heap.size w wr) (fun _ r _ _ => strLen r)
  case atStart => exact ⟨n, k, R, ⟨#[]⟩, Nat.le_refl _, hk, by rfl, by rfl, by rfl, HR.out, by show 0 + n = n; omega, Below.refl _ _⟩
  case round =>
    obtain ⟨j, k, rr, oo, hj, hk, rfl, rfl, rfl, hrr, hoo, hbl⟩ := hrel
    have Hb := Lib.hid hbl
    have Hoo := Lib.hid hoo
    clear hbl hoo HR
    by_cases h1 : 0 < rr.size
    · obtain ⟨m, rfl⟩ : ∃ m, j = m + 1 := ⟨j - 1, by omega⟩
      have Hrr := Lib.hid hrr
      have hd : decide (0 < rr.size) = true := decide_eq_true h1
      have hm7 : m ≤ 7 := by omega
      have hf1 := fct_pos m
      have hfm := fct_mono (show m ≤ 8 by omega)
      rw [fct_8] at hfm
      have hkk : k < (m + 1) * fct m := hk
      have hq : k / fct m < m + 1 := Nat.div_lt_of_lt_mul (by rw [Nat.mul_comm]; exact hkk)
      have hmod : k % fct m < fct m := Nat.mod_lt _ (by omega)
      have hfct : Hid (∀ W : World, Calls Tryz.prog 106 #[.int .i64 (m : Int)] W fun e w' => e = .returned (.int .i64 (fct m : Int)) ∧ W = w') := Lib.hid (fun W => l1Fact_any m W (by omega))
      obtain ⟨F, hF⟩ : ∃ F, Hid (fct m = F) := ⟨_, Lib.hid rfl⟩
      rw [hF.out] at hf1 hfm hq hmod hfct
      have hszi : (rr.size : Int) - 1 = (m : Int) := by omega
      obtain ⟨q, hqe⟩ : ∃ q, Hid (k / F = q) := ⟨_, Lib.hid rfl⟩
      rw [hqe.out] at hq
      have he : (k : Int) / (F : Int) = (q : Int) := by rw [← hqe.out]; simp
      obtain ⟨km, hkm⟩ : ∃ km, Hid (k % F = km) := ⟨_, Lib.hid rfl⟩
      have hem : (k : Int) % (F : Int) = (km : Int) := by rw [← hkm.out]; simp
      have hmod' : Hid (km < fct m) := Lib.hid (by rw [← hkm.out, hF.out]; exact hmod)
      have hqs : (q : Int) + 1 ≤ (rr.size : Int) := by omega
      have hqs0 : (q : Int) ≤ (rr.size : Int) := by omega
      have hqn : q + 1 ≤ rr.size := by omega
      have hse : (rr.extract q (q + 1)).size = 1 := by simp only [size_ext]; omega
      have hse2 : (rr.extract 0 q).size = q := by simp only [size_ext]; omega
      have hse3 : (rr.extract (q + 1) rr.size).size = rr.size - (q + 1) := by simp only [size_ext]; omega
      have hos : oo.size ≤ 8 := by have := Hoo.out; omega
      have hrs : rr.size ≤ 8 := by omega
      clear hk hkk hrr hmod
      go_wp2_with (go_at_call 106; refine (hfct.out _).mono ?_; rintro e w' ⟨rfl, rfl⟩)
      go_quiet (fail)
      go_wp2
      go_roundw
      case rel =>
        refine ⟨m, km, _, _, by omega, hmod'.out, by rw [hem], by rfl, by rfl, ?_, ?_, below_drewN Hb.out _⟩
        · simp only [size_app, size_ext]; omega
        · have := Hoo.out; simp only [size_app, size_ext]; omega
      case measure => simp only [strLen, size_app, size_ext]; omega
    · have hd : decide (0 < rr.size) = false := decide_eq_false h1
      have Hoo' : Hid (oo.size = n) := Lib.hid (by have := Hoo.out; omega)
      go_wp2
      go_ret2
      exact ⟨_, rfl, Hoo'.out, Hb.out⟩
set_option maxHeartbeats 1600000 in
theorem row_any (g K n : Nat) (w : World) (h : Cur w g K) (hK : K ≤ 100000000) (h3 : 3 ≤ n) (h8 : n ≤ 8) :
    Calls Tryz.prog 92 #[.pointer (some ⟨g, 0, none⟩), .int .i64 (n : Int)] w fun e w' => ∃ s : ByteArray, e = .returned (.string s) ∧ s.size = n ∧ Cur w' g (K + 2) ∧ Turn g w w' := by
  have H := Lib.hid h
  clear h
  have hf8 := fct_mono h8
  rw [fct_8] at hf8
  have hf1 := fct_pos n
  have hfct : Hid (∀ W : World, Calls Tryz.prog 106 #[.int .i64 (n : Int)] W fun e w' => e = .returned (.int .i64 (fct n : Int)) ∧ W = w') := Lib.hid (fun W => l1Fact_any n W (by omega))
  go_enter Tryz.func92, Tryz.ntmps92
  go_wp2_with (first | (go_at_call 106; refine (hfct.out _).mono ?_; rintro e w' ⟨rfl, rfl⟩) | (go_at_call 48; refine (pick_any g K (fct n : Int) _ H.out (by omega) (by omega)).mono ?_; rintro e w1 ⟨x, rfl, hx0, hx1, hc, ht⟩; have HC := Lib.hid hc; have HT := Lib.hid ht; clear hc ht; obtain ⟨k, rfl⟩ : ∃ k : Nat, x = (k : Int) := ⟨x.toNat, by omega⟩; have hk : k < fct n := (by omega)) | (go_at_call 105; refine (rowOf_any n k _ h3 h8 hk).mono ?_; rintro e w2 ⟨s, rfl, hs, hb⟩; have HS := Lib.hid hs; have HB := Lib.hid hb; clear hs hb))
  go_ret
  exact ⟨_, rfl, HS.out, HC.out.later HB.out, HT.out.then HB.out⟩
end Go.Proofs.YtglnehinmdmgmaaGreat

/-
  Drawn rows.
-/
namespace Go.Proofs.YtglnehinmdmgmaaGreat
open Go.RowKit
set_option linter.unusedVariables false
set_option linter.unusedSimpArgs false
set_option maxRecDepth 100000

/-- A list in memory, from block lo on. -/
def Aw {α : Type} (w : World) (lo : Nat) (A : Option Addr) (size : Nat) (enc : α → List Value) (l : List α) : Prop := RdL w w.heap.size A size enc l ∧ (l = [] ∨ ∃ g off, A = some ⟨g, off, none⟩ ∧ lo ≤ g)
section
variable {α : Type} {enc : α → List Value} {size : Nat} {A : Option Addr} {l : List α} {w w' : World} {lo g : Nat}
theorem Aw.own {b c : Nat} (h : OwnL w b c A size enc l) (henc : ∀ x, (enc x).length = size) (hb : lo ≤ b) : Aw w lo A size enc l := by
  refine ⟨h.rd henc, ?_⟩
  rcases h with h | ⟨g', f, hA, h1, h2, _⟩
  · exact .inl h
  · exact .inr ⟨g', 0, hA, by omega⟩
theorem RdL.turnG (h : RdL w w.heap.size A size enc l) (t : Turn g w w') (hne : l = [] ∨ ∃ q off, A = some ⟨q, off, none⟩ ∧ q ≠ g) : RdL w' w'.heap.size A size enc l := by
  rcases h with h | ⟨q, off, hA, hlt, hc⟩
  · exact .inl h
  · rcases hne with h | ⟨q', off', hA', hne⟩
    · exact .inl h
    · rw [hA] at hA'
      simp only [Option.some.injEq, Addr.mk.injEq, and_true] at hA'
      obtain ⟨rfl, rfl⟩ := hA'
      exact .inr ⟨q, off, hA, Nat.lt_of_lt_of_le hlt t.size, fun i hi j u hu => (t.cell (p := ⟨q, _, none⟩) hlt hne).trans (hc i hi j u hu)⟩
theorem Aw.turn (h : Aw w lo A size enc l) (t : Turn g w w') (hg : g < lo) : Aw w' lo A size enc l :=
  ⟨h.1.turnG t (h.2.imp id fun ⟨q, off, e, hq⟩ => ⟨q, off, e, by omega⟩), h.2⟩
theorem Aw.later (h : Aw w lo A size enc l) (t : Below w.heap.size w w') : Aw w' lo A size enc l := ⟨(h.1.below t (Nat.le_refl _)).more t.size, h.2⟩
theorem Aw.weak {lo' : Nat} (h : Aw w lo A size enc l) (hl : lo' ≤ lo) : Aw w lo' A size enc l := ⟨h.1, h.2.imp id fun ⟨q, off, e, hq⟩ => ⟨q, off, e, by omega⟩⟩
theorem Aw.take (h : Aw w lo A size enc l) (m : Nat) : Aw w lo A size enc (l.take m) :=
  ⟨h.1.take m, h.2.imp (fun e => by rw [e]; simp) id⟩
end
theorem own_some {w : World} {base : Nat} {e : TypeId} {A : Option Addr} {c : Nat} {l : List ByteArray} (h : Grow w base e 1 encString (.slice A l.length c) l) : OwnL w base w.heap.size A 1 encString l := by
  obtain ⟨A9, c9, e9, o9⟩ := h.own encString_len
  injection e9 with e9 _ _
  rw [e9]; exact o9
set_option maxHeartbeats 1600000 in
theorem rowsOf_any (g K n m : Nat) (w : World) (h : Cur w g K) (hK : K ≤ 10000000) (h3 : 3 ≤ n) (h8 : n ≤ 8) (hm : m ≤ 9) :
    Calls Tryz.prog 67 #[.pointer (some ⟨g, 0, none⟩), .int .i64 (n : Int), .int .i64 (m : Int)] w fun e w' => ∃ (l : List ByteArray) (A : Option Addr) (c : Nat), e = .returned (.slice A l.length c) ∧ l.length ≤ m ∧ l.length ≤ c ∧ (∀ r ∈ l, r.size ≤ 8) ∧ OwnL w' w.heap.size w'.heap.size A 1 encString l ∧ Cur w' g (K + 40) ∧ Turn g w w' := by
  have H := Lib.hid h
  have hgw := h.lt
  clear h
  have Hone : Hid (∀ x : ByteArray, ∀ u ∈ [Value.string x], u.oneCell' = true) := Lib.hid (by intro x u hu; simp at hu; subst hu; rfl)
  go_enter Tryz.func67, Tryz.ntmps67
  go_upto_region 3 with (go_at_call 48; refine (pick_any g K ((m : Int) + 1) _ H.out (by omega) (by omega)).mono ?_; rintro e w1 ⟨x, rfl, hx0, hx1, hc, ht⟩; have HC1 := Lib.hid hc; have HT1 := Lib.hid ht; clear hc ht; obtain ⟨k, rfl⟩ : ∃ k : Nat, x = (k : Int) := ⟨x.toNat, by omega⟩; have hk : k ≤ m := (by omega))
  go_loopw [7, 8] (fun v i wr => ∃ (j : Nat) (l : List ByteArray), i = .int .i64 (j : Int) ∧ l.length + j ≤ m ∧ Hid (∀ r ∈ l, r.size ≤ 8) ∧ Grow wr w.heap.size 9 1 encString v l ∧ Cur wr g (K + 2 + 2 * l.length) ∧ Turn g w wr) (fun _ i _ => (intOf i).toNat)
  case atStart => exact ⟨k, [], by rfl, by simpa using hk, Lib.hid (by simp), Grow.nil, HC1.out.more (by omega), HT1.out⟩
  case round =>
    obtain ⟨j, l, rfl, hj, hP, hgr, hcu, htu⟩ := hrel
    have HG := Lib.hid hgr
    have HCu := Lib.hid hcu
    have HTu := Lib.hid htu
    have hzr := htu.size
    have hl9 : l.length ≤ 9 := by omega
    clear hgr hcu htu
    by_cases hlt : 0 < j
    · go_wp2_with (first
        | (go_at_call 92; refine (row_any g _ n wr HCu.out (by omega) h3 h8).mono ?_; rintro e w4 ⟨s, rfl, hs, hc, ht⟩; have Hs := Lib.hid hs; have HC4 := Lib.hid hc; have HT4 := Lib.hid (HTu.out.trans ht); have hz4 := ht.size; have HG4 := Lib.hid (HG.out.turn ht hgw); clear hs hc ht)
        | (at_builtin; refine wpList_pushA rfl (.tmp 17) (.tmp 21) 25 rfl w.heap.size 9 _ 1 16 encString rfl String_info rfl (by omega) _ l [s] 1 rfl rfl (by simp) HG4.out rfl encString_len (Hone.out s) (by simp only [List.length_singleton]; omega) (by omega) (by omega) ?_; intro v6 w6 g6 b6 gb6 k6; have HG6 := Lib.hid g6; have HB6 := Lib.hid b6; clear g6 b6 gb6 k6))
      go_roundw
      case rel => exact ⟨j - 1, l ++ [s], by go_num, by simp; omega, Lib.hid (fun r hr => by
        rcases List.mem_append.1 hr with hr | hr
        · exact hP.out r hr
        · rw [List.mem_singleton.1 hr]; have := Hs.out; omega), HG6.out, (HC4.out.keep HB6.out hgw).more (by simp; omega), HT4.out.thenB HB6.out⟩
      case measure => simp [intOf]; omega
    · obtain rfl : j = 0 := by omega
      obtain ⟨wo, rfl⟩ : ∃ wo, wo = wr := ⟨wr, rfl⟩
      by_cases hl0 : l.length = 0
      · obtain rfl := List.eq_nil_of_length_eq_zero hl0
        obtain ⟨A, c, rfl, ho⟩ := HG.out.own encString_len
        have hcp := HG.out.capN'
        clear ho
        simp only [List.length_nil] at *
        go_wp2
        go_ret
        exact ⟨[], A, c, rfl, by simp, by simp, by simp, OwnL.nil, HCu.out.more (by omega), HTu.out⟩
      · have hl1 : 0 < l.length := by omega
        obtain ⟨gq, cap, hv, hq1, hq2, hq3⟩ := HG.out.some_ hl1
        subst hv
        go_wp2_with (go_at_call 17; refine (one_any g _ 25 wo HCu.out (by omega) (by omega)).mono ?_; rintro e w5 ⟨b5, rfl, hc5, ht5⟩; have HC5 := Lib.hid hc5; have HT5 := Lib.hid (HTu.out.trans ht5); have hz5 := ht5.size; have HG5 := Lib.hid (HG.out.turn ht5 hgw); obtain ⟨q0, f0⟩ := HG5.out.cellS 0 hl1; clear hc5 ht5; cases b5)
        · go_ret
          exact ⟨l, some ⟨gq, 0, none⟩, cap, rfl, by omega, hq3, hP.out, own_some HG5.out, HC5.out.more (by omega), HT5.out⟩
        · have HS := HG5.out.stored rfl encString_len (x := (⟨#[49]⟩ : ByteArray)) (u := .string (⟨#[49]⟩ : ByteArray)) rfl 0
          have hsl : (l.set 0 (⟨#[49]⟩ : ByteArray)).length = l.length := by simp
          have hB : Below w.heap.size w5 (w5.setCell ⟨gq, 0, none⟩ (.string (⟨#[49]⟩ : ByteArray))) := (Below.refl _ _).setCell (p := ⟨gq, 0, none⟩) hq1 _
          go_ret
          exact ⟨l.set 0 (⟨#[49]⟩ : ByteArray), some ⟨gq, 0, none⟩, cap, by rw [hsl]; rfl, by rw [hsl]; omega, by rw [hsl]; exact hq3, fun r hr => by
            rcases List.mem_or_eq_of_mem_set hr with hr | rfl
            · exact hP.out r hr
            · decide, by rw [← hsl] at HS; exact own_some HS, (HC5.out.keep hB hgw).more (by omega), HT5.out.thenB hB⟩
end Go.Proofs.YtglnehinmdmgmaaGreat

/-
  How often a row is applied until it comes to rounds: plain law (840 serves for up to eight bells), and the contract of l1Order.
-/
namespace Go.Proofs.YtglnehinmdmgmaaGreat
open Go.RowKit
set_option linter.unusedVariables false
set_option linter.unusedSimpArgs false
set_option maxRecDepth 100000

def itF (f : Nat → Nat) : Nat → Nat → Nat
  | 0, i => i
  | k + 1, i => f (itF f k i)
theorem itF_comm (f : Nat → Nat) (i : Nat) : ∀ k, itF f k (f i) = f (itF f k i)
  | 0 => rfl
  | k + 1 => by show f (itF f k (f i)) = f (f (itF f k i)); rw [itF_comm f i k]
theorem itF_add (f : Nat → Nat) (b i : Nat) : ∀ a, itF f (a + b) i = itF f a (itF f b i)
  | 0 => by rw [Nat.zero_add]; rfl
  | a + 1 => by rw [show a + 1 + b = (a + b) + 1 by omega]; show f (itF f (a + b) i) = f (itF f a (itF f b i)); rw [itF_add f b i a]
theorem itF_lt {f : Nat → Nat} {n i : Nat} (hf : ∀ i, i < n → f i < n) (hi : i < n) : ∀ k, itF f k i < n
  | 0 => hi
  | k + 1 => hf _ (itF_lt hf hi k)
theorem itF_cancel {f : Nat → Nat} {n i d : Nat} (hf : ∀ i, i < n → f i < n) (hj : ∀ i j, i < n → j < n → f i = f j → i = j) (hi : i < n) : ∀ a, itF f (a + d) i = itF f a i → itF f d i = i
  | 0, h => by rw [Nat.zero_add] at h; exact h
  | a + 1, h => by
    rw [show a + 1 + d = (a + d) + 1 by omega] at h
    exact itF_cancel hf hj hi a (hj _ _ (itF_lt hf hi _) (itF_lt hf hi _) h)
theorem itF_mul {f : Nat → Nat} {i d : Nat} (h : itF f d i = i) : ∀ m, itF f (m * d) i = i
  | 0 => by rw [Nat.zero_mul]; rfl
  | m + 1 => by rw [Nat.add_mul, Nat.one_mul, itF_add, h]; exact itF_mul h m
theorem itF_orbit {f : Nat → Nat} {n i : Nat} (hf : ∀ i, i < n → f i < n) (hj : ∀ i j, i < n → j < n → f i = f j → i = j) (hi : i < n) : ∃ d, 1 ≤ d ∧ d ≤ n ∧ itF f d i = i := by
  refine Classical.byContradiction fun hn => ?_
  have hnd : ((List.range (n + 1)).map fun k => itF f k i).Nodup := by
    rw [List.Nodup, List.pairwise_iff_getElem]
    intro a b ha hb hab e
    simp only [List.length_map, List.length_range] at ha hb
    simp only [List.getElem_map, List.getElem_range] at e
    refine hn ⟨b - a, by omega, by omega, itF_cancel (d := b - a) hf hj hi a ?_⟩
    rw [show a + (b - a) = b by omega]; exact e.symm
  have := CycT.nodupN_le _ n hnd (fun x hx => by
    obtain ⟨k, _, rfl⟩ := List.mem_map.1 hx
    exact itF_lt hf hi k)
  simp only [List.length_map, List.length_range] at this
  omega
theorem itF_840 {f : Nat → Nat} {n i : Nat} (h8 : n ≤ 8) (hf : ∀ i, i < n → f i < n) (hj : ∀ i j, i < n → j < n → f i = f j → i = j) (hi : i < n) : itF f 840 i = i := by
  obtain ⟨d, h1, h2, h3⟩ := itF_orbit hf hj hi
  have key : ∀ d : Fin 9, 1 ≤ d.val → (840 / d.val) * d.val = 840 := by decide
  have := itF_mul h3 (840 / d)
  rw [key ⟨d, by omega⟩ h1] at this
  exact this
/-- A row applied to itself so often (and once more). -/
def powS (a : ByteArray) : Nat → ByteArray
  | 0 => a
  | k + 1 => timesS (powS a k) a
theorem powS_size (a : ByteArray) : ∀ k, (powS a k).size = a.size
  | 0 => rfl
  | k + 1 => size_times _ _
theorem powS_bat {a : ByteArray} (h : isRow a) : ∀ (k i : Nat), i < a.size → bat (powS a k) i = 49 + ((itF (rowF a) (k + 1) i : Nat) : Int)
  | 0, i, hi => by show bat a i = _; have := rowF_bat h hi; show _ = 49 + ((rowF a i : Nat) : Int); omega
  | k + 1, i, hi => by
    show bat (timesS (powS a k) a) i = _
    rw [bat_times _ _ _ hi]
    have e : bat a i - 49 = ((rowF a i : Nat) : Int) := by have := rowF_bat h hi; omega
    rw [e, powS_bat h k (rowF a i) (rowF_lt h i hi), itF_comm]
    rfl
theorem powS_840 {a : ByteArray} (h : isRow a) : powS a 839 = roundsS (a.size : Int) := by
  have h3 : 3 ≤ a.size := h.1
  have h8 : a.size ≤ 8 := h.2.1
  have hs : (roundsS (a.size : Int)).size = a.size := (row_rounds h3 h8).2
  refine str_ext (by rw [powS_size, hs]) fun i hi => ?_
  rw [powS_size] at hi
  rw [powS_bat h _ _ hi, rounds_bat hi h8, itF_840 h8 (fun i hi => rowF_lt h i hi) (fun i j hi hj e => rowF_inj h i j hi hj e) hi]
set_option maxHeartbeats 1600000 in
theorem l1Order_any (a : ByteArray) (w : World) (h : isRow a) :
    Calls Tryz.prog 89 #[.string a] w fun e w' => ∃ k : Nat, e = .returned (.int .i64 (k : Int)) ∧ 1 ≤ k ∧ k ≤ 840 ∧ Below w.heap.size w w' := by
  have h3 : 3 ≤ a.size := h.1
  have h8 : a.size ≤ 8 := h.2.1
  obtain ⟨R, hR⟩ : ∃ R, Hid (roundsS (a.size : Int) = R) := ⟨_, Lib.hid rfl⟩
  have hE : Hid (powS a 839 = R) := Lib.hid (by rw [← hR.out]; exact powS_840 h)
  have hrn : Hid (∀ w, Calls Tryz.prog 88 #[.int .i64 (a.size : Int)] w fun e w' => e = .returned (.string R) ∧ w = w') := Lib.hid (fun w => by rw [← hR.out]; exact l1Rounds_any (a.size : Int) w (by omega) (by omega))
  have htm : Hid (∀ (k : Nat) (W : World), Calls Tryz.prog 103 #[.string (powS a k), .string a] W fun e w' => e = .returned (.string (powS a (k + 1))) ∧ W = w') := Lib.hid (fun k W => l1Times_any (powS a k) a W (by omega) (by rw [powS_size]; omega) (fun i hi => by have := h.2.2.1 i hi; rw [powS_size]; exact this))
  have hpz : Hid (∀ k, (powS a k).size = a.size) := Lib.hid (powS_size a)
  clear h
  go_enter Tryz.func89, Tryz.ntmps89
  go_wp2
  go_loopw [3, 4] (fun k x wr => ∃ j : Nat, j < 840 ∧ k = .int .i64 ((j : Int) + 1) ∧ x = .string (powS a j) ∧ Below w.heap.size w wr) (fun k _ _ => 841 - (intOf k).toNat)
  case atStart => exact ⟨0, by omega, by go_num, by rfl, Below.refl _ _⟩
  case round =>
    obtain ⟨j, hj, rfl, rfl, hbl⟩ := hrel
    have HB := Lib.hid hbl
    have htm1 := Lib.hid (htm.out j)
    have hps := hpz.out j
    have hlast : Hid (powS a j ≠ R → j ≠ 839) := Lib.hid (fun e e2 => e (by rw [e2]; exact hE.out))
    clear hbl
    obtain ⟨T, hT⟩ : ∃ T, Hid (powS a j = T) := ⟨_, Lib.hid rfl⟩
    rw [hT.out] at htm1 hps hlast ⊢
    by_cases hc : T = R
    · have e2 := eqB_t hc
      clear hc
      go_wp2_with (first | (go_at_call 88; refine (hrn.out _).mono ?_; rintro e w1 ⟨rfl, rfl⟩) | fail)
      go_ret
      exact ⟨j + 1, by go_num, by omega, by omega, HB.out⟩
    · have hj2 := hlast.out hc
      have e2 := eqB_f hc
      clear hc
      go_wp2_with (first | (go_at_call 88; refine (hrn.out _).mono ?_; rintro e w1 ⟨rfl, rfl⟩) | (go_at_call 103; refine (htm1.out _).mono ?_; rintro e w1 ⟨rfl, rfl⟩) | fail)
      go_roundw
      case rel => exact ⟨j + 1, by omega, by go_num, by rfl, HB.out⟩
      case measure => simp [intOf]; omega
end Go.Proofs.YtglnehinmdmgmaaGreat
