import Derived.Test.YtbfhfnejppfehaaDoorMGainL27
import Derived.Test.YtbfhfnejppfehaaDoorMGainL06
import Derived.Deep.RegionHeld3
import Derived.Lib.SliceRun
import Derived.Test.YtbfhfnejppfehaaDoorMGainL02
import Derived.Test.YtbfhfnejppfehaaDoorMGainL23
import Derived.Deep.CutRange
import Derived.Test.YtbfhfnejppfehaaDoorMGainL14
import Derived.Test.YtbfhfnejppfehaaDoorMGainL13
/-
  Rounds; lists of strings and methods copied: contracts of both sides.
-/
namespace Go.Proofs.YtbfhfnejppfehaaDoor
open Go.RowKit
set_option linter.unusedVariables false
set_option linter.unusedSimpArgs false
set_option maxRecDepth 100000

def eightS : ByteArray := ⟨#[49, 50, 51, 52, 53, 54, 55, 56]⟩
/-- Rounds. -/
def roundsS (n : Int) : ByteArray := eightS.extract 0 n.toNat
theorem roundsS_size {n : Int} (h0 : 0 ≤ n) (h8 : n ≤ 8) : (roundsS n).size = n.toNat := by
  unfold roundsS; rw [size_ext]
  have : eightS.size = 8 := rfl
  omega

theorem rounds_any (n : Int) (w : World) (h0 : 0 ≤ n) (h8 : n ≤ 8) : Calls Tryd.prog 81 #[.int .i64 n] w fun e w' => e = .returned (.string (roundsS n)) ∧ w = w' := by
  have hz : (⟨#[49, 50, 51, 52, 53, 54, 55, 56]⟩ : ByteArray).size = 8 := rfl
  go_enter Tryd.func81, Tryd.ntmps81
  go_wp2
  go_ret
  exact ⟨rfl, rfl⟩
theorem l1Rounds_any (n : Int) (w : World) (h0 : 0 ≤ n) (h8 : n ≤ 8) : Calls Tryd.prog 73 #[.int .i64 n] w fun e w' => e = .returned (.string (roundsS n)) ∧ w = w' := by
  have hz : (⟨#[49, 50, 51, 52, 53, 54, 55, 56]⟩ : ByteArray).size = 8 := rfl
  go_enter Tryd.func73, Tryd.ntmps73
  go_wp2
  go_ret
  exact ⟨rfl, rfl⟩

theorem l1OwnS_any (l : List ByteArray) (A : Option Addr) (c : Nat) (w : World) (h : RdL w w.heap.size A 1 encString l) (hl : l.length ≤ 1048576) (h0 : 0 < l.length) :
    Calls Tryd.prog 102 #[.slice A l.length c] w fun e w' => ∃ A' c', e = .returned (.slice A' l.length c') ∧ OwnL w' w.heap.size w'.heap.size A' 1 encString l ∧ l.length ≤ c' ∧ Below w.heap.size w w' := by
  have hq : ∀ (w : World) (a : Option Addr) (n c : Nat), (binOp .eql 22 (.slice a n c) (.slice none 0 0)).run Tryd.prog w = .ok (.bool a.isNone) w := fun w a n c => Lib.run_eql_slice_nil w _ 9 a n c 0 0 rfl
  obtain ⟨g, off, hA, _, _⟩ := h.at h0
  subst hA
  have H := Lib.hid h
  clear h
  go_enter Tryd.func102, Tryd.ntmps102
  go_wp2_with (at_builtin; refine wpList_pushAll rfl _ _ 22 rfl w.heap.size 9 _ 1 16 encString rfl String_info rfl (by omega) _ [] l _ _ w.heap.size rfl rfl (H.out.below ((Below.refl _ _).alloc (Nat.le_refl _) _) (Nat.le_refl _)) h0 (Grow.empty (Nat.le_refl _)) encString_len (by simp [encString, Value.oneCell']) (by first | (simp; done) | (simp; omega)) (by omega) (by simp) ?_; intro v' w2 hg2 hb2 hgb)
  go_ret
  obtain ⟨A', c', hv, ho⟩ := hg2.own encString_len
  subst hv
  exact ⟨A', c', rfl, ho, hg2.capN, ((Below.refl _ _).alloc (Nat.le_refl _) _).trans hb2⟩
theorem cloneS_any (l : List ByteArray) (A : Option Addr) (c : Nat) (w : World) (h : RdL w w.heap.size A 1 encString l) (hl : l.length ≤ 1048576) (h0 : 0 < l.length) :
    Calls Tryd.prog 80 #[.slice A l.length c] w fun e w' => ∃ A' c', e = .returned (.slice A' l.length c') ∧ OwnL w' w.heap.size w'.heap.size A' 1 encString l ∧ l.length ≤ c' ∧ Below w.heap.size w w' := by
  have hq : ∀ (w : World) (a : Option Addr) (n c : Nat), (binOp .eql 22 (.slice a n c) (.slice none 0 0)).run Tryd.prog w = .ok (.bool a.isNone) w := fun w a n c => Lib.run_eql_slice_nil w _ 9 a n c 0 0 rfl
  obtain ⟨g, off, hA, _, _⟩ := h.at h0
  subst hA
  have H := Lib.hid h
  clear h
  go_enter Tryd.func80, Tryd.ntmps80
  go_wp2_with (at_builtin; refine wpList_pushAll rfl _ _ 22 rfl w.heap.size 9 _ 1 16 encString rfl String_info rfl (by omega) _ [] l _ _ w.heap.size rfl rfl (H.out.below ((Below.refl _ _).alloc (Nat.le_refl _) _) (Nat.le_refl _)) h0 (Grow.empty (Nat.le_refl _)) encString_len (by simp [encString, Value.oneCell']) (by first | (simp; done) | (simp; omega)) (by omega) (by simp) ?_; intro v' w2 hg2 hb2 hgb)
  go_ret
  obtain ⟨A', c', hv, ho⟩ := hg2.own encString_len
  subst hv
  exact ⟨A', c', rfl, ho, hg2.capN, ((Below.refl _ _).alloc (Nat.le_refl _) _).trans hb2⟩
theorem withChanges_any (m : Mth) (A' : Option Addr) (n c' : Nat) (w : World) :
    Calls Tryd.prog 79 #[.agg #[.string m.name, .int .i64 m.stage, .slice m.A m.x.length m.c], .slice A' n c'] w fun e w' => e = .returned (.agg #[.string m.name, .int .i64 m.stage, .slice A' n c']) ∧ Below w.heap.size w w' := by
  go_enter Tryd.func79, Tryd.ntmps79
  go_wp2
  refine bodyPost_ret (v := .agg #[.string m.name, .int .i64 m.stage, .slice A' n c']) (by simp [results, Tryd.results79, go_sem]) rfl ⟨rfl, ?_⟩
  repeat (first | exact Below.refl _ _ | refine Below.setCell ?_ (by simp <;> omega) _ | refine Below.alloc ?_ (by simp <;> omega) _)
set_option maxHeartbeats 1600000 in
theorem l4Own_any (m : Mth) (w : World) (h : RdL w w.heap.size m.A 1 encString m.x) (hl : m.x.length ≤ 1048576) (h0 : 0 < m.x.length) :
    Calls Tryd.prog 72 #[.agg #[.string m.name, .int .i64 m.stage, .slice m.A m.x.length m.c]] w fun e w' => ∃ A' c', e = .returned (.agg #[.string m.name, .int .i64 m.stage, .slice A' m.x.length c']) ∧ OwnL w' w.heap.size w'.heap.size A' 1 encString m.x ∧ m.x.length ≤ c' ∧ Below w.heap.size w w' := by
  have H := Lib.hid h
  clear h
  have hW : ∃ W : World, Hid ((w.alloc (.cells #[.string m.name, .int .i64 m.stage, .slice m.A m.x.length m.c] 31)).alloc (.cells #[.string ⟨#[]⟩, .int .i64 0, .slice none 0 0] 31) = W) ∧ Hid (W.heap.size = w.heap.size + 2) ∧ Hid (Below w.heap.size w W) ∧ W.cell? ⟨w.heap.size, 0, none⟩ = some (.string m.name) ∧ W.cell? ⟨w.heap.size, 1, none⟩ = some (.int .i64 m.stage) ∧ W.cell? ⟨w.heap.size, 2, none⟩ = some (.slice m.A m.x.length m.c) ∧ Hid (Cells W (w.heap.size + 1) 3 (fun i => (#[Value.string ⟨#[]⟩, .int .i64 0, .slice none 0 0] : Array Value).getD i undef)) := by
    refine ⟨_, Lib.hid rfl, Lib.hid (by simp), Lib.hid (((Below.refl _ _).alloc (Nat.le_refl _) _).alloc (by simp) _), ?_, ?_, ?_, Lib.hid ?_⟩
    · rw [World.cell?_alloc_lt _ _ _ (by simp), World.cell?_alloc_new]; rfl
    · rw [World.cell?_alloc_lt _ _ _ (by simp), World.cell?_alloc_new]; rfl
    · rw [World.cell?_alloc_lt _ _ _ (by simp), World.cell?_alloc_new]; rfl
    · have := Cells.new (w.alloc (.cells #[.string m.name, .int .i64 m.stage, .slice m.A m.x.length m.c] 31)) #[Value.string ⟨#[]⟩, .int .i64 0, .slice none 0 0] 31 3 (fun i => (#[Value.string ⟨#[]⟩, .int .i64 0, .slice none 0 0] : Array Value).getD i undef) (fun i hi => by
        match i, hi with
        | 0, _ => rfl
        | 1, _ => rfl
        | 2, _ => rfl)
      simpa using this
  obtain ⟨W, hWe, hWs, hWb, u0, u1, u2, hC⟩ := hW
  go_enter Tryd.func72, Tryd.ntmps72
  go_wp2_with fail
  rw [hWe.out]
  clear hWe
  go_region_held3 (fun w' => w'.cell? ⟨w.heap.size, 0, none⟩ = some (.string m.name) ∧ w'.cell? ⟨w.heap.size, 1, none⟩ = some (.int .i64 m.stage) ∧ w'.cell? ⟨w.heap.size, 2, none⟩ = some (.slice m.A m.x.length m.c)) (first | exact ⟨u0, u1, u2⟩ | exact ⟨v0, v1, v2⟩ | go_keep) (first | (go_at_call 102; refine (l1OwnS_any m.x m.A m.c _ (show RdL W.drew W.drew.heap.size m.A 1 encString m.x from ((H.out.below hWb.out (Nat.le_refl _)).more hWb.out.size)) hl h0).mono ?_; rintro e w3 ⟨A', c', rfl, ho, hc', hb3⟩; have v0 : w3.cell? ⟨w.heap.size, 0, none⟩ = some (.string m.name) := (hb3.cell (p := ⟨w.heap.size, 0, none⟩) (show w.heap.size < W.heap.size from by have := hWs.out; omega)).trans u0; have v1 : w3.cell? ⟨w.heap.size, 1, none⟩ = some (.int .i64 m.stage) := (hb3.cell (p := ⟨w.heap.size, 1, none⟩) (show w.heap.size < W.heap.size from by have := hWs.out; omega)).trans u1; have v2 : w3.cell? ⟨w.heap.size, 2, none⟩ = some (.slice m.A m.x.length m.c) := (hb3.cell (p := ⟨w.heap.size, 2, none⟩) (show w.heap.size < W.heap.size from by have := hWs.out; omega)).trans u2; have HC3 : Hid (Cells w3 (w.heap.size + 1) 3 (fun i => (#[Value.string ⟨#[]⟩, .int .i64 0, .slice none 0 0] : Array Value).getD i undef)) := Lib.hid (hC.out.below ((Below.refl W.heap.size W).drew.trans hb3) (by have := hWs.out; omega)); have HO := Lib.hid ho; have HB3 : Hid (Below w.heap.size w w3) := Lib.hid (hWb.out.trans (((Below.refl W.heap.size W).drew.trans hb3).mono hWb.out.size)); have p0 := HC3.out.cell (i := 0) (by omega); have p1 := HC3.out.cell (i := 1) (by omega); have p2 := HC3.out.cell (i := 2) (by omega); have f0 := HC3.out.free (i := 0) (by omega); have f1 := HC3.out.free (i := 1) (by omega); have f2 := HC3.out.free (i := 2) (by omega); have hz3 : w.heap.size + 2 ≤ w3.heap.size := (by have := hb3.size; have h9 := hWs.out; have h8 : W.heap.size ≤ w3.heap.size := this; omega); clear ho hb3))
  go_wp2
  refine bodyPost_ret (v := .agg #[.string m.name, .int .i64 m.stage, .slice A' m.x.length c']) (by simp [results, Tryd.results72, go_sem, p0, p1, p2, f0, f1, f2]) rfl ⟨A', c', rfl, ?_, hc', ?_⟩
  · refine (HO.out.chg (b' := w.heap.size + 1) (c' := w.heap.size + 2) (?_ : Chg (w.heap.size + 1) (w.heap.size + 2) w3 _) (.inr (by have h9 := hWs.out; show w.heap.size + 2 ≤ W.heap.size; omega))).mono (by have h9 := hWs.out; show w.heap.size ≤ W.heap.size; omega) (by simp)
    repeat (first | exact Chg.refl _ _ _ | refine Chg.setCell ?_ (by first | exact Nat.le_refl _ | (simp; done) | (simp; omega)) (by first | (simp; done) | (simp; omega)) _)
  · repeat (first | exact HB3.out | refine Below.setCell ?_ (by first | (simp; done) | (simp; omega)) _)
end Go.Proofs.YtbfhfnejppfehaaDoor

/-
  The reader of choices: rows, texts that are spoilt.
-/
namespace Go.Proofs.YtbfhfnejppfehaaDoor
open Go.RowKit
set_option linter.unusedVariables false
set_option linter.unusedSimpArgs false
set_option maxRecDepth 100000

def fct : Nat → Nat
  | 0 => 1
  | n + 1 => (n + 1) * fct n
theorem fct_pos : ∀ n, 1 ≤ fct n
  | 0 => Nat.le_refl _
  | n + 1 => by
    have := fct_pos n
    show 1 ≤ (n + 1) * fct n
    exact Nat.le_trans (show 1 ≤ 1 * 1 by omega) (Nat.mul_le_mul (by omega) this)
theorem fct_mono {m n : Nat} (h : m ≤ n) : fct m ≤ fct n := by
  induction n with
  | zero => obtain rfl : m = 0 := by omega
            exact Nat.le_refl _
  | succ n ih =>
    by_cases e : m = n + 1
    · rw [e]; exact Nat.le_refl _
    · refine Nat.le_trans (ih (by omega)) ?_
      show fct n ≤ (n + 1) * fct n
      exact Nat.le_mul_of_pos_left _ (by omega)
theorem fct_8 : fct 8 = 40320 := rfl
def strLen : Value → Nat
  | .string s => s.size
  | _ => 0
set_option maxHeartbeats 3200000 in
theorem spoilt_any (g K : Nat) (t wi : ByteArray) (w : World) (h : Cur w g K) (hK : K ≤ 10000000) (ht : t.size ≤ 900000) (hw0 : 0 < wi.size) (hw : wi.size ≤ 1000) :
    Calls Tryd.prog 56 #[.pointer (some ⟨g, 0, none⟩), .string t, .string wi] w fun e w' => ∃ s : ByteArray, e = .returned (.string s) ∧ s.size ≤ t.size + 2 ∧ Cur w' g (K + 30) ∧ Turn g w w' := by
  have H := Lib.hid h
  clear h
  go_enter Tryd.func56, Tryd.ntmps56
  go_wp2_with (go_at_call 41; refine (pick_any g K 2 _ H.out (by omega) (by omega)).mono ?_; rintro e w1 ⟨x, rfl, hx0, hx1, hc, ht⟩; have HC := Lib.hid hc; have HT := Lib.hid ht; clear hc ht; obtain ⟨k0, rfl⟩ : ∃ k : Nat, x = (k : Int) := ⟨x.toNat, by omega⟩; have hk0 : k0 ≤ 1 := (by omega); have hk0e : (1 : Int) + (k0 : Int) = ((k0 + 1 : Nat) : Int) := (by omega))
  go_loopw [1, 7, 8, 9] (fun a b _ _ wr => ∃ (q : Nat) (tt : ByteArray), q ≤ 2 ∧ a = .string tt ∧ b = .int .i64 q ∧ tt.size + q ≤ t.size + 2 ∧ Cur wr g (K + 20 - 8 * q) ∧ Turn g w wr) (fun _ b _ _ _ => (intOf b).toNat)
  case atStart => exact ⟨k0 + 1, t, by omega, by rfl, by go_num, by omega, HC.out.more (by omega), HT.out⟩
  case round =>
    obtain ⟨q, tt, hq, rfl, rfl, hts, hcur, htn⟩ := hrel
    have Hc := Lib.hid hcur
    have Ht := Lib.hid htn
    clear hcur htn HC HT
    by_cases h1 : 0 < q
    · obtain ⟨p, rfl⟩ : ∃ p, q = p + 1 := ⟨q - 1, by omega⟩
      have hd1 : decide (0 < (p : Int) + 1) = true := decide_eq_true (by omega)
      by_cases h2 : 0 < tt.size
      · have hd2 : decide (0 < tt.size) = true := decide_eq_true h2
        have hlt := Hc.out.lt
        go_upto_region 5 with (go_at_call 41; refine (pick_any g _ (tt.size : Int) _ Hc.out (by omega) (by omega)).mono ?_; rintro e w2 ⟨x2, rfl, hx20, hx21, hc, ht⟩; have HC2 := Lib.hid hc; have HT2 := Lib.hid (Ht.out.trans ht); clear hc ht)
        obtain ⟨i, rfl⟩ : ∃ i : Nat, x2 = (i : Int) := ⟨x2.toNat, by omega⟩
        have hi : i < tt.size := by omega
        have hii : (i : Int) < (tt.size : Int) := by omega
        go_upto_region 6 with (go_at_call 41; refine (pick_any g _ (wi.size : Int) _ HC2.out (by omega) (by omega)).mono ?_; rintro e w3 ⟨x3, rfl, hx30, hx31, hc, ht⟩; have HC3 := Lib.hid hc; have HT3 := Lib.hid (HT2.out.trans ht); clear hc ht; obtain ⟨i3, rfl⟩ : ∃ i : Nat, x3 = (i : Int) := ⟨x3.toNat, by omega⟩; have hi3 : i3 < wi.size := (by omega); have hi3i : (i3 : Int) < (wi.size : Int) := (by omega))
        have hb3 : Below w3.heap.size w3 (w3.alloc (.cells #[.int .u8 (bat wi i3)] 5)) := (Below.refl _ _).alloc (Nat.le_refl _) _
        have HC4 := Lib.hid (HC3.out.later hb3)
        have HT4 := Lib.hid (HT3.out.then hb3)
        generalize w3.alloc (.cells #[.int .u8 (bat wi i3)] 5) = w4 at *
        obtain ⟨W1, hW1⟩ : ∃ W1, Hid (mkS [bat wi i3] = W1) := ⟨_, Lib.hid rfl⟩
        have hW1s : W1.size = 1 := by rw [← hW1.out, size_mkS]; rfl
        rw [hW1.out]
        have hse1 : (tt.extract 0 i).size = i := by simp only [size_ext]; omega
        have hse2 : (tt.extract i tt.size).size = tt.size - i := by simp only [size_ext]; omega
        have hse3 : (tt.extract (i + 1) tt.size).size = tt.size - (i + 1) := by simp only [size_ext]; omega
        have hi1 : (i : Int) + 1 ≤ (tt.size : Int) := by omega
        have hi0 : (i : Int) ≤ (tt.size : Int) := by omega
        have hts9 : tt.size ≤ 900002 := by omega
        clear HC2 HC3 HT2 HT3
        go_upto_region 8 with (go_at_call 41; refine (pick_any g _ 3 _ HC4.out (by omega) (by omega)).mono ?_; rintro e w5 ⟨x5, rfl, hx50, hx51, hc, ht⟩; have HC5 := Lib.hid hc; have HT5 := Lib.hid (HT4.out.trans ht); clear hc ht)
        by_cases e0 : x5 = 0
        · have d0 : (x5 == 0) = true := beq_iff_eq.2 e0
          clear e0
          go_wp2
          go_quiet (fail)
          go_wp2
          go_roundw
          case rel => exact ⟨p, _, by omega, by rfl, by go_num, by simp only [size_app, hse1, hse2, hW1s]; omega, (HC5.out.later (below_drewN (Below.refl _ _) _)).more (by omega), HT5.out.then (below_drewN (Below.refl _ _) _)⟩
          case measure => simp [intOf]
        · have d0 : (x5 == 0) = false := beq_eq_false_iff_ne.2 e0
          by_cases e1 : x5 = 1
          · have d1 : (x5 == 1) = true := beq_iff_eq.2 e1
            clear e0 e1
            go_wp2
            go_quiet (fail)
            go_wp2
            go_roundw
            case rel => exact ⟨p, _, by omega, by rfl, by go_num, by simp only [size_app, hse1, hse3, hW1s]; omega, (HC5.out.later (below_drewN (Below.refl _ _) _)).more (by omega), HT5.out.then (below_drewN (Below.refl _ _) _)⟩
            case measure => simp [intOf]
          · have d1 : (x5 == 1) = false := beq_eq_false_iff_ne.2 e1
            clear e0 e1
            go_wp2
            go_quiet (fail)
            go_wp2
            go_roundw
            case rel => exact ⟨p, _, by omega, by rfl, by go_num, by simp only [size_app, hse1, hse3]; omega, (HC5.out.later (below_drewN (Below.refl _ _) _)).more (by omega), HT5.out.then (below_drewN (Below.refl _ _) _)⟩
            case measure => simp [intOf]
      · have hd2 : decide (0 < tt.size) = false := decide_eq_false h2
        go_wp2
        go_ret
        exact ⟨tt, rfl, by omega, Hc.out.more (by omega), Ht.out⟩
    · obtain rfl : q = 0 := by omega
      go_wp2
      go_ret
      exact ⟨tt, rfl, by omega, Hc.out.more (by omega), Ht.out⟩
end Go.Proofs.YtbfhfnejppfehaaDoor

/-
  The law of placings, plain: fair prices certify a placing as the best.
-/
set_option linter.unusedVariables false
set_option linter.unusedSimpArgs false
namespace Go.Proofs.YtbfhfnejppfehaaDoor
theorem sumF_sub_list (p : Nat → Int) (hp : ∀ i, 0 ≤ p i) : ∀ (L M : List Nat), L.Nodup → (∀ x ∈ L, p x ≠ 0 → x ∈ M) → sumF p L ≤ sumF p M
  | [], M, _, _ => sumF_nonneg p M fun x _ => hp x
  | x :: L, M, hn, h => by
    obtain ⟨h1, h2⟩ := List.nodup_cons.1 hn
    by_cases e : p x = 0
    · have := sumF_sub_list p hp L M h2 (fun y hy => h y (List.mem_cons_of_mem _ hy))
      simp only [sumF]; omega
    · have hx := h x List.mem_cons_self e
      have := sumF_sub_list p hp L (M.erase x) h2 (fun y hy he => by
        have := h y (List.mem_cons_of_mem _ hy) he
        exact (List.mem_erase_of_ne (fun ee : y = x => h1 (by rw [← ee]; exact hy))).2 this)
      rw [sumF_perm p (List.perm_cons_erase hx)]
      simp only [sumF]; omega
/-- What is paid for the first k bells. -/
def payTo (prices who : List Int) : Nat → Int
  | 0 => 0
  | k + 1 => payTo prices who k + prices.getD (who.getD k 0).toNat 0
theorem fair_sum {l : List Pk} {who prices y : List Int} (hf : fairP l who prices) (hl : y.length = who.length) (hy : ∀ b, b < y.length → (y.getD b 0).toNat < l.length ∧ 0 < skB l y b) : ∀ k, k ≤ y.length → skTo l y k + payTo prices who k ≤ skTo l who k + payTo prices y k
  | 0, _ => by simp [skTo, payTo]
  | k + 1, hk => by
    have ih := fair_sum hf hl hy k (by omega)
    obtain ⟨h1, h2⟩ := hy k (by omega)
    have := (hf _ h1).2 k (by omega)
    unfold fairAt at this
    have := this h2
    have e : (skAt l (y.getD k 0).toNat).getD k 0 = skB l y k := rfl
    rw [e] at this
    simp only [skTo, payTo]; omega
theorem payTo_sum (prices y : List Int) : ∀ k, payTo prices y k = sumF (fun i => prices.getD i 0) ((List.range k).map fun b => (y.getD b 0).toNat)
  | 0 => rfl
  | k + 1 => by rw [sumF_map, sumF_range_succ, ← sumF_map (fun i => prices.getD i 0), ← payTo_sum prices y k]; rfl
theorem seats_ne {l : List Pk} {y : List Int} (h : seatsP l y) {b c : Nat} (hbc : b < c) (hc : c < y.length) : (y.getD b 0).toNat ≠ (y.getD c 0).toNat := fun e => by
  obtain ⟨⟨b1, b2⟩, _, _⟩ := h b (by omega)
  obtain ⟨⟨c1, c2⟩, hn, _⟩ := h c hc
  have hb : b < y.length := by omega
  rw [List.getD_eq_getElem?_getD, List.getElem?_eq_getElem hb] at e b1
  exact hn ⟨b, hb, hbc, by simp only [Option.getD_some] at e b1; omega⟩
theorem seats_nodup {l : List Pk} {y : List Int} (h : seatsP l y) : ((List.range y.length).map fun b => (y.getD b 0).toNat).Nodup :=
  List.pairwise_map.2 (List.Pairwise.imp_of_mem (fun {b c} hb hc hlt => seats_ne h hlt (List.mem_range.1 hc)) List.pairwise_lt_range)
/-- Fair prices certify: no placing is better. -/
theorem fair_top {l : List Pk} {n : Int} {who prices y : List Int} (hp : peopleP l n) (hn : (y.length : Int) = n) (hw : seatsP l who) (hs : seatsP l y) (hl : y.length = who.length) (hf : fairP l who prices) (h0 : ∀ i, 0 ≤ prices.getD i 0) (hz : ∀ i, l.length ≤ i → prices.getD i 0 = 0) : skTo l y y.length ≤ skTo l who who.length := by
  have h1 := fair_sum hf hl (fun b hb => by
    obtain ⟨⟨b1, b2⟩, _, b3⟩ := hs b hb
    have hi : (y.getD b 0).toNat < l.length := by omega
    obtain ⟨h5, h6, _⟩ := people_skill hp hi (b := b) (by omega)
    refine ⟨hi, ?_⟩
    unfold skB
    rw [List.getD_eq_getElem?_getD, List.getElem?_eq_getElem h5] at b3 ⊢
    simp only [Option.getD_some] at b3 ⊢
    omega) y.length (Nat.le_refl _)
  have h2 : payTo prices y y.length ≤ payTo prices who who.length := by
    rw [payTo_sum, payTo_sum]
    refine sumF_sub_list _ h0 _ _ (seats_nodup hs) fun x hx hne => ?_
    by_cases hxl : x < l.length
    · obtain ⟨j, hj, hj2, e⟩ := (hf x hxl).1 hne
      refine List.mem_map.2 ⟨j, List.mem_range.2 hj, ?_⟩
      rw [List.getD_eq_getElem?_getD, List.getElem?_eq_getElem hj]
      simp only [Option.getD_some]; omega
    · exact absurd (hz x (by omega)) hne
  rw [← hl] at h2 ⊢
  omega
end Go.Proofs.YtbfhfnejppfehaaDoor
