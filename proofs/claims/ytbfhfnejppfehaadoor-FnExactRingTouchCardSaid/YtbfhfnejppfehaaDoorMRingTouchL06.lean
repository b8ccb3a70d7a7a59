import Derived.Test.YtbfhfnejppfehaaDoorMRingTouchL05
import Derived.Deep.RegionHeld3
import Derived.Lib.SliceRun
import Derived.Test.YtbfhfnejppfehaaDoorRows
import Derived.Test.YtbfhfnejppfehaaDoorMRingTouchL01
import Derived.Test.YtbfhfnejppfehaaDoorMRingTouchL02
import Derived.StillTailTactics
import Derived.Test.YtbfhfnejppfehaaDoorMRingTouchL04
import Derived.Deep.Slices
import Derived.Test.YtbfhfnejppfehaaDoorMRingTouchL00
import Derived.Deep.QuietTactic
import Derived.BigQuiet
/-
  Rounds; lists of strings and methods copied: contracts of both sides.
-/
namespace Go.Proofs.YtbfhfnejppfehaaDoor
open Go.RowKit
set_option linter.unusedVariables false
set_option linter.unusedSimpArgs false
set_option maxRecDepth 100000

def eightS : ByteArray := ⟨#[49, 50, 51, 52, 53, 54, 55, 56]⟩
/-- Rounds. -/
def roundsS (n : Int) : ByteArray := eightS.extract 0 n.toNat
theorem roundsS_size {n : Int} (h0 : 0 ≤ n) (h8 : n ≤ 8) : (roundsS n).size = n.toNat := by
  unfold roundsS; rw [size_ext]
  have : eightS.size = 8 := rfl
  omega

theorem rounds_any (n : Int) (w : World) (h0 : 0 ≤ n) (h8 : n ≤ 8) : Calls Tryd.prog 81 #[.int .i64 n] w fun e w' => e = .returned (.string (roundsS n)) ∧ w = w' := by
  have hz : (⟨#[49, 50, 51, 52, 53, 54, 55, 56]⟩ : ByteArray).size = 8 := rfl
  go_enter Tryd.func81, Tryd.ntmps81
  go_wp2
  go_ret
  exact ⟨rfl, rfl⟩
theorem l1Rounds_any (n : Int) (w : World) (h0 : 0 ≤ n) (h8 : n ≤ 8) : Calls Tryd.prog 73 #[.int .i64 n] w fun e w' => e = .returned (.string (roundsS n)) ∧ w = w' := by
  have hz : (⟨#[49, 50, 51, 52, 53, 54, 55, 56]⟩ : ByteArray).size = 8 := rfl
  go_enter Tryd.func73, Tryd.ntmps73
  go_wp2
  go_ret
  exact ⟨rfl, rfl⟩

theorem l1OwnS_any (l : List ByteArray) (A : Option Addr) (c : Nat) (w : World) (h : RdL w w.heap.size A 1 encString l) (hl : l.length ≤ 1048576) (h0 : 0 < l.length) :
    Calls Tryd.prog 102 #[.slice A l.length c] w fun e w' => ∃ A' c', e = .returned (.slice A' l.length c') ∧ OwnL w' w.heap.size w'.heap.size A' 1 encString l ∧ l.length ≤ c' ∧ Below w.heap.size w w' := by
  have hq : ∀ (w : World) (a : Option Addr) (n c : Nat), (binOp .eql 22 (.slice a n c) (.slice none 0 0)).run Tryd.prog w = .ok (.bool a.isNone) w := fun w a n c => Lib.run_eql_slice_nil w _ 9 a n c 0 0 rfl
  obtain ⟨g, off, hA, _, _⟩ := h.at h0
  subst hA
  have H := Lib.hid h
  clear h
  go_enter Tryd.func102, Tryd.ntmps102
  go_wp2_with (at_builtin; refine wpList_pushAll rfl _ _ 22 rfl w.heap.size 9 _ 1 16 encString rfl String_info rfl (by omega) _ [] l _ _ w.heap.size rfl rfl (H.out.below ((Below.refl _ _).alloc (Nat.le_refl _) _) (Nat.le_refl _)) h0 (Grow.empty (Nat.le_refl _)) encString_len (by simp [encString, Value.oneCell']) (by first | (simp; done) | (simp; omega)) (by omega) (by simp) ?_; intro v' w2 hg2 hb2 hgb)
  go_ret
  obtain ⟨A', c', hv, ho⟩ := hg2.own encString_len
  subst hv
  exact ⟨A', c', rfl, ho, hg2.capN, ((Below.refl _ _).alloc (Nat.le_refl _) _).trans hb2⟩
theorem cloneS_any (l : List ByteArray) (A : Option Addr) (c : Nat) (w : World) (h : RdL w w.heap.size A 1 encString l) (hl : l.length ≤ 1048576) (h0 : 0 < l.length) :
    Calls Tryd.prog 80 #[.slice A l.length c] w fun e w' => ∃ A' c', e = .returned (.slice A' l.length c') ∧ OwnL w' w.heap.size w'.heap.size A' 1 encString l ∧ l.length ≤ c' ∧ Below w.heap.size w w' := by
  have hq : ∀ (w : World) (a : Option Addr) (n c : Nat), (binOp .eql 22 (.slice a n c) (.slice none 0 0)).run Tryd.prog w = .ok (.bool a.isNone) w := fun w a n c => Lib.run_eql_slice_nil w _ 9 a n c 0 0 rfl
  obtain ⟨g, off, hA, _, _⟩ := h.at h0
  subst hA
  have H := Lib.hid h
  clear h
  go_enter Tryd.func80, Tryd.ntmps80
  go_wp2_with (at_builtin; refine wpList_pushAll rfl _ _ 22 rfl w.heap.size 9 _ 1 16 encString rfl String_info rfl (by omega) _ [] l _ _ w.heap.size rfl rfl (H.out.below ((Below.refl _ _).alloc (Nat.le_refl _) _) (Nat.le_refl _)) h0 (Grow.empty (Nat.le_refl _)) encString_len (by simp [encString, Value.oneCell']) (by first | (simp; done) | (simp; omega)) (by omega) (by simp) ?_; intro v' w2 hg2 hb2 hgb)
  go_ret
  obtain ⟨A', c', hv, ho⟩ := hg2.own encString_len
  subst hv
  exact ⟨A', c', rfl, ho, hg2.capN, ((Below.refl _ _).alloc (Nat.le_refl _) _).trans hb2⟩
theorem withChanges_any (m : Mth) (A' : Option Addr) (n c' : Nat) (w : World) :
    Calls Tryd.prog 79 #[.agg #[.string m.name, .int .i64 m.stage, .slice m.A m.x.length m.c], .slice A' n c'] w fun e w' => e = .returned (.agg #[.string m.name, .int .i64 m.stage, .slice A' n c']) ∧ Below w.heap.size w w' := by
  go_enter Tryd.func79, Tryd.ntmps79
  go_wp2
  refine bodyPost_ret (v := .agg #[.string m.name, .int .i64 m.stage, .slice A' n c']) (by simp [results, Tryd.results79, go_sem]) rfl ⟨rfl, ?_⟩
  repeat (first | exact Below.refl _ _ | refine Below.setCell ?_ (by simp <;> omega) _ | refine Below.alloc ?_ (by simp <;> omega) _)
set_option maxHeartbeats 1600000 in
theorem l4Own_any (m : Mth) (w : World) (h : RdL w w.heap.size m.A 1 encString m.x) (hl : m.x.length ≤ 1048576) (h0 : 0 < m.x.length) :
    Calls Tryd.prog 72 #[.agg #[.string m.name, .int .i64 m.stage, .slice m.A m.x.length m.c]] w fun e w' => ∃ A' c', e = .returned (.agg #[.string m.name, .int .i64 m.stage, .slice A' m.x.length c']) ∧ OwnL w' w.heap.size w'.heap.size A' 1 encString m.x ∧ m.x.length ≤ c' ∧ Below w.heap.size w w' := by
  have H := Lib.hid h
  clear h
  have hW : ∃ W : World, Hid ((w.alloc (.cells #[.string m.name, .int .i64 m.stage, .slice m.A m.x.length m.c] 31)).alloc (.cells #[.string ⟨#[]⟩, .int .i64 0, .slice none 0 0] 31) = W) ∧ Hid (W.heap.size = w.heap.size + 2) ∧ Hid (Below w.heap.size w W) ∧ W.cell? ⟨w.heap.size, 0, none⟩ = some (.string m.name) ∧ W.cell? ⟨w.heap.size, 1, none⟩ = some (.int .i64 m.stage) ∧ W.cell? ⟨w.heap.size, 2, none⟩ = some (.slice m.A m.x.length m.c) ∧ Hid (Cells W (w.heap.size + 1) 3 (fun i => (#[Value.string ⟨#[]⟩, .int .i64 0, .slice none 0 0] : Array Value).getD i undef)) := by
    refine ⟨_, Lib.hid rfl, Lib.hid (by simp), Lib.hid (((Below.refl _ _).alloc (Nat.le_refl _) _).alloc (by simp) _), ?_, ?_, ?_, Lib.hid ?_⟩
    · rw [World.cell?_alloc_lt _ _ _ (by simp), World.cell?_alloc_new]; rfl
    · rw [World.cell?_alloc_lt _ _ _ (by simp), World.cell?_alloc_new]; rfl
    · rw [World.cell?_alloc_lt _ _ _ (by simp), World.cell?_alloc_new]; rfl
    · have := Cells.new (w.alloc (.cells #[.string m.name, .int .i64 m.stage, .slice m.A m.x.length m.c] 31)) #[Value.string ⟨#[]⟩, .int .i64 0, .slice none 0 0] 31 3 (fun i => (#[Value.string ⟨#[]⟩, .int .i64 0, .slice none 0 0] : Array Value).getD i undef) (fun i hi => by
        match i, hi with
        | 0, _ => rfl
        | 1, _ => rfl
        | 2, _ => rfl)
      simpa using this
  obtain ⟨W, hWe, hWs, hWb, u0, u1, u2, hC⟩ := hW
  go_enter Tryd.func72, Tryd.ntmps72
  go_wp2_with fail
  rw [hWe.out]
  clear hWe
  go_region_held3 (fun w' => w'.cell? ⟨w.heap.size, 0, none⟩ = some (.string m.name) ∧ w'.cell? ⟨w.heap.size, 1, none⟩ = some (.int .i64 m.stage) ∧ w'.cell? ⟨w.heap.size, 2, none⟩ = some (.slice m.A m.x.length m.c)) (first | exact ⟨u0, u1, u2⟩ | exact ⟨v0, v1, v2⟩ | go_keep) (first | (go_at_call 102; refine (l1OwnS_any m.x m.A m.c _ (show RdL W.drew W.drew.heap.size m.A 1 encString m.x from ((H.out.below hWb.out (Nat.le_refl _)).more hWb.out.size)) hl h0).mono ?_; rintro e w3 ⟨A', c', rfl, ho, hc', hb3⟩; have v0 : w3.cell? ⟨w.heap.size, 0, none⟩ = some (.string m.name) := (hb3.cell (p := ⟨w.heap.size, 0, none⟩) (show w.heap.size < W.heap.size from by have := hWs.out; omega)).trans u0; have v1 : w3.cell? ⟨w.heap.size, 1, none⟩ = some (.int .i64 m.stage) := (hb3.cell (p := ⟨w.heap.size, 1, none⟩) (show w.heap.size < W.heap.size from by have := hWs.out; omega)).trans u1; have v2 : w3.cell? ⟨w.heap.size, 2, none⟩ = some (.slice m.A m.x.length m.c) := (hb3.cell (p := ⟨w.heap.size, 2, none⟩) (show w.heap.size < W.heap.size from by have := hWs.out; omega)).trans u2; have HC3 : Hid (Cells w3 (w.heap.size + 1) 3 (fun i => (#[Value.string ⟨#[]⟩, .int .i64 0, .slice none 0 0] : Array Value).getD i undef)) := Lib.hid (hC.out.below ((Below.refl W.heap.size W).drew.trans hb3) (by have := hWs.out; omega)); have HO := Lib.hid ho; have HB3 : Hid (Below w.heap.size w w3) := Lib.hid (hWb.out.trans (((Below.refl W.heap.size W).drew.trans hb3).mono hWb.out.size)); have p0 := HC3.out.cell (i := 0) (by omega); have p1 := HC3.out.cell (i := 1) (by omega); have p2 := HC3.out.cell (i := 2) (by omega); have f0 := HC3.out.free (i := 0) (by omega); have f1 := HC3.out.free (i := 1) (by omega); have f2 := HC3.out.free (i := 2) (by omega); have hz3 : w.heap.size + 2 ≤ w3.heap.size := (by have := hb3.size; have h9 := hWs.out; have h8 : W.heap.size ≤ w3.heap.size := this; omega); clear ho hb3))
  go_wp2
  refine bodyPost_ret (v := .agg #[.string m.name, .int .i64 m.stage, .slice A' m.x.length c']) (by simp [results, Tryd.results72, go_sem, p0, p1, p2, f0, f1, f2]) rfl ⟨A', c', rfl, ?_, hc', ?_⟩
  · refine (HO.out.chg (b' := w.heap.size + 1) (c' := w.heap.size + 2) (?_ : Chg (w.heap.size + 1) (w.heap.size + 2) w3 _) (.inr (by have h9 := hWs.out; show w.heap.size + 2 ≤ W.heap.size; omega))).mono (by have h9 := hWs.out; show w.heap.size ≤ W.heap.size; omega) (by simp)
    repeat (first | exact Chg.refl _ _ _ | refine Chg.setCell ?_ (by first | exact Nat.le_refl _ | (simp; done) | (simp; omega)) (by first | (simp; done) | (simp; omega)) _)
  · repeat (first | exact HB3.out | refine Below.setCell ?_ (by first | (simp; done) | (simp; omega)) _)
end Go.Proofs.YtbfhfnejppfehaaDoor

/-
  Contracts of the helper functions that the laws use for lists of Ringer.
-/
namespace Go.Proofs.YtbfhfnejppfehaaDoor
open Go.RowKit Go.ChangeShapes Go.WideShapes
set_option linter.unusedVariables false
set_option linter.unusedSimpArgs false
set_option maxRecDepth 100000


structure Rgr where
  place : Int
  deaf : Bool

def Rgr.enc (x : Rgr) : List Value := [.int .i64 x.place, .bool x.deaf]
theorem Rgr_enc_len (x : Rgr) : (Rgr.enc x).length = 2 := rfl
def Ringer_small (lim : Int) (x : Rgr) : Prop := True
theorem Ringer_info : (Tryd.prog.info? 108).map (fun i => (i.zero, i.size, i.bytes)) = some (some (.agg #[.int .i64 0, .bool false]), 2, 16) := by kernel_rfl

/-- What the marks make of a list of so many elements. -/
def markRingerL (m q : Nat) : List Rgr := (List.range m).map fun i : Nat => (⟨((q + i * 2 : Nat) : Int), (((q + i * 2 + 1) % 3 == 0))⟩ : Rgr)
theorem markRingerL_len (m q : Nat) : (markRingerL m q).length = m := by simp [markRingerL]
theorem markRingerL_at (m q i : Nat) (hi : i < (markRingerL m q).length) : (markRingerL m q)[i] = (⟨((q + i * 2 : Nat) : Int), (((q + i * 2 + 1) % 3 == 0))⟩ : Rgr) := by simp [markRingerL]
theorem markRinger_enc (q k : Nat) : Rgr.enc (⟨((q + k * 2 : Nat) : Int), (((q + k * 2 + 1) % 3 == 0))⟩ : Rgr) = [.int .i64 ((q : Int) + (k : Int) * 2), .bool (((q : Int) + (k : Int) * 2 + 1) % 3 == 0)] := by
  have e1 : ((q + k * 2 : Nat) : Int) = (q : Int) + (k : Int) * 2 := by omega
  have e2 : ((q + k * 2 + 1) % 3 == 0) = (((q : Int) + (k : Int) * 2 + 1) % 3 == 0) := by
    rw [Bool.eq_iff_iff, beq_iff_eq, beq_iff_eq]; omega
  simp only [Rgr.enc, e1, e2]
end Go.Proofs.YtbfhfnejppfehaaDoor
/-
  Contracts: valid bands (both sides).
-/
namespace Go.Proofs.YtbfhfnejppfehaaDoor
open Go.RowKit
set_option linter.unusedVariables false
set_option linter.unusedSimpArgs false
set_option maxRecDepth 100000

/-- A band in memory. -/
structure Bnd where
  m : Mth
  bob : ByteArray
  sing : ByteArray
  step : Int
  call : ByteArray
  tru : ByteArray
  rx : List Rgr
  RA : Option Addr
  rc : Nat
def Bnd.enc (b : Bnd) : List Value := [.string b.m.name, .int .i64 b.m.stage, .slice b.m.A b.m.x.length b.m.c, .string b.bob, .string b.sing, .int .i64 b.step, .string b.call, .string b.tru, .slice b.RA b.rx.length b.rc]
def bandP (b : Bnd) : Prop := callsP b.m b.bob b.sing ∧ inB b.step 0 ((b.m.x.length : Int) - 1) ∧ isCallP b.call ∧ isRowOf b.m.stage b.tru ∧ (b.rx.length : Int) = b.m.stage ∧ ∀ (i : Nat) (hi : i < b.rx.length), inB b.rx[i].place 1 b.m.stage
/-- Its lists read, and all is small. -/
structure Bnd.Ok (b : Bnd) (w : World) : Prop where
  ch : RdL w w.heap.size b.m.A 1 encString b.m.x
  ri : RdL w w.heap.size b.RA 2 Rgr.enc b.rx
  nm : b.m.name.size ≤ 1048576
  cl : b.m.x.length ≤ 1048576
  cs : ∀ x ∈ b.m.x, String_small 1048576 x
  bs : b.bob.size ≤ 1048576
  ss : b.sing.size ≤ 1048576
  ks : b.call.size ≤ 1048576
  ts : b.tru.size ≤ 1048576
  rl : b.rx.length ≤ 1048576






end Go.Proofs.YtbfhfnejppfehaaDoor

/-
  Contracts of the helper functions that the laws use for methods, calls and bands.
-/
namespace Go.Proofs.YtbfhfnejppfehaaDoor
open Go.RowKit Go.ChangeShapes Go.WideShapes Go.Deep
set_option linter.unusedVariables false
set_option linter.unusedSimpArgs false
set_option maxRecDepth 100000

/-- Sizes that the machine's integers hold. -/
structure Mth.Fits (m : Mth) : Prop where
  nm : (m.name.size : Int) ≤ 9223372036854775807
  cl : m.x.length ≤ 9223372036854775807
  cs : ∀ x ∈ m.x, String_small 9223372036854775807 x
theorem szMethod_any (m : Mth) (left : Int) (w : World) (h : RdL w w.heap.size m.A 1 encString m.x) (hf : m.Fits) (h1 : 0 ≤ left) (h2 : left ≤ 1048576) :
    Calls Tryd.prog 5 #[.agg #[.string m.name, .int .i64 m.stage, .slice m.A m.x.length m.c], .int .i64 left] w fun e w' => ∃ r, e = .returned (.int .i64 r) ∧ (r = -1 ∨ (0 ≤ r ∧ r ≤ left ∧ (m.name.size : Int) ≤ left ∧ (m.x.length : Int) ≤ left ∧ ∀ x ∈ m.x, String_small left x)) ∧ Below w.heap.size w w' := by
  obtain ⟨s0, s1, s2⟩ := hf
  have Hs := Lib.hid s2
  clear s2
  have hb2 : Hid (Below w.heap.size w (w.alloc (.cells #[.string m.name, .int .i64 m.stage, .slice m.A m.x.length m.c] 24))) := Lib.hid ((Below.refl _ _).alloc (Nat.le_refl _) _)
  have H2 : Hid (RdL (w.alloc (.cells #[.string m.name, .int .i64 m.stage, .slice m.A m.x.length m.c] 24)) (w.alloc (.cells #[.string m.name, .int .i64 m.stage, .slice m.A m.x.length m.c] 24)).heap.size m.A 1 encString m.x) := Lib.hid ((h.below hb2.out (Nat.le_refl _)).more hb2.out.size)
  clear h
  by_cases hn : left < m.name.size
  · go_enter Tryd.func5, Tryd.ntmps5
    go_wp2
    go_ret
    exact ⟨_, rfl, .inl rfl, hb2.out⟩
  · go_enter Tryd.func5, Tryd.ntmps5
    go_wp2_with (go_at_call 27; refine (szStringS_any m.x m.A m.c (left - m.name.size) _ H2.out s1 (by omega) (by omega) Hs.out).mono ?_; rintro e w' ⟨r, rfl, hz, hb⟩; have Hz := Lib.hid hz; clear hz)
    all_goals have hb3 := hb2.out.trans (hb.mono hb2.out.size)
    all_goals
      first
        | (go_ret
           exact ⟨-1, rfl, .inl rfl, hb3⟩)
        | (have hz2 := Hz.out.resolve_left (by omega)
           go_ret
           exact ⟨_, rfl, .inr ⟨by omega, by omega, by omega, by omega, fun x hx => by have := hz2.2.2.2 x hx; simp only [String_small] at this ⊢; omega⟩, hb3⟩)
theorem szCalls_any (b s : ByteArray) (left : Int) (w : World) (hb : (b.size : Int) ≤ 9223372036854775807) (hs : (s.size : Int) ≤ 9223372036854775807) (h1 : 0 ≤ left) (h2 : left ≤ 1048576) :
    Calls Tryd.prog 6 #[.agg #[.string b, .string s], .int .i64 left] w fun e w' => ∃ r, e = .returned (.int .i64 r) ∧ (r = -1 ∨ (0 ≤ r ∧ r ≤ left ∧ (b.size : Int) ≤ left ∧ (s.size : Int) ≤ left)) ∧ Below w.heap.size w w' := by
  go_enter Tryd.func6, Tryd.ntmps6
  go_wp2
  all_goals
    go_ret
    refine ⟨_, rfl, ?_, (by repeat (first | exact Below.refl _ _ | (refine Below.alloc ?_ (by simp <;> omega) _)))⟩
    first
      | exact .inl rfl
      | exact .inr ⟨by omega, by omega, by omega, by omega⟩
theorem toCalls_any (b s : ByteArray) (w : World) :
    Calls Tryd.prog 9 #[.agg #[.string b, .string s]] w fun e w' => e = .returned (.agg #[.string b, .string s]) ∧ Below w.heap.size w w' := by
  go_enter Tryd.func9, Tryd.ntmps9
  go_wp2
  refine bodyPost_ret (v := .agg #[.string b, .string s]) (by simp [results, Tryd.results9, go_sem]) rfl ⟨rfl, ?_⟩
  exact (((Below.refl _ _).alloc (Nat.le_refl _) _).alloc (by simp) _).alloc (by simp <;> omega) _
theorem eqMethod_t (m : Mth) (A' : Option Addr) (c' : Nat) (w : World) (h : RdL w w.heap.size m.A 1 encString m.x) (h' : RdL w w.heap.size A' 1 encString m.x) (hl : m.x.length ≤ 1048576) :
    Calls Tryd.prog 12 #[.agg #[.string m.name, .int .i64 m.stage, .slice m.A m.x.length m.c], .agg #[.string m.name, .int .i64 m.stage, .slice A' m.x.length c']] w fun e w' => e = .returned (.bool true) ∧ Below w.heap.size w w' := by
  have H := Lib.hid h
  have H' := Lib.hid h'
  clear h h'
  have hbA : Hid (Below w.heap.size w ((w.alloc (.cells #[.string m.name, .int .i64 m.stage, .slice m.A m.x.length m.c] 31)).alloc (.cells #[.string m.name, .int .i64 m.stage, .slice A' m.x.length c'] 31))) := Lib.hid (((Below.refl _ _).alloc (Nat.le_refl _) _).alloc (by simp) _)
  have hbs := hbA.out.size
  go_enter Tryd.func12, Tryd.ntmps12
  go_wp2_with (go_at_call 11; refine (eqStringS_t m.x m.A A' m.c c' _ ((H.out.below hbA.out (Nat.le_refl _)).more hbs) ((H'.out.below hbA.out (Nat.le_refl _)).more hbs) (by omega)).mono ?_; rintro e w' ⟨rfl, hb2⟩)
  go_ret
  exact ⟨rfl, hbA.out.trans (hb2.mono hbs)⟩

set_option maxHeartbeats 1600000 in
theorem toMethod_any (m : Mth) (w : World) (h : RdL w w.heap.size m.A 1 encString m.x) (hl : m.x.length ≤ 1048576) :
    Calls Tryd.prog 8 #[.agg #[.string m.name, .int .i64 m.stage, .slice m.A m.x.length m.c]] w fun e w' => ∃ A' g, e = .returned (.agg #[.string m.name, .int .i64 m.stage, .slice A' m.x.length m.x.length]) ∧ w.heap.size ≤ g ∧ g < w'.heap.size ∧ OwnL w' g (g + 1) A' 1 encString m.x ∧ Below w.heap.size w w' := by
  have H := Lib.hid h
  clear h
  go_enter Tryd.func8, Tryd.ntmps8
  go_wp2_with (go_at_call 34; refine (toStringS_any m.x m.A m.c _ ((H.out.below (show Below w.heap.size w _ from by repeat (first | exact Below.refl _ _ | refine Below.alloc ?_ (by simp <;> omega) _)) (Nat.le_refl _)).more (by simp <;> omega)) hl).mono ?_; rintro e w1 ⟨A', rfl, ho, hb⟩; have q0 := (hb.cell (p := ⟨w.heap.size + 1 + 1, 0, none⟩) (by simp)).trans (show _ = some _ from by simp [go_sem]; rfl); have fq0 : w1.frozen? ⟨w.heap.size + 1 + 1, 0, none⟩ = false := (hb.frozen (p := ⟨w.heap.size + 1 + 1, 0, none⟩) (by simp)).trans (by simp [go_sem]); have q1 := (hb.cell (p := ⟨w.heap.size + 1 + 1, 1, none⟩) (by simp)).trans (show _ = some _ from by simp [go_sem]; rfl); have fq1 : w1.frozen? ⟨w.heap.size + 1 + 1, 1, none⟩ = false := (hb.frozen (p := ⟨w.heap.size + 1 + 1, 1, none⟩) (by simp)).trans (by simp [go_sem]); have q2 := (hb.cell (p := ⟨w.heap.size + 1 + 1, 2, none⟩) (by simp)).trans (show _ = some _ from by simp [go_sem]; rfl); have fq2 : w1.frozen? ⟨w.heap.size + 1 + 1, 2, none⟩ = false := (hb.frozen (p := ⟨w.heap.size + 1 + 1, 2, none⟩) (by simp)).trans (by simp [go_sem]); have p0 := (hb.cell (p := ⟨w.heap.size + 1, 0, none⟩) (by simp)).trans (show _ = some _ from by simp [go_sem]; rfl); have fp0 : w1.frozen? ⟨w.heap.size + 1, 0, none⟩ = false := (hb.frozen (p := ⟨w.heap.size + 1, 0, none⟩) (by simp)).trans (by simp [go_sem]); have p1 := (hb.cell (p := ⟨w.heap.size + 1, 1, none⟩) (by simp)).trans (show _ = some _ from by simp [go_sem]; rfl); have fp1 : w1.frozen? ⟨w.heap.size + 1, 1, none⟩ = false := (hb.frozen (p := ⟨w.heap.size + 1, 1, none⟩) (by simp)).trans (by simp [go_sem]); have p2 := (hb.cell (p := ⟨w.heap.size + 1, 2, none⟩) (by simp)).trans (show _ = some _ from by simp [go_sem]; rfl); have fp2 : w1.frozen? ⟨w.heap.size + 1, 2, none⟩ = false := (hb.frozen (p := ⟨w.heap.size + 1, 2, none⟩) (by simp)).trans (by simp [go_sem]))
  refine bodyPost_ret (v := .agg #[.string m.name, .int .i64 m.stage, .slice A' m.x.length m.x.length]) (by simp [results, Tryd.results8, go_sem, p0, p1, p2, q0, q1, q2]) rfl ?_
  have hs : w.heap.size + 3 ≤ w1.heap.size := by have := hb.size; simpa using this
  have hch : Chg (w.heap.size + 1) (w.heap.size + 3) w1 ((((w1.setCell ⟨w.heap.size + 1 + 1, 2, none⟩ (.slice A' m.x.length m.x.length)).setCell ⟨w.heap.size + 1, 0, none⟩ (.string m.name)).setCell ⟨w.heap.size + 1, 1, none⟩ (.int .i64 m.stage)).setCell ⟨w.heap.size + 1, 2, none⟩ (.slice A' m.x.length m.x.length)) :=
    ((((Chg.refl _ _ _).setCell (by simp) (by simp) _).setCell (by simp) (by simp) _).setCell (by simp) (by simp) _).setCell (by simp) (by simp) _
  have hbw : Below w.heap.size w w1 := (show Below w.heap.size w _ from by repeat (first | exact Below.refl _ _ | refine Below.alloc ?_ (by simp <;> omega) _)).trans (hb.mono (by simp <;> omega))
  refine ⟨A', ?_⟩
  rcases ho with h0 | ⟨g, f, hA, h1, h2, h3⟩
  · exact ⟨w.heap.size, rfl, Nat.le_refl _, by simp; omega, .inl h0, Below.chg hbw hch (by omega) (by omega)⟩
  · have h1' : w.heap.size + 3 ≤ g := by simpa using h1
    exact ⟨g, rfl, by omega, by simp; omega, (show OwnL w1 g (g + 1) A' 1 encString m.x from .inr ⟨g, f, hA, Nat.le_refl _, by omega, h3⟩).chg hch (by omega), Below.chg hbw hch (by omega) (by omega)⟩
/-- A band that the machine holds. -/
structure Bnd.Fits (b : Bnd) : Prop where
  me : b.m.Fits
  bs : (b.bob.size : Int) ≤ 9223372036854775807
  ss : (b.sing.size : Int) ≤ 9223372036854775807
  ks : (b.call.size : Int) ≤ 9223372036854775807
  ts : (b.tru.size : Int) ≤ 9223372036854775807
  rl : b.rx.length ≤ 9223372036854775807
/-- All sizes of a band are small. -/
def Bnd.Small (b : Bnd) (lim : Int) : Prop := (b.m.name.size : Int) ≤ lim ∧ (b.m.x.length : Int) ≤ lim ∧ (∀ x ∈ b.m.x, String_small lim x) ∧ (b.bob.size : Int) ≤ lim ∧ (b.sing.size : Int) ≤ lim ∧ (b.call.size : Int) ≤ lim ∧ (b.tru.size : Int) ≤ lim ∧ (b.rx.length : Int) ≤ lim


theorem markMethod_any (m : Mth) (lo hi q : Nat) (w : World) (h : OwnL w lo hi m.A 1 encString m.x) (hhi : hi ≤ w.heap.size) (hl : m.x.length ≤ 1048576) (hq0 : 0 < q) (hq : q ≤ 90000000000) :
    Calls Tryd.prog 13 #[.agg #[.string m.name, .int .i64 m.stage, .slice m.A m.x.length m.c], .int .i64 q] w fun e w' => e = .returned (.int .i64 ((q + m.x.length : Nat) : Int)) ∧ Chg lo hi w w' := by
  have hb0 : Hid (Below w.heap.size w (w.alloc (.cells #[.string m.name, .int .i64 m.stage, .slice m.A m.x.length m.c] 31))) := Lib.hid ((Below.refl _ _).alloc (Nat.le_refl _) _)
  have H := Lib.hid (h.later hb0.out)
  clear h
  go_enter Tryd.func13, Tryd.ntmps13
  go_wp2_with (go_at_call 14; refine (markStringS_any m.x lo hi m.A m.c q _ H.out hl hq0 (by omega)).mono ?_; rintro e w1 ⟨he, ho, hc⟩; rw [Nat.mul_one] at he; subst he)
  go_ret
  exact ⟨rfl, (Chg.of_below hb0.out).trans hc⟩
end Go.Proofs.YtbfhfnejppfehaaDoor

/-
  A region that draws its order, whose operations only read and whose callees only make new memory: one walk in the order of the text.
-/
namespace Go.Proofs.YtbfhfnejppfehaaDoor
open Go.RowKit
set_option linter.unusedVariables false
set_option linter.unusedSimpArgs false

/-- A world in which, below the heap's size of w, all is as in w. -/
structure Later (w : World) where
  W : World
  hb : Below w.heap.size w W
instance (w : World) : Inhabited (Later w) := ⟨⟨w, Below.refl _ _⟩⟩
theorem wp_region_later {P : Program} {id : Nat} {Q : Exit → Act → World → Prop} {a : Act} {w : World} {l : List Oper} (hm : P.follows .mixedOrders = true) (hB : Region.lexB .any l.toArray = true)
    (h : wpQuiet P l.toArray (fun w' => ∃ x : Later w, w' = x.W) (fun a' => ∀ w', (∃ x : Later w, w' = x.W) → Q .normal a' w') l a) : (Code.region id l.toArray true).wp P Q a w :=
  wp_region_quiet (C := fun w' => ∃ x : Later w, w' = x.W) hm hB ⟨⟨w.drew, (Below.refl _ _).drew⟩, rfl⟩ (by simpa using h)
theorem Later.call {P : Program} {f : FuncId} {args : Array Value} {w : World} {x : Later w} {v : Value} (h : Calls P f args x.W fun e w' => e = .returned v ∧ Below x.W.heap.size x.W w') :
    Calls P f args x.W fun e w'' => e = .returned v ∧ ∃ y : Later w, w'' = y.W :=
  h.mono fun _ w' ⟨he, hb⟩ => ⟨he, ⟨w', x.hb.trans (hb.mono x.hb.size)⟩, rfl⟩
theorem Later.same {P : Program} {f : FuncId} {args : Array Value} {w : World} {x : Later w} {v : Value} (h : Calls P f args x.W fun e w' => e = .returned v ∧ x.W = w') :
    Calls P f args x.W fun e w'' => e = .returned v ∧ ∃ y : Later w, w'' = y.W :=
  h.mono fun _ w' ⟨he, hb⟩ => ⟨he, x, hb.symm⟩
theorem calls_bool {P : Program} {f : FuncId} {args : Array Value} {w : World} {b b' : Bool} {R : World → Prop} (h : Calls P f args w fun e w' => e = .returned (.bool b) ∧ R w') (e : b = b') : Calls P f args w fun e w' => e = .returned (.bool b') ∧ R w' := by
  subst e; exact h
theorem Later.drew {P : Program} {f : FuncId} {args : Array Value} {w : World} {x : Later w} {v : Value} (h : Calls P f args x.W fun e w' => e = .returned v ∧ ∃ n, w' = x.W.drewN n) :
    Calls P f args x.W fun e w'' => e = .returned v ∧ ∃ y : Later w, w'' = y.W :=
  h.mono fun _ w' ⟨he, n, hb⟩ => ⟨he, ⟨w', by rw [hb]; exact below_drewN x.hb n⟩, rfl⟩
end Go.Proofs.YtbfhfnejppfehaaDoor
