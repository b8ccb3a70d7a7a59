/-
  Rounds; lists of strings and methods copied: contracts of both sides.
-/
import Derived.Test.YtdecjijldcbnjaaMeth
import Derived.Test.YtdecjijldcbnjaaClone
import Derived.Deep.RegionHeld3
import Derived.Lib.SliceRun
namespace Go.Proofs.Ytdecjijldcbnjaa
open Go.RowKit
set_option linter.unusedVariables false
set_option linter.unusedSimpArgs false
set_option maxRecDepth 100000

def eightS : ByteArray := ⟨#[49, 50, 51, 52, 53, 54, 55, 56]⟩
/-- Rounds. -/
def roundsS (n : Int) : ByteArray := eightS.extract 0 n.toNat
theorem roundsS_size {n : Int} (h0 : 0 ≤ n) (h8 : n ≤ 8) : (roundsS n).size = n.toNat := by
  unfold roundsS; rw [size_ext]
  have : eightS.size = 8 := rfl
  omega

theorem rounds_any (n : Int) (w : World) (h0 : 0 ≤ n) (h8 : n ≤ 8) : Calls Try.prog 227 #[.int .i64 n] w fun e w' => e = .returned (.string (roundsS n)) ∧ w = w' := by
  have hz : (⟨#[49, 50, 51, 52, 53, 54, 55, 56]⟩ : ByteArray).size = 8 := rfl
  go_enter Try.func227, Try.ntmps227
  go_wp2
  go_ret
  exact ⟨rfl, rfl⟩
theorem l1Rounds_any (n : Int) (w : World) (h0 : 0 ≤ n) (h8 : n ≤ 8) : Calls Try.prog 221 #[.int .i64 n] w fun e w' => e = .returned (.string (roundsS n)) ∧ w = w' := by
  have hz : (⟨#[49, 50, 51, 52, 53, 54, 55, 56]⟩ : ByteArray).size = 8 := rfl
  go_enter Try.func221, Try.ntmps221
  go_wp2
  go_ret
  exact ⟨rfl, rfl⟩

theorem l1OwnS_any (l : List ByteArray) (A : Option Addr) (c : Nat) (w : World) (h : RdL w w.heap.size A 1 encString l) (hl : l.length ≤ 1048576) (h0 : 0 < l.length) :
    Calls Try.prog 275 #[.slice A l.length c] w fun e w' => ∃ A' c', e = .returned (.slice A' l.length c') ∧ OwnL w' w.heap.size w'.heap.size A' 1 encString l ∧ l.length ≤ c' ∧ Below w.heap.size w w' := by
  have hq : ∀ (w : World) (a : Option Addr) (n c : Nat), (binOp .eql 50 (.slice a n c) (.slice none 0 0)).run Try.prog w = .ok (.bool a.isNone) w := fun w a n c => Lib.run_eql_slice_nil w _ 9 a n c 0 0 rfl
  obtain ⟨g, off, hA, _, _⟩ := h.at h0
  subst hA
  have H := Lib.hid h
  clear h
  go_enter Try.func275, Try.ntmps275
  go_wp2_with (at_builtin; refine wpList_pushAll rfl _ _ 50 rfl w.heap.size 9 _ 1 16 encString rfl String_info rfl (by omega) _ [] l _ _ w.heap.size rfl rfl (H.out.below ((Below.refl _ _).alloc (Nat.le_refl _) _) (Nat.le_refl _)) h0 (Grow.empty (Nat.le_refl _)) encString_len (by simp [encString, Value.oneCell']) (by first | (simp; done) | (simp; omega)) (by omega) (by simp) ?_; intro v' w2 hg2 hb2 hgb)
  go_ret
  obtain ⟨A', c', hv, ho⟩ := hg2.own encString_len
  subst hv
  exact ⟨A', c', rfl, ho, hg2.capN, ((Below.refl _ _).alloc (Nat.le_refl _) _).trans hb2⟩
theorem cloneS_any (l : List ByteArray) (A : Option Addr) (c : Nat) (w : World) (h : RdL w w.heap.size A 1 encString l) (hl : l.length ≤ 1048576) (h0 : 0 < l.length) :
    Calls Try.prog 249 #[.slice A l.length c] w fun e w' => ∃ A' c', e = .returned (.slice A' l.length c') ∧ OwnL w' w.heap.size w'.heap.size A' 1 encString l ∧ l.length ≤ c' ∧ Below w.heap.size w w' := by
  have hq : ∀ (w : World) (a : Option Addr) (n c : Nat), (binOp .eql 50 (.slice a n c) (.slice none 0 0)).run Try.prog w = .ok (.bool a.isNone) w := fun w a n c => Lib.run_eql_slice_nil w _ 9 a n c 0 0 rfl
  obtain ⟨g, off, hA, _, _⟩ := h.at h0
  subst hA
  have H := Lib.hid h
  clear h
  go_enter Try.func249, Try.ntmps249
  go_wp2_with (at_builtin; refine wpList_pushAll rfl _ _ 50 rfl w.heap.size 9 _ 1 16 encString rfl String_info rfl (by omega) _ [] l _ _ w.heap.size rfl rfl (H.out.below ((Below.refl _ _).alloc (Nat.le_refl _) _) (Nat.le_refl _)) h0 (Grow.empty (Nat.le_refl _)) encString_len (by simp [encString, Value.oneCell']) (by first | (simp; done) | (simp; omega)) (by omega) (by simp) ?_; intro v' w2 hg2 hb2 hgb)
  go_ret
  obtain ⟨A', c', hv, ho⟩ := hg2.own encString_len
  subst hv
  exact ⟨A', c', rfl, ho, hg2.capN, ((Below.refl _ _).alloc (Nat.le_refl _) _).trans hb2⟩
theorem withChanges_any (m : Mth) (A' : Option Addr) (n c' : Nat) (w : World) :
    Calls Try.prog 248 #[.agg #[.string m.name, .int .i64 m.stage, .slice m.A m.x.length m.c], .slice A' n c'] w fun e w' => e = .returned (.agg #[.string m.name, .int .i64 m.stage, .slice A' n c']) ∧ Below w.heap.size w w' := by
  go_enter Try.func248, Try.ntmps248
  go_wp2
  refine bodyPost_ret (v := .agg #[.string m.name, .int .i64 m.stage, .slice A' n c']) (by simp [results, Try.results248, go_sem]) rfl ⟨rfl, ?_⟩
  repeat (first | exact Below.refl _ _ | refine Below.setCell ?_ (by simp <;> omega) _ | refine Below.alloc ?_ (by simp <;> omega) _)
set_option maxHeartbeats 1600000 in
theorem l4Own_any (m : Mth) (w : World) (h : RdL w w.heap.size m.A 1 encString m.x) (hl : m.x.length ≤ 1048576) (h0 : 0 < m.x.length) :
    Calls Try.prog 244 #[.agg #[.string m.name, .int .i64 m.stage, .slice m.A m.x.length m.c]] w fun e w' => ∃ A' c', e = .returned (.agg #[.string m.name, .int .i64 m.stage, .slice A' m.x.length c']) ∧ OwnL w' w.heap.size w'.heap.size A' 1 encString m.x ∧ m.x.length ≤ c' ∧ Below w.heap.size w w' := by
  have H := Lib.hid h
  clear h
  have hW : ∃ W : World, Hid ((w.alloc (.cells #[.string m.name, .int .i64 m.stage, .slice m.A m.x.length m.c] 60)).alloc (.cells #[.string ⟨#[]⟩, .int .i64 0, .slice none 0 0] 60) = W) ∧ Hid (W.heap.size = w.heap.size + 2) ∧ Hid (Below w.heap.size w W) ∧ W.cell? ⟨w.heap.size, 0, none⟩ = some (.string m.name) ∧ W.cell? ⟨w.heap.size, 1, none⟩ = some (.int .i64 m.stage) ∧ W.cell? ⟨w.heap.size, 2, none⟩ = some (.slice m.A m.x.length m.c) ∧ Hid (Cells W (w.heap.size + 1) 3 (fun i => (#[Value.string ⟨#[]⟩, .int .i64 0, .slice none 0 0] : Array Value).getD i undef)) := by
    refine ⟨_, Lib.hid rfl, Lib.hid (by simp), Lib.hid (((Below.refl _ _).alloc (Nat.le_refl _) _).alloc (by simp) _), ?_, ?_, ?_, Lib.hid ?_⟩
    · rw [World.cell?_alloc_lt _ _ _ (by simp), World.cell?_alloc_new]; rfl
    · rw [World.cell?_alloc_lt _ _ _ (by simp), World.cell?_alloc_new]; rfl
    · rw [World.cell?_alloc_lt _ _ _ (by simp), World.cell?_alloc_new]; rfl
    · have := Cells.new (w.alloc (.cells #[.string m.name, .int .i64 m.stage, .slice m.A m.x.length m.c] 60)) #[Value.string ⟨#[]⟩, .int .i64 0, .slice none 0 0] 60 3 (fun i => (#[Value.string ⟨#[]⟩, .int .i64 0, .slice none 0 0] : Array Value).getD i undef) (fun i hi => by
        match i, hi with
        | 0, _ => rfl
        | 1, _ => rfl
        | 2, _ => rfl)
      simpa using this
  obtain ⟨W, hWe, hWs, hWb, u0, u1, u2, hC⟩ := hW
  go_enter Try.func244, Try.ntmps244
  go_wp2_with fail
  rw [hWe.out]
  clear hWe
  go_region_held3 (fun w' => w'.cell? ⟨w.heap.size, 0, none⟩ = some (.string m.name) ∧ w'.cell? ⟨w.heap.size, 1, none⟩ = some (.int .i64 m.stage) ∧ w'.cell? ⟨w.heap.size, 2, none⟩ = some (.slice m.A m.x.length m.c)) (first | exact ⟨u0, u1, u2⟩ | exact ⟨v0, v1, v2⟩ | go_keep) (first | (go_at_call 275; refine (l1OwnS_any m.x m.A m.c _ (show RdL W.drew W.drew.heap.size m.A 1 encString m.x from ((H.out.below hWb.out (Nat.le_refl _)).more hWb.out.size)) hl h0).mono ?_; rintro e w3 ⟨A', c', rfl, ho, hc', hb3⟩; have v0 : w3.cell? ⟨w.heap.size, 0, none⟩ = some (.string m.name) := (hb3.cell (p := ⟨w.heap.size, 0, none⟩) (show w.heap.size < W.heap.size from by have := hWs.out; omega)).trans u0; have v1 : w3.cell? ⟨w.heap.size, 1, none⟩ = some (.int .i64 m.stage) := (hb3.cell (p := ⟨w.heap.size, 1, none⟩) (show w.heap.size < W.heap.size from by have := hWs.out; omega)).trans u1; have v2 : w3.cell? ⟨w.heap.size, 2, none⟩ = some (.slice m.A m.x.length m.c) := (hb3.cell (p := ⟨w.heap.size, 2, none⟩) (show w.heap.size < W.heap.size from by have := hWs.out; omega)).trans u2; have HC3 : Hid (Cells w3 (w.heap.size + 1) 3 (fun i => (#[Value.string ⟨#[]⟩, .int .i64 0, .slice none 0 0] : Array Value).getD i undef)) := Lib.hid (hC.out.below ((Below.refl W.heap.size W).drew.trans hb3) (by have := hWs.out; omega)); have HO := Lib.hid ho; have HB3 : Hid (Below w.heap.size w w3) := Lib.hid (hWb.out.trans (((Below.refl W.heap.size W).drew.trans hb3).mono hWb.out.size)); have p0 := HC3.out.cell (i := 0) (by omega); have p1 := HC3.out.cell (i := 1) (by omega); have p2 := HC3.out.cell (i := 2) (by omega); have f0 := HC3.out.free (i := 0) (by omega); have f1 := HC3.out.free (i := 1) (by omega); have f2 := HC3.out.free (i := 2) (by omega); have hz3 : w.heap.size + 2 ≤ w3.heap.size := (by have := hb3.size; have h9 := hWs.out; have h8 : W.heap.size ≤ w3.heap.size := this; omega); clear ho hb3))
  go_wp2
  refine bodyPost_ret (v := .agg #[.string m.name, .int .i64 m.stage, .slice A' m.x.length c']) (by simp [results, Try.results244, go_sem, p0, p1, p2, f0, f1, f2]) rfl ⟨A', c', rfl, ?_, hc', ?_⟩
  · refine (HO.out.chg (b' := w.heap.size + 1) (c' := w.heap.size + 2) (?_ : Chg (w.heap.size + 1) (w.heap.size + 2) w3 _) (.inr (by have h9 := hWs.out; show w.heap.size + 2 ≤ W.heap.size; omega))).mono (by have h9 := hWs.out; show w.heap.size ≤ W.heap.size; omega) (by simp)
    repeat (first | exact Chg.refl _ _ _ | refine Chg.setCell ?_ (by first | exact Nat.le_refl _ | (simp; done) | (simp; omega)) (by first | (simp; done) | (simp; omega)) _)
  · repeat (first | exact HB3.out | refine Below.setCell ?_ (by first | (simp; done) | (simp; omega)) _)
end Go.Proofs.Ytdecjijldcbnjaa
