import Derived.Test.YtbfhfnejppfehaaGreatDoorMPlayBandL01
import Derived.Test.YtbfhfnejppfehaaGreatDoorMPlayBandL02
import Derived.Test.YtbfhfnejppfehaaGreatDoorMPlayBandL04
import Derived.Deep.RegionHeld3
import Derived.Lib.SliceRun
import Derived.Test.YtbfhfnejppfehaaGreatDoorRows
import Derived.StillTailTactics
/-
  Words of our own that know no program: a whole list appended; an own list of integers written.
-/
namespace Go.Proofs.YtbfhfnejppfehaaGreatDoor
open Go.RowKit
set_option linter.unusedVariables false
set_option linter.unusedSimpArgs false

theorem flat_inv {α : Type} {enc : α → List Value} {size : Nat} (henc : ∀ x, (enc x).length = size) : ∀ (l : List α) (j : Nat) (u : Value), (flat enc l)[j]? = some u → ∃ (i : Nat) (hi : i < l.length) (k : Nat), j = i * size + k ∧ (enc l[i])[k]? = some u
  | [], j, u, h => by simp [flat] at h
  | x :: l, j, u, h => by
    simp only [flat] at h
    by_cases hj : j < (enc x).length
    · rw [List.getElem?_append_left hj] at h
      exact ⟨0, by simp, j, by simp, by simpa using h⟩
    · rw [List.getElem?_append_right (by omega)] at h
      obtain ⟨i, hi, k, e, hk⟩ := flat_inv henc l _ u h
      rw [henc] at e hj
      exact ⟨i + 1, by simpa using hi, k, by rw [Nat.succ_mul]; omega, by simpa using hk⟩
section
variable {P : Program} {ops : Array Oper} {rest : List Oper} {o : Oper} {a : Act} {Q : Exit → Act → World → Prop} {w : World}
/-- 'l = append(l, ys...)': ys reads as a list that is not empty. -/
theorem wpList_pushAll {α : Type} (hgd : o.guard = none) (s x : Operand) (t : TypeId) (ho : o.op = .call { callee := .builtin .append, args := #[s, x], argTypes := #[t, t] })
    (base : Nat) (e : TypeId) (z : Value) (size bytes : Nat) (enc : α → List Value)
    (ht : P.underlying t = some (.slice e)) (hinfo : (P.info? e).map (fun i => (i.zero, i.size, i.bytes)) = some (some z, size, bytes)) (hzs : z.cells.size = size) (hsz : 0 < size)
    (v : Value) (l ys : List α) (A : Option Addr) (c b : Nat) (hs : a.eval s = v) (hx : a.eval x = .slice A ys.length c) (hr : RdL w b A size enc ys) (hne : 0 < ys.length)
    (hown : Grow w base e size enc v l) (henc : ∀ x, (enc x).length = size) (h1 : ∀ x, ∀ u ∈ enc x, u.oneCell' = true)
    (hn : l.length + ys.length ≤ 1000000000) (hb : bytes ≤ 1000) (hbase : base ≤ w.heap.size)
    (h : ∀ v' w', Grow w' base e size enc v' (l ++ ys) → Below base w w' → w.grownBy w' v.ownBlock → wpList P ops Q rest (a.put o.dst v') w') :
    wpList P ops Q (o :: rest) a w := by
  obtain ⟨i, hi, hzz⟩ := Option.map_eq_some_iff.1 hinfo
  simp only [Prod.mk.injEq] at hzz
  obtain ⟨hz, hs', hb'⟩ := hzz
  have hmul : (l.length + ys.length) * bytes ≤ 1000000000 * 1000 := Nat.mul_le_mul hn hb
  obtain ⟨g, off, hA, _, _⟩ := hr.at (k := 0) hne
  subst hA
  refine wpList_append_own (P := P) _ hgd s x t ho base e i z size bytes ht hi hz hs' hb' hzs hsz v l.length (flat enc l) hs hown ⟨g, off, none⟩ ys.length c (flat enc ys) hx (flat_len henc ys)
    (fun j u hu => by
      obtain ⟨i, hi, k, rfl, hk⟩ := flat_inv henc ys j u hu
      obtain ⟨g', off', hA', _, hcell⟩ := hr.at hi
      simp only [Option.some.injEq, Addr.mk.injEq, and_true] at hA'
      obtain ⟨rfl, rfl⟩ := hA'
      have e : (⟨g, off, none⟩ : Addr).add (i * size + k) = ⟨g, off + (i * size + k), none⟩ := by unfold Addr.add; split <;> simp_all
      rw [e]; exact hcell k u hk) (fun u hu => by
      obtain ⟨j, hj⟩ := List.getElem?_of_mem hu
      obtain ⟨i, hi, k, _, hk⟩ := flat_inv henc ys j u hj
      exact h1 _ u (List.mem_of_getElem? hk)) (by unfold maxLen; omega) (by omega) hbase ?_
  intro v' w' hown' hg _
  have hr : ∀ k, v.ownBlock = some k → base ≤ k := fun k hk => by
    rcases hown.2 with ⟨rfl, _⟩ | ⟨g, cap, cur, rfl, hbg, _⟩
    · simp [Value.ownBlock] at hk
    · simp [Value.ownBlock] at hk; omega
  refine h v' w' ?_ ?_ hg
  · unfold Grow
    rw [List.length_append, flat_append]
    exact hown'
  · exact (Below.refl base w).grown hg hbase hr
end
theorem Grow.capN {α : Type} {w : World} {base : Nat} {e : TypeId} {size : Nat} {enc : α → List Value} {l : List α} {A : Option Addr} {n c : Nat} (h : Grow w base e size enc (.slice A n c) l) : n ≤ c := by
  rcases h.2 with ⟨h1, h2⟩ | ⟨g, cap, cur, h1, h2, h3, h4, h5, _⟩
  · injection h1 with _ e1 e2; omega
  · injection h1 with _ e1 e2; omega
section
variable {w : World} {b c g : Nat} {l : List Int}
theorem OwnL.some_of {A : Option Addr} (h : OwnL w b c A 1 encInt l) (hl : 0 < l.length) : ∃ g, A = some ⟨g, 0, none⟩ ∧ b ≤ g ∧ g < c ∧ g < w.heap.size := by
  obtain ⟨g, f, hA, h1, h2, h3⟩ := h.cells hl
  exact ⟨g, hA, h1, h2, h3.lt⟩
theorem OwnL.cellInt (h : OwnL w b c (some ⟨g, 0, none⟩) 1 encInt l) (k : Nat) (hk : k < l.length) : w.cell? ⟨g, k, none⟩ = some (.int .i64 l[k]) ∧ w.frozen? ⟨g, k, none⟩ = false := by
  rcases h with h | ⟨g', f, hA, h1, h2, h3, h4⟩
  · subst h; simp at hk
  · simp only [Option.some.injEq, Addr.mk.injEq, and_true] at hA
    subst hA
    have := h4 k hk 0 _ rfl
    have hc := h3.cell (i := k) (by omega)
    rw [Nat.mul_one, Nat.add_zero] at this
    rw [this] at hc
    exact ⟨hc, h3.free (by omega)⟩
theorem OwnL.setInt (h : OwnL w b c (some ⟨g, 0, none⟩) 1 encInt l) (k : Nat) (hk : k < l.length) (v : Int) : OwnL (w.setCell ⟨g, k, none⟩ (.int .i64 v)) b c (some ⟨g, 0, none⟩) 1 encInt (l.set k v) := by
  rcases h with h | ⟨g', f, hA, h1, h2, h3, h4⟩
  · subst h; simp at hk
  · simp only [Option.some.injEq, Addr.mk.injEq, and_true] at hA
    subst hA
    refine .inr ⟨g, _, rfl, h1, h2, by rw [List.length_set]; exact h3.set (i := k) (by omega) _, fun i hi j u hu => ?_⟩
    have hj : j = 0 := by have := (List.getElem?_eq_some_iff.1 hu).1; simp [encInt] at this; exact this
    subst hj
    by_cases e : i = k
    · subst e
      rw [List.getElem_set_self] at hu
      rw [Nat.mul_one, Nat.add_zero, upd_same]
      simpa [encInt] using hu
    · rw [List.getElem_set_ne (by omega)] at hu
      rw [Nat.mul_one, Nat.add_zero, upd_other _ _ _ _ (by omega)]
      have := h4 i (by simpa using hi) 0 u hu
      rw [Nat.mul_one, Nat.add_zero] at this
      exact this
end
end Go.Proofs.YtbfhfnejppfehaaGreatDoor

/-
  Rounds; lists of strings and methods copied: contracts of both sides.
-/
namespace Go.Proofs.YtbfhfnejppfehaaGreatDoor
open Go.RowKit
set_option linter.unusedVariables false
set_option linter.unusedSimpArgs false
set_option maxRecDepth 100000

def eightS : ByteArray := ⟨#[49, 50, 51, 52, 53, 54, 55, 56]⟩
/-- Rounds. -/
def roundsS (n : Int) : ByteArray := eightS.extract 0 n.toNat
theorem roundsS_size {n : Int} (h0 : 0 ≤ n) (h8 : n ≤ 8) : (roundsS n).size = n.toNat := by
  unfold roundsS; rw [size_ext]
  have : eightS.size = 8 := rfl
  omega

theorem rounds_any (n : Int) (w : World) (h0 : 0 ≤ n) (h8 : n ≤ 8) : Calls Tryz.prog 143 #[.int .i64 n] w fun e w' => e = .returned (.string (roundsS n)) ∧ w = w' := by
  have hz : (⟨#[49, 50, 51, 52, 53, 54, 55, 56]⟩ : ByteArray).size = 8 := rfl
  go_enter Tryz.func143, Tryz.ntmps143
  go_wp2
  go_ret
  exact ⟨rfl, rfl⟩
theorem l1Rounds_any (n : Int) (w : World) (h0 : 0 ≤ n) (h8 : n ≤ 8) : Calls Tryz.prog 150 #[.int .i64 n] w fun e w' => e = .returned (.string (roundsS n)) ∧ w = w' := by
  have hz : (⟨#[49, 50, 51, 52, 53, 54, 55, 56]⟩ : ByteArray).size = 8 := rfl
  go_enter Tryz.func150, Tryz.ntmps150
  go_wp2
  go_ret
  exact ⟨rfl, rfl⟩

theorem l1OwnS_any (l : List ByteArray) (A : Option Addr) (c : Nat) (w : World) (h : RdL w w.heap.size A 1 encString l) (hl : l.length ≤ 1048576) (h0 : 0 < l.length) :
    Calls Tryz.prog 182 #[.slice A l.length c] w fun e w' => ∃ A' c', e = .returned (.slice A' l.length c') ∧ OwnL w' w.heap.size w'.heap.size A' 1 encString l ∧ l.length ≤ c' ∧ Below w.heap.size w w' := by
  have hq : ∀ (w : World) (a : Option Addr) (n c : Nat), (binOp .eql 24 (.slice a n c) (.slice none 0 0)).run Tryz.prog w = .ok (.bool a.isNone) w := fun w a n c => Lib.run_eql_slice_nil w _ 9 a n c 0 0 rfl
  obtain ⟨g, off, hA, _, _⟩ := h.at h0
  subst hA
  have H := Lib.hid h
  clear h
  go_enter Tryz.func182, Tryz.ntmps182
  go_wp2_with (at_builtin; refine wpList_pushAll rfl _ _ 24 rfl w.heap.size 9 _ 1 16 encString rfl String_info rfl (by omega) _ [] l _ _ w.heap.size rfl rfl (H.out.below ((Below.refl _ _).alloc (Nat.le_refl _) _) (Nat.le_refl _)) h0 (Grow.empty (Nat.le_refl _)) encString_len (by simp [encString, Value.oneCell']) (by first | (simp; done) | (simp; omega)) (by omega) (by simp) ?_; intro v' w2 hg2 hb2 hgb)
  go_ret
  obtain ⟨A', c', hv, ho⟩ := hg2.own encString_len
  subst hv
  exact ⟨A', c', rfl, ho, hg2.capN, ((Below.refl _ _).alloc (Nat.le_refl _) _).trans hb2⟩
theorem cloneS_any (l : List ByteArray) (A : Option Addr) (c : Nat) (w : World) (h : RdL w w.heap.size A 1 encString l) (hl : l.length ≤ 1048576) (h0 : 0 < l.length) :
    Calls Tryz.prog 142 #[.slice A l.length c] w fun e w' => ∃ A' c', e = .returned (.slice A' l.length c') ∧ OwnL w' w.heap.size w'.heap.size A' 1 encString l ∧ l.length ≤ c' ∧ Below w.heap.size w w' := by
  have hq : ∀ (w : World) (a : Option Addr) (n c : Nat), (binOp .eql 24 (.slice a n c) (.slice none 0 0)).run Tryz.prog w = .ok (.bool a.isNone) w := fun w a n c => Lib.run_eql_slice_nil w _ 9 a n c 0 0 rfl
  obtain ⟨g, off, hA, _, _⟩ := h.at h0
  subst hA
  have H := Lib.hid h
  clear h
  go_enter Tryz.func142, Tryz.ntmps142
  go_wp2_with (at_builtin; refine wpList_pushAll rfl _ _ 24 rfl w.heap.size 9 _ 1 16 encString rfl String_info rfl (by omega) _ [] l _ _ w.heap.size rfl rfl (H.out.below ((Below.refl _ _).alloc (Nat.le_refl _) _) (Nat.le_refl _)) h0 (Grow.empty (Nat.le_refl _)) encString_len (by simp [encString, Value.oneCell']) (by first | (simp; done) | (simp; omega)) (by omega) (by simp) ?_; intro v' w2 hg2 hb2 hgb)
  go_ret
  obtain ⟨A', c', hv, ho⟩ := hg2.own encString_len
  subst hv
  exact ⟨A', c', rfl, ho, hg2.capN, ((Below.refl _ _).alloc (Nat.le_refl _) _).trans hb2⟩
theorem withChanges_any (m : Mth) (A' : Option Addr) (n c' : Nat) (w : World) :
    Calls Tryz.prog 141 #[.agg #[.string m.name, .int .i64 m.stage, .slice m.A m.x.length m.c], .slice A' n c'] w fun e w' => e = .returned (.agg #[.string m.name, .int .i64 m.stage, .slice A' n c']) ∧ Below w.heap.size w w' := by
  go_enter Tryz.func141, Tryz.ntmps141
  go_wp2
  refine bodyPost_ret (v := .agg #[.string m.name, .int .i64 m.stage, .slice A' n c']) (by simp [results, Tryz.results141, go_sem]) rfl ⟨rfl, ?_⟩
  repeat (first | exact Below.refl _ _ | refine Below.setCell ?_ (by simp <;> omega) _ | refine Below.alloc ?_ (by simp <;> omega) _)
set_option maxHeartbeats 1600000 in
theorem l4Own_any (m : Mth) (w : World) (h : RdL w w.heap.size m.A 1 encString m.x) (hl : m.x.length ≤ 1048576) (h0 : 0 < m.x.length) :
    Calls Tryz.prog 149 #[.agg #[.string m.name, .int .i64 m.stage, .slice m.A m.x.length m.c]] w fun e w' => ∃ A' c', e = .returned (.agg #[.string m.name, .int .i64 m.stage, .slice A' m.x.length c']) ∧ OwnL w' w.heap.size w'.heap.size A' 1 encString m.x ∧ m.x.length ≤ c' ∧ Below w.heap.size w w' := by
  have H := Lib.hid h
  clear h
  have hW : ∃ W : World, Hid ((w.alloc (.cells #[.string m.name, .int .i64 m.stage, .slice m.A m.x.length m.c] 26)).alloc (.cells #[.string ⟨#[]⟩, .int .i64 0, .slice none 0 0] 26) = W) ∧ Hid (W.heap.size = w.heap.size + 2) ∧ Hid (Below w.heap.size w W) ∧ W.cell? ⟨w.heap.size, 0, none⟩ = some (.string m.name) ∧ W.cell? ⟨w.heap.size, 1, none⟩ = some (.int .i64 m.stage) ∧ W.cell? ⟨w.heap.size, 2, none⟩ = some (.slice m.A m.x.length m.c) ∧ Hid (Cells W (w.heap.size + 1) 3 (fun i => (#[Value.string ⟨#[]⟩, .int .i64 0, .slice none 0 0] : Array Value).getD i undef)) := by
    refine ⟨_, Lib.hid rfl, Lib.hid (by simp), Lib.hid (((Below.refl _ _).alloc (Nat.le_refl _) _).alloc (by simp) _), ?_, ?_, ?_, Lib.hid ?_⟩
    · rw [World.cell?_alloc_lt _ _ _ (by simp), World.cell?_alloc_new]; rfl
    · rw [World.cell?_alloc_lt _ _ _ (by simp), World.cell?_alloc_new]; rfl
    · rw [World.cell?_alloc_lt _ _ _ (by simp), World.cell?_alloc_new]; rfl
    · have := Cells.new (w.alloc (.cells #[.string m.name, .int .i64 m.stage, .slice m.A m.x.length m.c] 26)) #[Value.string ⟨#[]⟩, .int .i64 0, .slice none 0 0] 26 3 (fun i => (#[Value.string ⟨#[]⟩, .int .i64 0, .slice none 0 0] : Array Value).getD i undef) (fun i hi => by
        match i, hi with
        | 0, _ => rfl
        | 1, _ => rfl
        | 2, _ => rfl)
      simpa using this
  obtain ⟨W, hWe, hWs, hWb, u0, u1, u2, hC⟩ := hW
  go_enter Tryz.func149, Tryz.ntmps149
  go_wp2_with fail
  rw [hWe.out]
  clear hWe
  go_region_held3 (fun w' => w'.cell? ⟨w.heap.size, 0, none⟩ = some (.string m.name) ∧ w'.cell? ⟨w.heap.size, 1, none⟩ = some (.int .i64 m.stage) ∧ w'.cell? ⟨w.heap.size, 2, none⟩ = some (.slice m.A m.x.length m.c)) (first | exact ⟨u0, u1, u2⟩ | exact ⟨v0, v1, v2⟩ | go_keep) (first | (go_at_call 182; refine (l1OwnS_any m.x m.A m.c _ (show RdL W.drew W.drew.heap.size m.A 1 encString m.x from ((H.out.below hWb.out (Nat.le_refl _)).more hWb.out.size)) hl h0).mono ?_; rintro e w3 ⟨A', c', rfl, ho, hc', hb3⟩; have v0 : w3.cell? ⟨w.heap.size, 0, none⟩ = some (.string m.name) := (hb3.cell (p := ⟨w.heap.size, 0, none⟩) (show w.heap.size < W.heap.size from by have := hWs.out; omega)).trans u0; have v1 : w3.cell? ⟨w.heap.size, 1, none⟩ = some (.int .i64 m.stage) := (hb3.cell (p := ⟨w.heap.size, 1, none⟩) (show w.heap.size < W.heap.size from by have := hWs.out; omega)).trans u1; have v2 : w3.cell? ⟨w.heap.size, 2, none⟩ = some (.slice m.A m.x.length m.c) := (hb3.cell (p := ⟨w.heap.size, 2, none⟩) (show w.heap.size < W.heap.size from by have := hWs.out; omega)).trans u2; have HC3 : Hid (Cells w3 (w.heap.size + 1) 3 (fun i => (#[Value.string ⟨#[]⟩, .int .i64 0, .slice none 0 0] : Array Value).getD i undef)) := Lib.hid (hC.out.below ((Below.refl W.heap.size W).drew.trans hb3) (by have := hWs.out; omega)); have HO := Lib.hid ho; have HB3 : Hid (Below w.heap.size w w3) := Lib.hid (hWb.out.trans (((Below.refl W.heap.size W).drew.trans hb3).mono hWb.out.size)); have p0 := HC3.out.cell (i := 0) (by omega); have p1 := HC3.out.cell (i := 1) (by omega); have p2 := HC3.out.cell (i := 2) (by omega); have f0 := HC3.out.free (i := 0) (by omega); have f1 := HC3.out.free (i := 1) (by omega); have f2 := HC3.out.free (i := 2) (by omega); have hz3 : w.heap.size + 2 ≤ w3.heap.size := (by have := hb3.size; have h9 := hWs.out; have h8 : W.heap.size ≤ w3.heap.size := this; omega); clear ho hb3))
  go_wp2
  refine bodyPost_ret (v := .agg #[.string m.name, .int .i64 m.stage, .slice A' m.x.length c']) (by simp [results, Tryz.results149, go_sem, p0, p1, p2, f0, f1, f2]) rfl ⟨A', c', rfl, ?_, hc', ?_⟩
  · refine (HO.out.chg (b' := w.heap.size + 1) (c' := w.heap.size + 2) (?_ : Chg (w.heap.size + 1) (w.heap.size + 2) w3 _) (.inr (by have h9 := hWs.out; show w.heap.size + 2 ≤ W.heap.size; omega))).mono (by have h9 := hWs.out; show w.heap.size ≤ W.heap.size; omega) (by simp)
    repeat (first | exact Chg.refl _ _ _ | refine Chg.setCell ?_ (by first | exact Nat.le_refl _ | (simp; done) | (simp; omega)) (by first | (simp; done) | (simp; omega)) _)
  · repeat (first | exact HB3.out | refine Below.setCell ?_ (by first | (simp; done) | (simp; omega)) _)
end Go.Proofs.YtbfhfnejppfehaaGreatDoor

/-
  Contracts of the helper functions that the laws use for lists of Ringer.
-/
namespace Go.Proofs.YtbfhfnejppfehaaGreatDoor
open Go.RowKit Go.ChangeShapes Go.WideShapes
set_option linter.unusedVariables false
set_option linter.unusedSimpArgs false
set_option maxRecDepth 100000


structure Rgr where
  place : Int
  deaf : Bool

def Rgr.enc (x : Rgr) : List Value := [.int .i64 x.place, .bool x.deaf]
theorem Rgr_enc_len (x : Rgr) : (Rgr.enc x).length = 2 := rfl
def Ringer_small (lim : Int) (x : Rgr) : Prop := True
theorem Ringer_info : (Tryz.prog.info? 91).map (fun i => (i.zero, i.size, i.bytes)) = some (some (.agg #[.int .i64 0, .bool false]), 2, 16) := by kernel_rfl

theorem Ringer_el {H : Type} {en : TypeId × Value → H} {w : World} {base : Nat} {spare : Nat → Bool} {held : Bool} (n : Nat) (cs : List Value) (y : DataW H × List MemPlace) (h : DataW.trod en Tryz.prog w base spare held n 173 cs = some y) : ∃ x : Rgr, cs = Rgr.enc x ∧ Ringer_small 9223372036854775807 x := by
  obtain ⟨xs, m, _, _, hlen, hxl, hg⟩ := DataW.trod_struct Tryz.underlying173 h
  have hC : Tryz.prog.cellsOf 173 = 2 := by kernel_rfl
  have hC_bool : Tryz.prog.cellsOf 4 = 1 := by kernel_rfl
  have hC_int : Tryz.prog.cellsOf 3 = 1 := by kernel_rfl
  rw [hC] at hlen
  match cs, hlen, xs, hxl with
  | [c0, c1], _, [x0, x1], _ =>
    have g0 := hg 0 _ rfl
    simp only [hC_int, List.drop_zero, List.drop_succ_cons, List.take_succ_cons, List.take_zero, List.getElem?_cons_zero, List.getElem?_cons_succ] at g0
    obtain ⟨a0, e0, _, _⟩ := DataW.trod_int Tryz.underlying3 g0
    injection e0 with e0 _
    subst e0
    have g1 := hg 1 _ rfl
    simp only [hC_bool, List.drop_zero, List.drop_succ_cons, List.take_succ_cons, List.take_zero, List.getElem?_cons_zero, List.getElem?_cons_succ] at g1
    obtain ⟨a1, e1, _⟩ := DataW.trod_bool Tryz.underlying4 g1
    injection e1 with e1 _
    subst e1
    exact ⟨⟨a0, a1⟩, rfl, trivial⟩

theorem szRingerS_any (l : List Rgr) (A : Option Addr) (c : Nat) (left : Int) (w : World) (hl : l.length ≤ 9223372036854775807) (h1 : 0 ≤ left) (h2 : left ≤ 1048576) :
    Calls Tryz.prog 116 #[.slice A l.length c, .int .i64 left] w fun e w' => ∃ r, e = .returned (.int .i64 r) ∧ SzOk r left l.length (∀ x ∈ l, Ringer_small left x) ∧ Below w.heap.size w w' := by
  by_cases hn : left < l.length
  · go_enter Tryz.func116, Tryz.ntmps116
    go_wp2
    go_ret
    exact ⟨_, rfl, .inl (by omega), Below.refl _ _⟩
  · go_enter Tryz.func116, Tryz.ntmps116
    go_wp2
    go_ret
    exact ⟨_, rfl, .inr ⟨by omega, by omega, by omega, fun _ _ => trivial⟩, Below.refl _ _⟩

theorem toRinger_any (x : Rgr) (w : World) :
    Calls Tryz.prog 179 #[.agg #[.int .i64 x.place, .bool x.deaf]] w fun e w' => e = .returned (.agg #[.int .i64 x.place, .bool x.deaf]) ∧ Below w.heap.size w w' := by
  go_enter Tryz.func179, Tryz.ntmps179
  go_wp2
  refine bodyPost_ret (v := .agg #[.int .i64 x.place, .bool x.deaf]) (by simp [results, Tryz.results179, go_sem]) rfl ⟨rfl, ?_⟩
  exact (((Below.refl _ _).alloc (Nat.le_refl _) _).alloc (by simp) _).alloc (by simp <;> omega) _

set_option maxHeartbeats 800000 in
theorem toRingerS_any (l : List Rgr) (A : Option Addr) (c : Nat) (w : World) (h : RdL w w.heap.size A 2 Rgr.enc l) (hl : l.length ≤ 1048576) :
    Calls Tryz.prog 120 #[.slice A l.length c] w fun e w' => ∃ A', e = .returned (.slice A' l.length l.length) ∧ OwnL w' w.heap.size w'.heap.size A' 2 Rgr.enc l ∧ Below w.heap.size w w' := by
  go_enter Tryz.func120, Tryz.ntmps120
  go_wp2_with (refine wpList_make_cellsN rfl 34 _ rfl 91 _ 2 16 rfl Ringer_info rfl .i64 l.length rfl (by omega) (by omega) ?_; intro w1 hc1 hb1)
  go_loopw [4] (fun i wr => ∃ k : Nat, k ≤ l.length ∧ i = .int .i64 k ∧ Cells wr w.heap.size (l.length * 2) (fill Rgr.enc 2 l (fun i => (Value.agg #[.int .i64 0, .bool false]).cells.getD (i % 2) undef) k) ∧ Below w.heap.size w wr) (fun i _ => l.length - (intOf i).toNat)
  case atStart => exact ⟨0, by omega, by rfl, by rw [fill_zero]; exact hc1, hb1⟩
  case round =>
    obtain ⟨k, hk, rfl, hc, hbl⟩ := hrel
    have Hc := Lib.hid hc
    have Hbl := Lib.hid hbl
    have hgs : w.heap.size < wr.heap.size := hc.lt
    clear hc hbl hc1 hb1
    by_cases hlt : k < l.length
    · obtain ⟨g, off, hA, hg, hcell⟩ := h.at hlt
      subst hA
      have r0 := (Hbl.out.cell (p := ⟨g, off + k * 2, none⟩) hg).trans (hcell 0 _ rfl)
      have r1 := (Hbl.out.cell (p := ⟨g, off + k * 2 + 1, none⟩) hg).trans (hcell 1 _ rfl)
      obtain ⟨x, hx⟩ : ∃ x, Hid (l[k] = x) := ⟨l[k], Lib.hid rfl⟩
      rw [hx.out] at r0 r1
      clear hcell h
      go_wp2_with (go_at_call 179; refine (toRinger_any x _).mono ?_; rintro e w' ⟨rfl, hb2⟩; have q0 := (Hc.out.later hb2).cell (i := k * 2) (by omega); have f0 := (Hc.out.later hb2).free (i := k * 2) (by omega); have q1 := (Hc.out.later hb2).cell (i := k * 2 + 1) (by omega); have f1 := (Hc.out.later hb2).free (i := k * 2 + 1) (by omega))
      go_roundw
      case rel => exact ⟨k + 1, by omega, by go_num, (Hc.out.later hb2).fillN (by omega) Rgr_enc_len hlt rfl [_, _] (by rw [hx.out]; rfl), Below.setN (Nat.le_refl _) [_, _] (Hbl.out.trans (hb2.mono (by omega)))⟩
      case measure => simp [intOf]; omega
    · go_wp2
      go_ret
      exact ⟨_, rfl, OwnL.of_fill Hc.out (by omega) (Nat.le_refl _) Hc.out.lt Rgr_enc_len, Hbl.out⟩

theorem eqRinger_t (x : Rgr) (w : World) :
    Calls Tryz.prog 180 #[.agg #[.int .i64 x.place, .bool x.deaf], .agg #[.int .i64 x.place, .bool x.deaf]] w fun e w' => e = .returned (.bool true) ∧ Below w.heap.size w w' := by
  go_enter Tryz.func180, Tryz.ntmps180
  go_wp2
  go_ret
  exact ⟨rfl, ((Below.refl _ _).alloc (Nat.le_refl _) _).alloc (by simp) _⟩

set_option maxHeartbeats 800000 in
theorem eqRingerS_t (l : List Rgr) (A A' : Option Addr) (c c' : Nat) (w : World) (h : RdL w w.heap.size A 2 Rgr.enc l) (h' : RdL w w.heap.size A' 2 Rgr.enc l) (hl : l.length ≤ 4611686018427387904) :
    Calls Tryz.prog 124 #[.slice A l.length c, .slice A' l.length c'] w fun e w' => e = .returned (.bool true) ∧ Below w.heap.size w w' := by
  go_enter Tryz.func124, Tryz.ntmps124
  go_wp2
  go_loopw [5] (fun i wr => ∃ k : Nat, k ≤ l.length ∧ i = .int .i64 k ∧ Below w.heap.size w wr) (fun i _ => l.length - (intOf i).toNat)
  case atStart => exact ⟨0, by omega, by rfl, Below.refl _ _⟩
  case round =>
    obtain ⟨k, hk, rfl, hbl⟩ := hrel
    have Hbl := Lib.hid hbl
    clear hbl
    by_cases hlt : k < l.length
    · obtain ⟨g, off, hA, hg, hcell⟩ := h.at hlt
      obtain ⟨g', off', hA', hg', hcell'⟩ := h'.at hlt
      subst hA hA'
      have r0 := (Hbl.out.cell (p := ⟨g, off + k * 2, none⟩) hg).trans (hcell 0 _ rfl)
      have r1 := (Hbl.out.cell (p := ⟨g, off + k * 2 + 1, none⟩) hg).trans (hcell 1 _ rfl)
      have q0 := (Hbl.out.cell (p := ⟨g', off' + k * 2, none⟩) hg').trans (hcell' 0 _ rfl)
      have q1 := (Hbl.out.cell (p := ⟨g', off' + k * 2 + 1, none⟩) hg').trans (hcell' 1 _ rfl)
      clear hcell hcell' h h'
      generalize l[k] = x at r0 q0 r1 q1
      go_wp2
      go_still_tail 8, (by kernel_rfl)
      change wpList _ _ _ _ _ wr.drew
      have Hbl2 := Lib.hid Hbl.out.drew
      generalize wr.drew = w2 at *
      have hgs2 := Hbl2.out.size
      go_wp2_with (go_at_call 180; refine (eqRinger_t x _).mono ?_; rintro e w' ⟨rfl, hb2⟩)
      go_roundw
      case rel => exact ⟨k + 1, by omega, by go_num, Hbl2.out.trans (hb2.mono hgs2)⟩
      case measure => simp [intOf]; omega
    · go_wp2
      go_ret
      exact ⟨rfl, Hbl.out⟩

/-- What the marks make of a list of so many elements. -/
def markRingerL (m q : Nat) : List Rgr := (List.range m).map fun i : Nat => (⟨((q + i * 2 : Nat) : Int), (((q + i * 2 + 1) % 3 == 0))⟩ : Rgr)
theorem markRingerL_len (m q : Nat) : (markRingerL m q).length = m := by simp [markRingerL]
theorem markRingerL_at (m q i : Nat) (hi : i < (markRingerL m q).length) : (markRingerL m q)[i] = (⟨((q + i * 2 : Nat) : Int), (((q + i * 2 + 1) % 3 == 0))⟩ : Rgr) := by simp [markRingerL]
theorem markRinger_enc (q k : Nat) : Rgr.enc (⟨((q + k * 2 : Nat) : Int), (((q + k * 2 + 1) % 3 == 0))⟩ : Rgr) = [.int .i64 ((q : Int) + (k : Int) * 2), .bool (((q : Int) + (k : Int) * 2 + 1) % 3 == 0)] := by
  have e1 : ((q + k * 2 : Nat) : Int) = (q : Int) + (k : Int) * 2 := by omega
  have e2 : ((q + k * 2 + 1) % 3 == 0) = (((q : Int) + (k : Int) * 2 + 1) % 3 == 0) := by
    rw [Bool.eq_iff_iff, beq_iff_eq, beq_iff_eq]; omega
  simp only [Rgr.enc, e1, e2]
set_option maxHeartbeats 1600000 in
theorem markRingerS_any (l : List Rgr) (b d : Nat) (A : Option Addr) (c q : Nat) (w : World) (h : OwnL w b d A 2 Rgr.enc l) (hl : l.length ≤ 1048576) (hq0 : 0 < q) (hq : q ≤ 100000000000) :
    Calls Tryz.prog 127 #[.slice A l.length c, .int .i64 q] w fun e w' => e = .returned (.int .i64 ((q + l.length * 2 : Nat) : Int)) ∧ OwnL w' b d A 2 Rgr.enc (markRingerL l.length q) ∧ Chg b d w w' := by
  rcases Nat.eq_zero_or_pos l.length with h0 | hpos
  · have e0 : l = [] := List.eq_nil_of_length_eq_zero h0
    subst e0
    go_enter Tryz.func127, Tryz.ntmps127
    go_wp2
    go_loop [1, 5] (fun v i => v = .int .i64 q ∧ i = .int .i64 0) (fun _ _ => 0)
    case atStart => exact ⟨rfl, rfl⟩
    case round =>
      obtain ⟨rfl, rfl⟩ := hrel
      go_wp2
      go_ret
      exact ⟨by simp, .inl rfl, Chg.refl _ _ _⟩
  · obtain ⟨g, f, hA, hgb, hgc, hc0⟩ := h.cells hpos
    subst hA
    have HC0 := Lib.hid hc0
    clear hc0
    have em : (markRingerL l.length q).length = l.length := markRingerL_len _ _
    have Em := Lib.hid em
    clear em
    go_enter Tryz.func127, Tryz.ntmps127
    go_wp2
    go_loopw [1, 5] (fun v i wr => ∃ k : Nat, k ≤ l.length ∧ i = .int .i64 k ∧ v = .int .i64 ((q + k * 2 : Nat) : Int) ∧ Cells wr g (l.length * 2) (fill Rgr.enc 2 (markRingerL l.length q) f k) ∧ Chg b d w wr) (fun _ i _ => l.length - (intOf i).toNat)
    case atStart => exact ⟨0, by omega, by rfl, by simp, by rw [fill_zero]; exact HC0.out, Chg.refl _ _ _⟩
    case round =>
      obtain ⟨k, hk, rfl, rfl, hc, hch⟩ := hrel
      have Hc := Lib.hid hc
      have Hch := Lib.hid hch
      clear hc hch h
      by_cases hlt : k < l.length
      · have q0 := Hc.out.cell (i := k * 2) (by omega)
        have f0 := Hc.out.free (i := k * 2) (by omega)
        have q1 := Hc.out.cell (i := k * 2 + 1) (by omega)
        have f1 := Hc.out.free (i := k * 2 + 1) (by omega)
        go_wp2
        go_roundw
        case rel =>
          refine ⟨k + 1, by omega, by go_num, by first | rfl | (congr 1; simp; done) | (congr 1; simp; omega) | (congr 1; omega), ?_, ?_⟩
          · have hC := ((Hc.out.set (i := k * 2) (by omega) (.int .i64 ((q : Int) + (k : Int) * 2))).set (i := k * 2 + 1) (by omega) (.bool (((q : Int) + (k : Int) * 2 + 1) % 3 == 0)))
            refine hC.as_fill (l := markRingerL l.length q) (p := k * 2) [.int .i64 ((q : Int) + (k : Int) * 2), .bool (((q : Int) + (k : Int) * 2 + 1) % 3 == 0)] ?_ (by omega) Rgr_enc_len (by rw [Em.out]; exact hlt) (by omega) (by rw [markRingerL_at]; exact markRinger_enc q k)
            rw [← updN_cons, ← updN_cons, updN_nil]
          · exact ((Hch.out.setCell (p := ⟨g, k * 2, none⟩) hgb hgc (.int .i64 ((q : Int) + (k : Int) * 2))).setCell (p := ⟨g, k * 2 + 1, none⟩) hgb hgc (.bool (((q : Int) + (k : Int) * 2 + 1) % 3 == 0)))
        case measure => simp [intOf]; omega
      · go_wp2
        go_ret
        obtain rfl : k = l.length := by omega
        refine ⟨rfl, OwnL.of_fill (l := markRingerL l.length q) (k := l.length) (by rw [Em.out]; exact Hc.out) (by rw [Em.out]; exact Nat.le_refl _) hgb hgc Rgr_enc_len, Hch.out⟩

set_option maxHeartbeats 1600000 in
theorem heldRingerS_any (m : Nat) (A : Option Addr) (c q : Nat) (w : World) (h : RdL w w.heap.size A 2 Rgr.enc (markRingerL m q)) (hl : m ≤ 1048576) (hq0 : 0 < q) (hq : q ≤ 100000000000) :
    Calls Tryz.prog 130 #[.slice A m c, .int .i64 q] w fun e w' => e = .returned (.int .i64 ((q + m * 2 : Nat) : Int)) ∧ Below w.heap.size w w' := by
  have em : (markRingerL m q).length = m := markRingerL_len _ _
  have Em := Lib.hid em
  clear em
  go_enter Tryz.func130, Tryz.ntmps130
  go_wp2
  go_loopw [1, 5] (fun v i wr => ∃ k : Nat, k ≤ m ∧ i = .int .i64 k ∧ v = .int .i64 ((q : Int) + (k : Int) * 2) ∧ Below w.heap.size w wr) (fun _ i _ => m - (intOf i).toNat)
  case atStart => exact ⟨0, by omega, by rfl, by simp, Below.refl _ _⟩
  case round =>
    obtain ⟨k, hk, rfl, rfl, hbl⟩ := hrel
    have Hbl := Lib.hid hbl
    clear hbl
    by_cases hlt : k < m
    · obtain ⟨g, off, hA, hg, hcell⟩ := h.at (k := k) (by rw [Em.out]; exact hlt)
      subst hA
      have r0 : wr.cell? ⟨g, off + k * 2, none⟩ = some (.int .i64 ((q : Int) + (k : Int) * 2)) := by
          refine (Hbl.out.cell (p := ⟨g, off + k * 2, none⟩) hg).trans ?_
          have := hcell 0 _ (by rw [markRingerL_at, markRinger_enc]; rfl)
          exact this
      have r1 : wr.cell? ⟨g, off + k * 2 + 1, none⟩ = some (.bool (((q : Int) + (k : Int) * 2 + 1) % 3 == 0)) := by
          refine (Hbl.out.cell (p := ⟨g, off + k * 2 + 1, none⟩) hg).trans ?_
          have := hcell 1 _ (by rw [markRingerL_at, markRinger_enc]; rfl)
          exact this
      have hgw1 : g < wr.heap.size := Nat.lt_of_lt_of_le hg Hbl.out.size
      have hbz1 : w.heap.size ≤ wr.heap.size := Hbl.out.size
      clear hcell h
      go_wp2
      go_roundw
      case rel =>
        exact ⟨k + 1, by omega, by go_num, by congr 1; omega, Hbl.out⟩
      case measure => simp [intOf]; omega
    · go_wp2
      go_ret
      obtain rfl : k = m := by omega
      exact ⟨ret_int (by omega), Hbl.out⟩

end Go.Proofs.YtbfhfnejppfehaaGreatDoor