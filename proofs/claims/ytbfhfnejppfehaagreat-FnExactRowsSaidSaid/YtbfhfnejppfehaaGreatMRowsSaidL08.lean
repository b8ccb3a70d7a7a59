import Derived.Test.YtbfhfnejppfehaaGreatMRowsSaidL02
import Derived.Test.YtbfhfnejppfehaaGreatMRowsSaidL03
import Derived.Test.YtbfhfnejppfehaaGreatMRowsSaidL07
import Derived.Deep.RegionHeld3
import Derived.Lib.SliceRun
import Derived.Test.YtbfhfnejppfehaaGreatRows
import Derived.StillTailTactics
import Derived.Test.YtbfhfnejppfehaaGreatMRowsSaidL06
import Derived.Deep.Slices
/-
  Words of our own that know no program: a whole list appended; an own list of integers written.
-/
namespace Go.Proofs.YtbfhfnejppfehaaGreat
open Go.RowKit
set_option linter.unusedVariables false
set_option linter.unusedSimpArgs false

theorem flat_inv {α : Type} {enc : α → List Value} {size : Nat} (henc : ∀ x, (enc x).length = size) : ∀ (l : List α) (j : Nat) (u : Value), (flat enc l)[j]? = some u → ∃ (i : Nat) (hi : i < l.length) (k : Nat), j = i * size + k ∧ (enc l[i])[k]? = some u
  | [], j, u, h => by simp [flat] at h
  | x :: l, j, u, h => by
    simp only [flat] at h
    by_cases hj : j < (enc x).length
    · rw [List.getElem?_append_left hj] at h
      exact ⟨0, by simp, j, by simp, by simpa using h⟩
    · rw [List.getElem?_append_right (by omega)] at h
      obtain ⟨i, hi, k, e, hk⟩ := flat_inv henc l _ u h
      rw [henc] at e hj
      exact ⟨i + 1, by simpa using hi, k, by rw [Nat.succ_mul]; omega, by simpa using hk⟩
section
variable {P : Program} {ops : Array Oper} {rest : List Oper} {o : Oper} {a : Act} {Q : Exit → Act → World → Prop} {w : World}
/-- 'l = append(l, ys...)': ys reads as a list that is not empty. -/
theorem wpList_pushAll {α : Type} (hgd : o.guard = none) (s x : Operand) (t : TypeId) (ho : o.op = .call { callee := .builtin .append, args := #[s, x], argTypes := #[t, t] })
    (base : Nat) (e : TypeId) (z : Value) (size bytes : Nat) (enc : α → List Value)
    (ht : P.underlying t = some (.slice e)) (hinfo : (P.info? e).map (fun i => (i.zero, i.size, i.bytes)) = some (some z, size, bytes)) (hzs : z.cells.size = size) (hsz : 0 < size)
    (v : Value) (l ys : List α) (A : Option Addr) (c b : Nat) (hs : a.eval s = v) (hx : a.eval x = .slice A ys.length c) (hr : RdL w b A size enc ys) (hne : 0 < ys.length)
    (hown : Grow w base e size enc v l) (henc : ∀ x, (enc x).length = size) (h1 : ∀ x, ∀ u ∈ enc x, u.oneCell' = true)
    (hn : l.length + ys.length ≤ 1000000000) (hb : bytes ≤ 1000) (hbase : base ≤ w.heap.size)
    (h : ∀ v' w', Grow w' base e size enc v' (l ++ ys) → Below base w w' → w.grownBy w' v.ownBlock → wpList P ops Q rest (a.put o.dst v') w') :
    wpList P ops Q (o :: rest) a w := by
  obtain ⟨i, hi, hzz⟩ := Option.map_eq_some_iff.1 hinfo
  simp only [Prod.mk.injEq] at hzz
  obtain ⟨hz, hs', hb'⟩ := hzz
  have hmul : (l.length + ys.length) * bytes ≤ 1000000000 * 1000 := Nat.mul_le_mul hn hb
  obtain ⟨g, off, hA, _, _⟩ := hr.at (k := 0) hne
  subst hA
  refine wpList_append_own (P := P) _ hgd s x t ho base e i z size bytes ht hi hz hs' hb' hzs hsz v l.length (flat enc l) hs hown ⟨g, off, none⟩ ys.length c (flat enc ys) hx (flat_len henc ys)
    (fun j u hu => by
      obtain ⟨i, hi, k, rfl, hk⟩ := flat_inv henc ys j u hu
      obtain ⟨g', off', hA', _, hcell⟩ := hr.at hi
      simp only [Option.some.injEq, Addr.mk.injEq, and_true] at hA'
      obtain ⟨rfl, rfl⟩ := hA'
      have e : (⟨g, off, none⟩ : Addr).add (i * size + k) = ⟨g, off + (i * size + k), none⟩ := by unfold Addr.add; split <;> simp_all
      rw [e]; exact hcell k u hk) (fun u hu => by
      obtain ⟨j, hj⟩ := List.getElem?_of_mem hu
      obtain ⟨i, hi, k, _, hk⟩ := flat_inv henc ys j u hj
      exact h1 _ u (List.mem_of_getElem? hk)) (by unfold maxLen; omega) (by omega) hbase ?_
  intro v' w' hown' hg _
  have hr : ∀ k, v.ownBlock = some k → base ≤ k := fun k hk => by
    rcases hown.2 with ⟨rfl, _⟩ | ⟨g, cap, cur, rfl, hbg, _⟩
    · simp [Value.ownBlock] at hk
    · simp [Value.ownBlock] at hk; omega
  refine h v' w' ?_ ?_ hg
  · unfold Grow
    rw [List.length_append, flat_append]
    exact hown'
  · exact (Below.refl base w).grown hg hbase hr
end
theorem Grow.capN {α : Type} {w : World} {base : Nat} {e : TypeId} {size : Nat} {enc : α → List Value} {l : List α} {A : Option Addr} {n c : Nat} (h : Grow w base e size enc (.slice A n c) l) : n ≤ c := by
  rcases h.2 with ⟨h1, h2⟩ | ⟨g, cap, cur, h1, h2, h3, h4, h5, _⟩
  · injection h1 with _ e1 e2; omega
  · injection h1 with _ e1 e2; omega
section
variable {w : World} {b c g : Nat} {l : List Int}
theorem OwnL.some_of {A : Option Addr} (h : OwnL w b c A 1 encInt l) (hl : 0 < l.length) : ∃ g, A = some ⟨g, 0, none⟩ ∧ b ≤ g ∧ g < c ∧ g < w.heap.size := by
  obtain ⟨g, f, hA, h1, h2, h3⟩ := h.cells hl
  exact ⟨g, hA, h1, h2, h3.lt⟩
theorem OwnL.cellInt (h : OwnL w b c (some ⟨g, 0, none⟩) 1 encInt l) (k : Nat) (hk : k < l.length) : w.cell? ⟨g, k, none⟩ = some (.int .i64 l[k]) ∧ w.frozen? ⟨g, k, none⟩ = false := by
  rcases h with h | ⟨g', f, hA, h1, h2, h3, h4⟩
  · subst h; simp at hk
  · simp only [Option.some.injEq, Addr.mk.injEq, and_true] at hA
    subst hA
    have := h4 k hk 0 _ rfl
    have hc := h3.cell (i := k) (by omega)
    rw [Nat.mul_one, Nat.add_zero] at this
    rw [this] at hc
    exact ⟨hc, h3.free (by omega)⟩
theorem OwnL.setInt (h : OwnL w b c (some ⟨g, 0, none⟩) 1 encInt l) (k : Nat) (hk : k < l.length) (v : Int) : OwnL (w.setCell ⟨g, k, none⟩ (.int .i64 v)) b c (some ⟨g, 0, none⟩) 1 encInt (l.set k v) := by
  rcases h with h | ⟨g', f, hA, h1, h2, h3, h4⟩
  · subst h; simp at hk
  · simp only [Option.some.injEq, Addr.mk.injEq, and_true] at hA
    subst hA
    refine .inr ⟨g, _, rfl, h1, h2, by rw [List.length_set]; exact h3.set (i := k) (by omega) _, fun i hi j u hu => ?_⟩
    have hj : j = 0 := by have := (List.getElem?_eq_some_iff.1 hu).1; simp [encInt] at this; exact this
    subst hj
    by_cases e : i = k
    · subst e
      rw [List.getElem_set_self] at hu
      rw [Nat.mul_one, Nat.add_zero, upd_same]
      simpa [encInt] using hu
    · rw [List.getElem_set_ne (by omega)] at hu
      rw [Nat.mul_one, Nat.add_zero, upd_other _ _ _ _ (by omega)]
      have := h4 i (by simpa using hi) 0 u hu
      rw [Nat.mul_one, Nat.add_zero] at this
      exact this
end
end Go.Proofs.YtbfhfnejppfehaaGreat

/-
  Rounds; lists of strings and methods copied: contracts of both sides.
-/
namespace Go.Proofs.YtbfhfnejppfehaaGreat
open Go.RowKit
set_option linter.unusedVariables false
set_option linter.unusedSimpArgs false
set_option maxRecDepth 100000

def eightS : ByteArray := ⟨#[49, 50, 51, 52, 53, 54, 55, 56]⟩
/-- Rounds. -/
def roundsS (n : Int) : ByteArray := eightS.extract 0 n.toNat
theorem roundsS_size {n : Int} (h0 : 0 ≤ n) (h8 : n ≤ 8) : (roundsS n).size = n.toNat := by
  unfold roundsS; rw [size_ext]
  have : eightS.size = 8 := rfl
  omega

theorem rounds_any (n : Int) (w : World) (h0 : 0 ≤ n) (h8 : n ≤ 8) : Calls Tryz.prog 81 #[.int .i64 n] w fun e w' => e = .returned (.string (roundsS n)) ∧ w = w' := by
  have hz : (⟨#[49, 50, 51, 52, 53, 54, 55, 56]⟩ : ByteArray).size = 8 := rfl
  go_enter Tryz.func81, Tryz.ntmps81
  go_wp2
  go_ret
  exact ⟨rfl, rfl⟩
theorem l1Rounds_any (n : Int) (w : World) (h0 : 0 ≤ n) (h8 : n ≤ 8) : Calls Tryz.prog 76 #[.int .i64 n] w fun e w' => e = .returned (.string (roundsS n)) ∧ w = w' := by
  have hz : (⟨#[49, 50, 51, 52, 53, 54, 55, 56]⟩ : ByteArray).size = 8 := rfl
  go_enter Tryz.func76, Tryz.ntmps76
  go_wp2
  go_ret
  exact ⟨rfl, rfl⟩

theorem l1OwnS_any (l : List ByteArray) (A : Option Addr) (c : Nat) (w : World) (h : RdL w w.heap.size A 1 encString l) (hl : l.length ≤ 1048576) (h0 : 0 < l.length) :
    Calls Tryz.prog 141 #[.slice A l.length c] w fun e w' => ∃ A' c', e = .returned (.slice A' l.length c') ∧ OwnL w' w.heap.size w'.heap.size A' 1 encString l ∧ l.length ≤ c' ∧ Below w.heap.size w w' := by
  have hq : ∀ (w : World) (a : Option Addr) (n c : Nat), (binOp .eql 25 (.slice a n c) (.slice none 0 0)).run Tryz.prog w = .ok (.bool a.isNone) w := fun w a n c => Lib.run_eql_slice_nil w _ 9 a n c 0 0 rfl
  obtain ⟨g, off, hA, _, _⟩ := h.at h0
  subst hA
  have H := Lib.hid h
  clear h
  go_enter Tryz.func141, Tryz.ntmps141
  go_wp2_with (at_builtin; refine wpList_pushAll rfl _ _ 25 rfl w.heap.size 9 _ 1 16 encString rfl String_info rfl (by omega) _ [] l _ _ w.heap.size rfl rfl (H.out.below ((Below.refl _ _).alloc (Nat.le_refl _) _) (Nat.le_refl _)) h0 (Grow.empty (Nat.le_refl _)) encString_len (by simp [encString, Value.oneCell']) (by first | (simp; done) | (simp; omega)) (by omega) (by simp) ?_; intro v' w2 hg2 hb2 hgb)
  go_ret
  obtain ⟨A', c', hv, ho⟩ := hg2.own encString_len
  subst hv
  exact ⟨A', c', rfl, ho, hg2.capN, ((Below.refl _ _).alloc (Nat.le_refl _) _).trans hb2⟩
theorem withChanges_any (m : Mth) (A' : Option Addr) (n c' : Nat) (w : World) :
    Calls Tryz.prog 218 #[.agg #[.string m.name, .int .i64 m.stage, .slice m.A m.x.length m.c], .slice A' n c'] w fun e w' => e = .returned (.agg #[.string m.name, .int .i64 m.stage, .slice A' n c']) ∧ Below w.heap.size w w' := by
  go_enter Tryz.func218, Tryz.ntmps218
  go_wp2
  refine bodyPost_ret (v := .agg #[.string m.name, .int .i64 m.stage, .slice A' n c']) (by simp [results, Tryz.results218, go_sem]) rfl ⟨rfl, ?_⟩
  repeat (first | exact Below.refl _ _ | refine Below.setCell ?_ (by simp <;> omega) _ | refine Below.alloc ?_ (by simp <;> omega) _)
end Go.Proofs.YtbfhfnejppfehaaGreat

/-
  Contracts of the helper functions that the laws use for lists of Ringer.
-/
namespace Go.Proofs.YtbfhfnejppfehaaGreat
open Go.RowKit Go.ChangeShapes Go.WideShapes
set_option linter.unusedVariables false
set_option linter.unusedSimpArgs false
set_option maxRecDepth 100000


structure Rgr where
  place : Int
  deaf : Bool

def Rgr.enc (x : Rgr) : List Value := [.int .i64 x.place, .bool x.deaf]
theorem Rgr_enc_len (x : Rgr) : (Rgr.enc x).length = 2 := rfl
def Ringer_small (lim : Int) (x : Rgr) : Prop := True
/-- What the marks make of a list of so many elements. -/
def markRingerL (m q : Nat) : List Rgr := (List.range m).map fun i : Nat => (⟨((q + i * 2 : Nat) : Int), (((q + i * 2 + 1) % 3 == 0))⟩ : Rgr)
theorem markRingerL_len (m q : Nat) : (markRingerL m q).length = m := by simp [markRingerL]
theorem markRingerL_at (m q i : Nat) (hi : i < (markRingerL m q).length) : (markRingerL m q)[i] = (⟨((q + i * 2 : Nat) : Int), (((q + i * 2 + 1) % 3 == 0))⟩ : Rgr) := by simp [markRingerL]
theorem markRinger_enc (q k : Nat) : Rgr.enc (⟨((q + k * 2 : Nat) : Int), (((q + k * 2 + 1) % 3 == 0))⟩ : Rgr) = [.int .i64 ((q : Int) + (k : Int) * 2), .bool (((q : Int) + (k : Int) * 2 + 1) % 3 == 0)] := by
  have e1 : ((q + k * 2 : Nat) : Int) = (q : Int) + (k : Int) * 2 := by omega
  have e2 : ((q + k * 2 + 1) % 3 == 0) = (((q : Int) + (k : Int) * 2 + 1) % 3 == 0) := by
    rw [Bool.eq_iff_iff, beq_iff_eq, beq_iff_eq]; omega
  simp only [Rgr.enc, e1, e2]
end Go.Proofs.YtbfhfnejppfehaaGreat
/-
  Contracts: valid bands (both sides).
-/
namespace Go.Proofs.YtbfhfnejppfehaaGreat
open Go.RowKit
set_option linter.unusedVariables false
set_option linter.unusedSimpArgs false
set_option maxRecDepth 100000

/-- A band in memory. -/
structure Bnd where
  m : Mth
  bob : ByteArray
  sing : ByteArray
  step : Int
  call : ByteArray
  tru : ByteArray
  rx : List Rgr
  RA : Option Addr
  rc : Nat
def Bnd.enc (b : Bnd) : List Value := [.string b.m.name, .int .i64 b.m.stage, .slice b.m.A b.m.x.length b.m.c, .string b.bob, .string b.sing, .int .i64 b.step, .string b.call, .string b.tru, .slice b.RA b.rx.length b.rc]
def bandP (b : Bnd) : Prop := callsP b.m b.bob b.sing ∧ inB b.step 0 ((b.m.x.length : Int) - 1) ∧ isCallP b.call ∧ isRowOf b.m.stage b.tru ∧ (b.rx.length : Int) = b.m.stage ∧ ∀ (i : Nat) (hi : i < b.rx.length), inB b.rx[i].place 1 b.m.stage
/-- Its lists read, and all is small. -/
structure Bnd.Ok (b : Bnd) (w : World) : Prop where
  ch : RdL w w.heap.size b.m.A 1 encString b.m.x
  ri : RdL w w.heap.size b.RA 2 Rgr.enc b.rx
  nm : b.m.name.size ≤ 1048576
  cl : b.m.x.length ≤ 1048576
  cs : ∀ x ∈ b.m.x, String_small 1048576 x
  bs : b.bob.size ≤ 1048576
  ss : b.sing.size ≤ 1048576
  ks : b.call.size ≤ 1048576
  ts : b.tru.size ≤ 1048576
  rl : b.rx.length ≤ 1048576






end Go.Proofs.YtbfhfnejppfehaaGreat

/-
  Contracts of the helper functions that the laws use for methods, calls and bands.
-/
namespace Go.Proofs.YtbfhfnejppfehaaGreat
open Go.RowKit Go.ChangeShapes Go.WideShapes Go.Deep
set_option linter.unusedVariables false
set_option linter.unusedSimpArgs false
set_option maxRecDepth 100000

/-- Sizes that the machine's integers hold. -/
structure Mth.Fits (m : Mth) : Prop where
  nm : (m.name.size : Int) ≤ 9223372036854775807
  cl : m.x.length ≤ 9223372036854775807
  cs : ∀ x ∈ m.x, String_small 9223372036854775807 x
theorem szMethod_any (m : Mth) (left : Int) (w : World) (h : RdL w w.heap.size m.A 1 encString m.x) (hf : m.Fits) (h1 : 0 ≤ left) (h2 : left ≤ 1048576) :
    Calls Tryz.prog 17 #[.agg #[.string m.name, .int .i64 m.stage, .slice m.A m.x.length m.c], .int .i64 left] w fun e w' => ∃ r, e = .returned (.int .i64 r) ∧ (r = -1 ∨ (0 ≤ r ∧ r ≤ left ∧ (m.name.size : Int) ≤ left ∧ (m.x.length : Int) ≤ left ∧ ∀ x ∈ m.x, String_small left x)) ∧ Below w.heap.size w w' := by
  obtain ⟨s0, s1, s2⟩ := hf
  have Hs := Lib.hid s2
  clear s2
  have hb2 : Hid (Below w.heap.size w (w.alloc (.cells #[.string m.name, .int .i64 m.stage, .slice m.A m.x.length m.c] 45))) := Lib.hid ((Below.refl _ _).alloc (Nat.le_refl _) _)
  have H2 : Hid (RdL (w.alloc (.cells #[.string m.name, .int .i64 m.stage, .slice m.A m.x.length m.c] 45)) (w.alloc (.cells #[.string m.name, .int .i64 m.stage, .slice m.A m.x.length m.c] 45)).heap.size m.A 1 encString m.x) := Lib.hid ((h.below hb2.out (Nat.le_refl _)).more hb2.out.size)
  clear h
  by_cases hn : left < m.name.size
  · go_enter Tryz.func17, Tryz.ntmps17
    go_wp2
    go_ret
    exact ⟨_, rfl, .inl rfl, hb2.out⟩
  · go_enter Tryz.func17, Tryz.ntmps17
    go_wp2_with (go_at_call 74; refine (szStringS_any m.x m.A m.c (left - m.name.size) _ H2.out s1 (by omega) (by omega) Hs.out).mono ?_; rintro e w' ⟨r, rfl, hz, hb⟩; have Hz := Lib.hid hz; clear hz)
    all_goals have hb3 := hb2.out.trans (hb.mono hb2.out.size)
    all_goals
      first
        | (go_ret
           exact ⟨-1, rfl, .inl rfl, hb3⟩)
        | (have hz2 := Hz.out.resolve_left (by omega)
           go_ret
           exact ⟨_, rfl, .inr ⟨by omega, by omega, by omega, by omega, fun x hx => by have := hz2.2.2.2 x hx; simp only [String_small] at this ⊢; omega⟩, hb3⟩)
theorem szCalls_any (b s : ByteArray) (left : Int) (w : World) (hb : (b.size : Int) ≤ 9223372036854775807) (hs : (s.size : Int) ≤ 9223372036854775807) (h1 : 0 ≤ left) (h2 : left ≤ 1048576) :
    Calls Tryz.prog 18 #[.agg #[.string b, .string s], .int .i64 left] w fun e w' => ∃ r, e = .returned (.int .i64 r) ∧ (r = -1 ∨ (0 ≤ r ∧ r ≤ left ∧ (b.size : Int) ≤ left ∧ (s.size : Int) ≤ left)) ∧ Below w.heap.size w w' := by
  go_enter Tryz.func18, Tryz.ntmps18
  go_wp2
  all_goals
    go_ret
    refine ⟨_, rfl, ?_, (by repeat (first | exact Below.refl _ _ | (refine Below.alloc ?_ (by simp <;> omega) _)))⟩
    first
      | exact .inl rfl
      | exact .inr ⟨by omega, by omega, by omega, by omega⟩
theorem toCalls_any (b s : ByteArray) (w : World) :
    Calls Tryz.prog 22 #[.agg #[.string b, .string s]] w fun e w' => e = .returned (.agg #[.string b, .string s]) ∧ Below w.heap.size w w' := by
  go_enter Tryz.func22, Tryz.ntmps22
  go_wp2
  refine bodyPost_ret (v := .agg #[.string b, .string s]) (by simp [results, Tryz.results22, go_sem]) rfl ⟨rfl, ?_⟩
  exact (((Below.refl _ _).alloc (Nat.le_refl _) _).alloc (by simp) _).alloc (by simp <;> omega) _
theorem eqMethod_t (m : Mth) (A' : Option Addr) (c' : Nat) (w : World) (h : RdL w w.heap.size m.A 1 encString m.x) (h' : RdL w w.heap.size A' 1 encString m.x) (hl : m.x.length ≤ 1048576) :
    Calls Tryz.prog 26 #[.agg #[.string m.name, .int .i64 m.stage, .slice m.A m.x.length m.c], .agg #[.string m.name, .int .i64 m.stage, .slice A' m.x.length c']] w fun e w' => e = .returned (.bool true) ∧ Below w.heap.size w w' := by
  have H := Lib.hid h
  have H' := Lib.hid h'
  clear h h'
  have hbA : Hid (Below w.heap.size w ((w.alloc (.cells #[.string m.name, .int .i64 m.stage, .slice m.A m.x.length m.c] 54)).alloc (.cells #[.string m.name, .int .i64 m.stage, .slice A' m.x.length c'] 54))) := Lib.hid (((Below.refl _ _).alloc (Nat.le_refl _) _).alloc (by simp) _)
  have hbs := hbA.out.size
  go_enter Tryz.func26, Tryz.ntmps26
  go_wp2_with (go_at_call 25; refine (eqStringS_t m.x m.A A' m.c c' _ ((H.out.below hbA.out (Nat.le_refl _)).more hbs) ((H'.out.below hbA.out (Nat.le_refl _)).more hbs) (by omega)).mono ?_; rintro e w' ⟨rfl, hb2⟩)
  go_ret
  exact ⟨rfl, hbA.out.trans (hb2.mono hbs)⟩

set_option maxHeartbeats 1600000 in
theorem toMethod_any (m : Mth) (w : World) (h : RdL w w.heap.size m.A 1 encString m.x) (hl : m.x.length ≤ 1048576) :
    Calls Tryz.prog 21 #[.agg #[.string m.name, .int .i64 m.stage, .slice m.A m.x.length m.c]] w fun e w' => ∃ A' g, e = .returned (.agg #[.string m.name, .int .i64 m.stage, .slice A' m.x.length m.x.length]) ∧ w.heap.size ≤ g ∧ g < w'.heap.size ∧ OwnL w' g (g + 1) A' 1 encString m.x ∧ Below w.heap.size w w' := by
  have H := Lib.hid h
  clear h
  go_enter Tryz.func21, Tryz.ntmps21
  go_wp2_with (go_at_call 78; refine (toStringS_any m.x m.A m.c _ ((H.out.below (show Below w.heap.size w _ from by repeat (first | exact Below.refl _ _ | refine Below.alloc ?_ (by simp <;> omega) _)) (Nat.le_refl _)).more (by simp <;> omega)) hl).mono ?_; rintro e w1 ⟨A', rfl, ho, hb⟩; have q0 := (hb.cell (p := ⟨w.heap.size + 1 + 1, 0, none⟩) (by simp)).trans (show _ = some _ from by simp [go_sem]; rfl); have fq0 : w1.frozen? ⟨w.heap.size + 1 + 1, 0, none⟩ = false := (hb.frozen (p := ⟨w.heap.size + 1 + 1, 0, none⟩) (by simp)).trans (by simp [go_sem]); have q1 := (hb.cell (p := ⟨w.heap.size + 1 + 1, 1, none⟩) (by simp)).trans (show _ = some _ from by simp [go_sem]; rfl); have fq1 : w1.frozen? ⟨w.heap.size + 1 + 1, 1, none⟩ = false := (hb.frozen (p := ⟨w.heap.size + 1 + 1, 1, none⟩) (by simp)).trans (by simp [go_sem]); have q2 := (hb.cell (p := ⟨w.heap.size + 1 + 1, 2, none⟩) (by simp)).trans (show _ = some _ from by simp [go_sem]; rfl); have fq2 : w1.frozen? ⟨w.heap.size + 1 + 1, 2, none⟩ = false := (hb.frozen (p := ⟨w.heap.size + 1 + 1, 2, none⟩) (by simp)).trans (by simp [go_sem]); have p0 := (hb.cell (p := ⟨w.heap.size + 1, 0, none⟩) (by simp)).trans (show _ = some _ from by simp [go_sem]; rfl); have fp0 : w1.frozen? ⟨w.heap.size + 1, 0, none⟩ = false := (hb.frozen (p := ⟨w.heap.size + 1, 0, none⟩) (by simp)).trans (by simp [go_sem]); have p1 := (hb.cell (p := ⟨w.heap.size + 1, 1, none⟩) (by simp)).trans (show _ = some _ from by simp [go_sem]; rfl); have fp1 : w1.frozen? ⟨w.heap.size + 1, 1, none⟩ = false := (hb.frozen (p := ⟨w.heap.size + 1, 1, none⟩) (by simp)).trans (by simp [go_sem]); have p2 := (hb.cell (p := ⟨w.heap.size + 1, 2, none⟩) (by simp)).trans (show _ = some _ from by simp [go_sem]; rfl); have fp2 : w1.frozen? ⟨w.heap.size + 1, 2, none⟩ = false := (hb.frozen (p := ⟨w.heap.size + 1, 2, none⟩) (by simp)).trans (by simp [go_sem]))
  refine bodyPost_ret (v := .agg #[.string m.name, .int .i64 m.stage, .slice A' m.x.length m.x.length]) (by simp [results, Tryz.results21, go_sem, p0, p1, p2, q0, q1, q2]) rfl ?_
  have hs : w.heap.size + 3 ≤ w1.heap.size := by have := hb.size; simpa using this
  have hch : Chg (w.heap.size + 1) (w.heap.size + 3) w1 ((((w1.setCell ⟨w.heap.size + 1 + 1, 2, none⟩ (.slice A' m.x.length m.x.length)).setCell ⟨w.heap.size + 1, 0, none⟩ (.string m.name)).setCell ⟨w.heap.size + 1, 1, none⟩ (.int .i64 m.stage)).setCell ⟨w.heap.size + 1, 2, none⟩ (.slice A' m.x.length m.x.length)) :=
    ((((Chg.refl _ _ _).setCell (by simp) (by simp) _).setCell (by simp) (by simp) _).setCell (by simp) (by simp) _).setCell (by simp) (by simp) _
  have hbw : Below w.heap.size w w1 := (show Below w.heap.size w _ from by repeat (first | exact Below.refl _ _ | refine Below.alloc ?_ (by simp <;> omega) _)).trans (hb.mono (by simp <;> omega))
  refine ⟨A', ?_⟩
  rcases ho with h0 | ⟨g, f, hA, h1, h2, h3⟩
  · exact ⟨w.heap.size, rfl, Nat.le_refl _, by simp; omega, .inl h0, Below.chg hbw hch (by omega) (by omega)⟩
  · have h1' : w.heap.size + 3 ≤ g := by simpa using h1
    exact ⟨g, rfl, by omega, by simp; omega, (show OwnL w1 g (g + 1) A' 1 encString m.x from .inr ⟨g, f, hA, Nat.le_refl _, by omega, h3⟩).chg hch (by omega), Below.chg hbw hch (by omega) (by omega)⟩
/-- A band that the machine holds. -/
structure Bnd.Fits (b : Bnd) : Prop where
  me : b.m.Fits
  bs : (b.bob.size : Int) ≤ 9223372036854775807
  ss : (b.sing.size : Int) ≤ 9223372036854775807
  ks : (b.call.size : Int) ≤ 9223372036854775807
  ts : (b.tru.size : Int) ≤ 9223372036854775807
  rl : b.rx.length ≤ 9223372036854775807
/-- All sizes of a band are small. -/
def Bnd.Small (b : Bnd) (lim : Int) : Prop := (b.m.name.size : Int) ≤ lim ∧ (b.m.x.length : Int) ≤ lim ∧ (∀ x ∈ b.m.x, String_small lim x) ∧ (b.bob.size : Int) ≤ lim ∧ (b.sing.size : Int) ≤ lim ∧ (b.call.size : Int) ≤ lim ∧ (b.tru.size : Int) ≤ lim ∧ (b.rx.length : Int) ≤ lim


theorem markMethod_any (m : Mth) (lo hi q : Nat) (w : World) (h : OwnL w lo hi m.A 1 encString m.x) (hhi : hi ≤ w.heap.size) (hl : m.x.length ≤ 1048576) (hq0 : 0 < q) (hq : q ≤ 90000000000) :
    Calls Tryz.prog 28 #[.agg #[.string m.name, .int .i64 m.stage, .slice m.A m.x.length m.c], .int .i64 q] w fun e w' => e = .returned (.int .i64 ((q + m.x.length : Nat) : Int)) ∧ Chg lo hi w w' := by
  have hb0 : Hid (Below w.heap.size w (w.alloc (.cells #[.string m.name, .int .i64 m.stage, .slice m.A m.x.length m.c] 54))) := Lib.hid ((Below.refl _ _).alloc (Nat.le_refl _) _)
  have H := Lib.hid (h.later hb0.out)
  clear h
  go_enter Tryz.func28, Tryz.ntmps28
  go_wp2_with (go_at_call 30; refine (markStringS_any m.x lo hi m.A m.c q _ H.out hl hq0 (by omega)).mono ?_; rintro e w1 ⟨he, ho, hc⟩; rw [Nat.mul_one] at he; subst he)
  go_ret
  exact ⟨rfl, (Chg.of_below hb0.out).trans hc⟩
end Go.Proofs.YtbfhfnejppfehaaGreat
