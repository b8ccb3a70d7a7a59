import Derived.Test.YtbfhfnejppfehaaRows
import Derived.Test.YtbfhfnejppfehaaMSlipsL02
import Derived.ProofKit
import Derived.OpenShut
import Derived.ShutString
import Derived.Below
import Derived.Carry
import Derived.Deep.Slices
import Derived.Deep.Fields
import Derived.StillTailTactics
import Derived.Deep.RegionHeld3
import Derived.Test.YtbfhfnejppfehaaMSlipsL01
/-
  Contract of markText: the mark of a number.
-/
namespace Go.Proofs.Ytbfhfnejppfehaa
open Go.RowKit
set_option linter.unusedVariables false
set_option linter.unusedSimpArgs false
set_option maxRecDepth 100000

/-- What a law's size function tells: too large, or what is left. -/
def SzOk (r left : Int) (n : Nat) (sm : Prop) : Prop := r < 0 ∨ (0 ≤ r ∧ r ≤ left ∧ (n : Int) ≤ left ∧ sm)
/-- The decimal digits of a number, none for 0. -/
def digN : Nat → Nat → List Int
  | 0, _ => []
  | f + 1, k => if k = 0 then [] else digN f (k / 10) ++ [48 + ((k % 10 : Nat) : Int)]
theorem digN_fuel : ∀ (f g k : Nat), k ≤ f → k ≤ g → digN f k = digN g k := by
  intro f
  induction f with
  | zero => intro g k h1 h2; obtain rfl : k = 0 := by omega
            cases g <;> simp [digN]
  | succ f ih =>
    intro g k h1 h2
    cases g with
    | zero => obtain rfl : k = 0 := by omega
              simp [digN]
    | succ g =>
      simp only [digN]
      by_cases h : k = 0
      · rw [if_pos h, if_pos h]
      · rw [if_neg h, if_neg h, ih g (k / 10) (by omega) (by omega)]
def digs (k : Nat) : List Int := digN k k
theorem digs_zero : digs 0 = [] := rfl
theorem digs_pos (k : Nat) (h : 0 < k) : digs k = digs (k / 10) ++ [48 + ((k % 10 : Nat) : Int)] := by
  unfold digs
  obtain ⟨m, rfl⟩ : ∃ m, k = m + 1 := ⟨k - 1, by omega⟩
  conv => lhs; unfold digN
  rw [if_neg (by omega), digN_fuel m ((m + 1) / 10) ((m + 1) / 10) (by omega) (Nat.le_refl _)]
theorem digs_len (k : Nat) : (digs k).length ≤ k := by
  induction k using Nat.strongRecOn with
  | ind k ih =>
    rcases Nat.eq_zero_or_pos k with rfl | h
    · simp [digs_zero]
    · rw [digs_pos k h, List.length_append]; have := ih (k / 10) (by omega); simp; omega
theorem mkS_app (l m : List Int) : mkS l ++ mkS m = mkS (l ++ m) := by
  apply ByteArray.ext
  simp [mkS, ByteArray.data_append]
/-- The mark of a number from 1 on. -/
def markT (k : Nat) : ByteArray := mkS ([109] ++ digs k)

set_option maxHeartbeats 800000 in
theorem markText_any (k : Nat) (w : World) (h0 : 0 < k) (hk : k ≤ 1000000000000) :
    Calls Try.prog 83 #[.int .i64 k] w fun e w' => e = .returned (.string (markT k)) ∧ Below w.heap.size w w' := by
  go_enter Try.func83, Try.ntmps83
  go_wp2
  go_loopw [0, 3] (fun i s wr => ∃ (m : Nat) (t : List Int), i = .int .i64 m ∧ s = .string (mkS t) ∧ t.length + m ≤ k ∧ Hid (digs k = digs m ++ t) ∧ Below w.heap.size w wr) (fun i _ _ => (intOf i).toNat)
  case atStart => exact ⟨k, [], rfl, by simp [mkS], by simp, by show _ = _; simp, Below.refl _ _⟩
  case round =>
    obtain ⟨m, t, rfl, rfl, hl, he, hbl⟩ := hrel
    have Hbl := Lib.hid hbl
    clear hbl
    have hsz : (mkS t).size ≤ k := by rw [size_mkS]; omega
    by_cases hlt : 0 < m
    · have hm9 : (m : Int) % 10 < 10 := by omega
      have hm0 : 0 ≤ (m : Int) % 10 := by omega
      have hs1 := size_mkS [48 + (m : Int) % 10]
      have Hs1 := Lib.hid hs1
      clear hs1
      have hs1 : (mkS [48 + (m : Int) % 10]).size ≤ 1 := by rw [Hs1.out]; simp
      go_wp2
      go_roundw
      case rel =>
        refine ⟨m / 10, (48 + (m : Int) % 10) :: t, by simp, by rw [mkS_app]; rfl, by simp; omega, ?_, Hbl.out.alloc (by have := Hbl.out.size; omega) _⟩
        show _ = _
        rw [he.out, digs_pos m hlt]
        simp
      case measure => simp [intOf]; omega
    · go_wp2
      go_ret
      obtain rfl : m = 0 := by omega
      refine ⟨ret_str ?_, Hbl.out⟩
      have e := he.out
      rw [digs_zero, List.nil_append] at e
      unfold markT
      rw [e, ← mkS_app]
      rfl
end Go.Proofs.Ytbfhfnejppfehaa

/-
  A law's last step, once for all: a call that answers true and leaves every block that was there as it was meets the row's post.
-/
namespace Go.Proofs.Ytbfhfnejppfehaa
open Go.ChangeShapes Go.WideShapes Go.ChangeAt Go.RowKit

theorem trodAll_below {H : Type} {enc : TypeId × Value → H} {P : Program} (hl : laidOutB P = true) {W W' : World} (hb : Below W.heap.size W W') :
    ∀ (ts : List TypeId) (vs : List Value) (ds : List (DataW H)) (ps : List MemPlace), ts.all (fun t => P.readableRec t && decide (t < P.types.size)) = true →
      DataW.TrodAll enc P W 0 (fun _ => true) true ts vs ds ps → (∀ x ∈ ps, x.block < W.heap.size) →
      DataW.TrodAll enc P W' 0 (fun b => decide (b < W.heap.size)) true ts vs ds ps := by
  intro ts
  induction ts with
  | nil =>
    intro vs ds ps _ h _
    obtain ⟨rfl, rfl, rfl⟩ := trodAll_nil h
    exact trodAll_mk0
  | cons t ts ih =>
    intro vs ds ps hr h hlt
    obtain ⟨v, vs', d, ds', p, q, rfl, rfl, rfl, h0, h1⟩ := trodAll_cons h
    rw [List.all_cons, Bool.and_eq_true, Bool.and_eq_true, decide_eq_true_eq] at hr
    exact trodAll_cons_mk (Below.trod hl hr.1.1 hr.1.2 h0 hb (fun x hx => hlt x (List.mem_append.2 (.inl hx)))) (ih _ _ _ hr.2 h1 (fun x hx => hlt x (List.mem_append.2 (.inr hx))))

theorem law_post {H : Type} {enc : TypeId × Value → H} {P : Program} {f : Func} {s : ChangeSpec} {apart : Bool} {W W' : World} {args : Array Value} {ds : List (DataW H)} {before : List MemPlace} {tb : TypeId}
    (hl : laidOutB P = true) (hr : f.params.toList.all (fun t => P.readableRec t && decide (t < P.types.size)) = true)
    (ht : f.resultTypes = #[tb]) (hu : P.underlying tb = some .bool) (hv : s.vars = []) (hs : s.fn H (ds ++ []) = { results := [.lit (.bool true)], args := ds })
    (hW : DataW.Whole enc P f.params.toList s.vars apart W args.toList ds [] before) (hb : Below W.heap.size W W') :
    s.post enc P f apart true false false W args (.bool true) W' := by
  have hlt : ∀ p ∈ before, p.block < W.heap.size := fun p hp => by simpa using hW.lt p hp
  have hW' := hW
  obtain ⟨p, q, hA, hV, rfl, _, _⟩ := hW
  rw [hv] at hV
  obtain ⟨_, rfl⟩ := trodVars_none hV
  refine ⟨ds, [], p ++ [], [], p, [], hW', ?_, ?_, ?_, World.keptBut_mono (fun x hx => ⟨hx, ?_⟩) (hb.frame (· ∈ p ++ [])), fun h => by cases h⟩
  · rw [hs, ht]
    exact trodAll_cons_mk (shut_bool hu _) trodAll_mk0
  · rw [hs]
    exact trodAll_below hl hb _ _ _ _ hr hA (fun x hx => hlt x (List.mem_append.2 (.inl hx)))
  · rw [hs, hv]
    rfl
  · right; left; simpa using hx
end Go.Proofs.Ytbfhfnejppfehaa

/-
  A law's arguments, opened: a slice reads as a list of elements; a struct by value.
-/
namespace Go.Proofs.Ytbfhfnejppfehaa
open Go.ChangeShapes Go.WideShapes Go.ChangeAt Go.RowKit Go.Deep
set_option linter.unusedVariables false
set_option linter.unusedSimpArgs false

theorem choose_list {α : Type} (Q : Nat → α → Prop) : ∀ n, (∀ i, i < n → ∃ x, Q i x) → ∃ l : List α, l.length = n ∧ ∀ (i : Nat) (hi : i < l.length), Q i l[i]
  | 0, _ => ⟨[], rfl, fun i hi => by simp at hi⟩
  | n + 1, h => by
    obtain ⟨l, hl, hq⟩ := choose_list Q n (fun i hi => h i (by omega))
    obtain ⟨x, hx⟩ := h n (by omega)
    refine ⟨l ++ [x], by simp [hl], fun i hi => ?_⟩
    by_cases e : i < l.length
    · rw [List.getElem_append_left e]; exact hq i e
    · obtain rfl : i = n := by simp at hi; omega
      rw [List.getElem_append_right (by omega)]
      simpa using hx

section
variable {H : Type} {enc : TypeId × Value → H} {P : Program} {w : World} {base : Nat} {spare : Nat → Bool} {held : Bool}
theorem open_list {α : Type} {r : Reach} {b0 : Nat} {t e : TypeId} {v : Value} {d : DataW H} {p : List MemPlace} (ht : P.underlying t = some (.slice e)) (C : Nat) (hC : P.cellsOf e = C) (hC0 : 0 < C)
    (en : α → List Value) (ok : α → Prop) (hel : ∀ (n : Nat) (cs : List Value) (y : DataW H × List MemPlace), DataW.trod enc P w base spare held n e cs = some y → ∃ x : α, cs = en x ∧ ok x)
    (hv : Value.okWide P w r b0 t v) (h : DataW.Trod enc P w base spare held t v d p) :
    ∃ (A : Option Addr) (l : List α) (c : Nat), v = .slice A l.length c ∧ l.length ≤ maxLen ∧ RdL w w.heap.size A C en l ∧ ∀ x ∈ l, ok x := by
  obtain ⟨a0, len, cap, rfl⟩ := okWide_slice ht hv
  obtain ⟨fuel, hf⟩ := h
  have hf' : DataW.trod enc P w base spare held fuel t [.slice a0 len cap] = some (d, p) := by simpa [Value.cells] using hf
  rcases open_slice ht hf' with ⟨h0, _⟩ | ⟨a, len', cap', m, n, D, Pl, hcs, _, hl, hm, hmm, _, hi⟩
  · simp only [List.cons.injEq, Value.slice.injEq, and_true] at h0
    obtain ⟨rfl, rfl, rfl⟩ := h0
    exact ⟨none, [], 0, rfl, by simp, .inl rfl, by simp⟩
  · simp only [List.cons.injEq, Value.slice.injEq, and_true] at hcs
    obtain ⟨rfl, rfl, rfl⟩ := hcs
    have hle : len ≤ m := by rw [hmm]; split <;> omega
    obtain ⟨l, hlen, hq⟩ := choose_list (fun i x => (∀ (j : Nat) (u : Value), (en x)[j]? = some u → w.cell? (a.add (i * C + j)) = some u) ∧ ok x) len (fun i hi' => by
      obtain ⟨cs', hc, ht'⟩ := hi i (by omega)
      obtain ⟨x, rfl, hok⟩ := hel _ _ _ ht'
      rw [hC] at hc
      obtain ⟨_, hcl, hat⟩ := World.cells?_some hc
      refine ⟨x, fun j u hu => ?_, hok⟩
      have hj : j < C := by rw [← hcl]; exact (List.getElem?_eq_some_iff.1 hu).1
      rw [← Go.Deep.add_add, hat j hj, hu])
    subst hlen
    refine ⟨some a, l, cap, rfl, by omega, ?_, fun x hx => ?_⟩
    · rcases Nat.eq_zero_or_pos l.length with h0 | hpos
      · exact .inl (List.eq_nil_of_length_eq_zero h0)
      · -- the address has no spot
        obtain ⟨cs', hc, ht'⟩ := hi 0 (by omega)
        obtain ⟨x, rfl, _⟩ := hel _ _ _ ht'
        rw [hC] at hc
        obtain ⟨_, hcl, hat⟩ := World.cells?_some hc
        have h00 := hat 0 hC0
        have hadd : (a.add (0 * C)).add 0 = a := by rw [Nat.zero_mul]; unfold Addr.add; simp
        rw [hadd, List.getElem?_eq_getElem (by omega)] at h00
        have hlt := World.block_lt_of_cell? _ _ h00
        obtain ⟨g, off, sp⟩ := a
        have hsp : sp = none := by
          unfold World.cell? at h00
          split at h00
          · cases sp with
            | none => rfl
            | some _ => simp at h00
          · cases h00
        subst hsp
        refine .inr ⟨g, off, rfl, hlt, fun i hi' j u hu => ?_⟩
        have := (hq i hi').1 j u hu
        have e : (⟨g, off, none⟩ : Addr).add (i * C + j) = ⟨g, off + (i * C + j), none⟩ := by unfold Addr.add; split <;> simp_all
        rw [e] at this
        exact this
    · obtain ⟨i, hi', rfl⟩ := List.getElem_of_mem hx
      exact (hq i hi').2
theorem open_struct {α : Type} {r : Reach} {b0 : Nat} {t : TypeId} {fs : Array Field} {v : Value} {d : DataW H} {p : List MemPlace} (ht : P.underlying t = some (.struct fs))
    (en : α → List Value) (ok : α → Prop) (hel : ∀ (n : Nat) (cs : List Value) (y : DataW H × List MemPlace), DataW.trod enc P w base spare held n t cs = some y → ∃ x : α, cs = en x ∧ ok x)
    (hv : Value.okWide P w r b0 t v) (h : DataW.Trod enc P w base spare held t v d p) : ∃ x : α, v = .agg (en x).toArray ∧ ok x := by
  obtain ⟨cs, rfl, hsz⟩ := okWide_struct ht hv
  obtain ⟨fuel, hf⟩ := h
  obtain ⟨x, hx, hok⟩ := hel _ _ _ hf
  refine ⟨x, ?_, hok⟩
  have : cs.toList = en x := by simpa [Value.cells] using hx
  rw [← this]
end
end Go.Proofs.Ytbfhfnejppfehaa

/-
  Contracts of the helper functions that the laws use for lists of Int.
-/
namespace Go.Proofs.Ytbfhfnejppfehaa
open Go.RowKit Go.ChangeShapes Go.WideShapes
set_option linter.unusedVariables false
set_option linter.unusedSimpArgs false
set_option maxRecDepth 100000


def encInt (x : Int) : List Value := [.int .i64 x]
theorem encInt_len (x : Int) : (encInt x).length = 1 := rfl
def Int_small (lim : Int) (x : Int) : Prop := True
theorem Int_info : (Try.prog.info? 3).map (fun i => (i.zero, i.size, i.bytes)) = some (some (.int .i64 0), 1, 8) := by kernel_rfl

/-- What the marks make of a list of so many elements. -/
def markIntL (m q : Nat) : List Int := (List.range m).map fun i : Nat => (((q + i : Nat) : Int) : Int)
theorem markIntL_len (m q : Nat) : (markIntL m q).length = m := by simp [markIntL]
theorem markIntL_at (m q i : Nat) (hi : i < (markIntL m q).length) : (markIntL m q)[i] = (((q + i : Nat) : Int) : Int) := by simp [markIntL]
end Go.Proofs.Ytbfhfnejppfehaa
/-
  Contracts: valid changes (both sides).
-/
namespace Go.Proofs.Ytbfhfnejppfehaa
open Go.RowKit
set_option linter.unusedVariables false
set_option linter.unusedSimpArgs false
set_option maxRecDepth 100000

def dash : ByteArray := ⟨#[45]⟩
/-- The place that byte i tells; the one ahead of it (none: 0). -/
def dg (c : ByteArray) (i : Nat) : Int := bat c i - 48
def dgP (c : ByteArray) : Nat → Int
  | 0 => 0
  | i + 1 => dg c i
def stepP (n : Int) (c : ByteArray) (i : Nat) : Prop := dgP c i < dg c i ∧ dg c i ≤ n ∧ (dg c i - dgP c i) % 2 ≠ 0
def chainP (n : Int) (c : ByteArray) : Prop := (∀ i, i < c.size → stepP n c i) ∧ (n - dgP c c.size) % 2 = 0
def changeP (n : Int) (c : ByteArray) : Prop := inB n 3 8 ∧ ((c = dash ∧ n % 2 = 0) ∨ (c ≠ dash ∧ 0 < c.size ∧ (c.size : Int) ≤ n - 2 ∧ chainP n c))
theorem dash_size : dash.size = 1 := rfl
theorem size_zero {c : ByteArray} (h : c.size = 0) : c = ⟨#[]⟩ := by
  apply ByteArray.ext
  exact Array.eq_empty_of_size_eq_zero h
theorem toList_len (c : ByteArray) : c.toList.length = c.size := by rw [ByteArray.toList_eq]; simp
theorem toList_ne {c : ByteArray} (h : 0 < c.size) : ¬ c.toList = [] := fun e => by have := toList_len c; rw [e] at this; simp at this; omega
theorem toList_isEmpty {c : ByteArray} (h : 0 < c.size) : c.toList.isEmpty = false := by
  have := toList_ne h
  cases hc : c.toList with
  | nil => exact absurd hc this
  | cons _ _ => rfl
theorem toList_dash {c : ByteArray} (h : ¬ c = dash) : (c.toList == [45]) = false := by
  rw [beq_eq_false_iff_ne]
  intro e
  apply h
  apply toList_inj.1
  rw [e, ByteArray.toList_eq]; rfl
theorem steps_bound {n : Int} {c : ByteArray} : ∀ k, (∀ j, j < k → stepP n c j) → 0 ≤ dgP c k ∧ (0 < k → dgP c k ≤ n)
  | 0, _ => by simp [dgP]
  | k + 1, h => by
    have ih := steps_bound k (fun j hj => h j (by omega))
    obtain ⟨h1, h2, _⟩ := h k (by omega)
    simp only [dgP]
    omega
set_option maxHeartbeats 1600000 in
theorem l2Change_any (n : Int) (c : ByteArray) (w : World) (hc : c.size ≤ 1048576) :
    Calls Try.prog 188 #[.int .i64 n, .string c] w fun e w' => e = .returned (.bool (B (changeP n c))) ∧ w = w' := by
  by_cases h1 : inB n 3 8
  · have e1 := B_t h1
    obtain ⟨h11, h12⟩ := h1
    by_cases hz : c.size = 0
    · obtain rfl := size_zero hz
      clear hz
      go_enter Try.func188, Try.ntmps188
      go_wp2_with (go_at_call 90; refine (l1In_any _ _ _ _).mono ?_; rintro e w' ⟨rfl, rfl⟩)
      go_ret
      exact ⟨ret_f (fun h => by
        rcases h.2 with ⟨h2, _⟩ | ⟨_, h2, _⟩
        · exact absurd (congrArg ByteArray.size h2) (by decide)
        · exact absurd h2 (by decide)), rfl⟩
    · have hpos : 0 < c.size := by omega
      have hE1 := toList_ne hpos
      have hE2 := toList_isEmpty hpos
      by_cases hl : n - 2 < (c.size : Int)
      · go_enter Try.func188, Try.ntmps188
        go_wp2_with (go_at_call 90; refine (l1In_any _ _ _ _).mono ?_; rintro e w' ⟨rfl, rfl⟩)
        go_ret
        exact ⟨ret_f (fun h => by
          rcases h.2 with ⟨h2, _⟩ | ⟨_, _, h2, _⟩
          · rw [h2, dash_size] at hl; omega
          · omega), rfl⟩
      · by_cases hd : c = dash
        · have hd2 : (c.toList == [45]) = true := by rw [hd, ByteArray.toList_eq]; rfl
          have Hd := Lib.hid hd
          clear hd
          by_cases hn : n % 2 = 0
          all_goals
            go_enter Try.func188, Try.ntmps188
            go_wp2_with (go_at_call 90; refine (l1In_any _ _ _ _).mono ?_; rintro e w' ⟨rfl, rfl⟩)
            go_ret
            first
              | exact ⟨by rw [B_t (show changeP n c from ⟨⟨h11, h12⟩, .inl ⟨Hd.out, hn⟩⟩)]; simp [hn], rfl⟩
              | exact ⟨by rw [B_f (show ¬ changeP n c from fun h => by
                  rcases h.2 with ⟨_, h2⟩ | ⟨h2, _⟩
                  · exact hn h2
                  · exact h2 Hd.out)]; simp [hn], rfl⟩
        · have hd2 := toList_dash hd
          have Hd := Lib.hid hd
          have hch : Hid (changeP n c ↔ chainP n c) := Lib.hid ⟨fun h => by
            rcases h.2 with ⟨h2, _⟩ | ⟨_, _, _, h2⟩
            · exact absurd h2 hd
            · exact h2, fun h => ⟨⟨h11, h12⟩, .inr ⟨hd, hpos, by omega, h⟩⟩⟩
          clear hd
          go_enter Try.func188, Try.ntmps188
          go_wp2_with (go_at_call 90; refine (l1In_any _ _ _ _).mono ?_; rintro e w' ⟨rfl, rfl⟩)
          go_loop [5, 6] (fun v i => ∃ k : Nat, k ≤ c.size ∧ i = .int .i64 k ∧ v = .int .i64 (dgP c k) ∧ (∀ j, j < k → stepP n c j)) (fun _ i => c.size - (intOf i).toNat)
          case atStart => exact ⟨0, by omega, by rfl, by rfl, fun j hj => by omega⟩
          case round =>
            obtain ⟨k, hk, rfl, rfl, hq⟩ := hrel
            obtain ⟨b0, b1⟩ := steps_bound k hq
            have Hq := Lib.hid hq
            clear hq
            obtain ⟨P, hP⟩ : ∃ P, Hid (dgP c k = P) := ⟨_, Lib.hid rfl⟩
            rw [hP.out] at b0 b1 ⊢
            have b2 : P ≤ 8 := by
              rcases Nat.eq_zero_or_pos k with h0 | h0
              · rw [← hP.out, h0]; simp [dgP]
              · have := b1 h0; omega
            have B1 := Lib.hid b1
            clear b1
            by_cases hlt : k < c.size
            · have hb0 := bat_lo c k
              have hb1 := bat_hi c k
              have hst : Hid (stepP n c k ↔ P < bat c k - 48 ∧ bat c k - 48 ≤ n ∧ (bat c k - 48 - P) % 2 ≠ 0) := Lib.hid (by unfold stepP dg; rw [hP.out])
              by_cases c1 : inB (bat c k - 48) (P + 1) n
              · have f1 := B_t c1
                obtain ⟨c11, c12⟩ := c1
                by_cases c2 : (bat c k - 48 - P) % 2 = 0
                · have hno : Hid (¬ stepP n c k) := Lib.hid (fun h => (hst.out.1 h).2.2 c2)
                  go_wp2_with (go_at_call 90; refine (l1In_any _ _ _ _).mono ?_; rintro e w' ⟨rfl, rfl⟩)
                  go_ret
                  exact ⟨ret_f (fun h => hno.out ((hch.out.1 h).1 k hlt)), rfl⟩
                · have hye : Hid (stepP n c k) := Lib.hid (hst.out.2 ⟨by omega, c12, c2⟩)
                  go_wp2_with (go_at_call 90; refine (l1In_any _ _ _ _).mono ?_; rintro e w' ⟨rfl, rfl⟩)
                  go_round
                  case rel =>
                    refine ⟨k + 1, by omega, by go_num, by simp only [dgP, dg], fun j hj => ?_⟩
                    rcases Nat.lt_or_eq_of_le (Nat.le_of_lt_succ hj) with h' | rfl
                    · exact Hq.out j h'
                    · exact hye.out
                  case measure => simp [intOf]; omega
              · have f1 := B_f c1
                have C1 := Lib.hid c1
                clear c1
                go_wp2_with (go_at_call 90; refine (l1In_any _ _ _ _).mono ?_; rintro e w' ⟨rfl, rfl⟩)
                go_ret
                exact ⟨ret_f (fun h => C1.out (by have := hst.out.1 ((hch.out.1 h).1 k hlt); exact ⟨by omega, this.2.1⟩)), rfl⟩
            · obtain rfl : k = c.size := by omega
              have b3 : P ≤ n := B1.out hpos
              by_cases hn : (n - P) % 2 = 0
              all_goals
                go_wp2
                go_ret
                first
                  | exact ⟨by rw [B_t (hch.out.2 ⟨Hq.out, by rw [hP.out]; exact hn⟩)]; simp [hn], rfl⟩
                  | exact ⟨by rw [B_f (fun h => hn (by have := (hch.out.1 h).2; rw [hP.out] at this; exact this))]; simp [hn], rfl⟩
  · have e1 := B_f h1
    have H1 := Lib.hid h1
    clear h1
    go_enter Try.func188, Try.ntmps188
    go_wp2_with (go_at_call 90; refine (l1In_any _ _ _ _).mono ?_; rintro e w' ⟨rfl, rfl⟩)
    go_ret
    exact ⟨ret_f (fun h => H1.out h.1), rfl⟩
/-- The places that a text tells. -/
def dgL (c : ByteArray) : List Int := (List.range c.size).map (dg c)
def digsP (c : ByteArray) : Prop := ∀ i : Nat, i < c.size → 49 ≤ bat c i ∧ bat c i ≤ 56
def dgTo (c : ByteArray) (k : Nat) : List Int := (List.range k).map (dg c)
theorem dgTo_succ (c : ByteArray) (k : Nat) : dgTo c (k + 1) = dgTo c k ++ [bat c k - 48] := by unfold dgTo; rw [List.range_succ, List.map_append]; rfl
theorem dgTo_len (c : ByteArray) (k : Nat) : (dgTo c k).length = k := by simp [dgTo]
theorem ints_of {w : World} {b : Nat} {A : Option Addr} {l : List Int} (h : RdL w b A 1 encInt l) (hl : 0 < l.length) :
    ∃ g off, A = some ⟨g, off, none⟩ ∧ g < b ∧ ∀ (m : Nat) (hm : m < l.length), w.cell? ⟨g, off + m, none⟩ = some (.int .i64 l[m]) := by
  obtain ⟨g, off, hA, hg, _⟩ := h.at hl
  refine ⟨g, off, hA, hg, fun m hm => ?_⟩
  obtain ⟨g', off', hA', _, hcell⟩ := h.at hm
  rw [hA] at hA'
  simp only [Option.some.injEq, Addr.mk.injEq, and_true] at hA'
  obtain ⟨rfl, rfl⟩ := hA'
  have := hcell 0 _ rfl; rw [Nat.mul_one] at this; exact this
/-- Places that stay in a change. -/
def apP (n : Int) (l : List Int) : Prop := ∃ h : 0 < l.length, (l.length : Int) ≠ n ∧ l[0] % 2 ≠ 0 ∧ l[l.length - 1] % 2 = n % 2 ∧ l[l.length - 1] ≤ n ∧ ∀ (i : Nat) (hi : i + 1 < l.length), l[i] < l[i + 1] ∧ (l[i + 1] - l[i]) % 2 ≠ 0
end Go.Proofs.Ytbfhfnejppfehaa
