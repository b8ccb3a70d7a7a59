import Derived.Test.YtkegbbndmfnolaaMBeatsL20
import Derived.Test.YtkegbbndmfnolaaMBeatsL05
import Derived.Test.YtkegbbndmfnolaaMBeatsL06
import Derived.Test.YtkegbbndmfnolaaMBeatsL09
import Derived.Test.YtkegbbndmfnolaaMBeatsL19
import Derived.Test.YtkegbbndmfnolaaMBeatsL02
/-
  A band as a result: what it holds, where its slices lie; marks on it; NewBand of both sides.
-/
namespace Go.Proofs.Ytkegbbndmfnolaa
open Go.RowKit
set_option linter.unusedVariables false
set_option linter.unusedSimpArgs false
set_option maxRecDepth 100000

/-- What a band holds. -/
structure Bd where
  name : ByteArray
  stage : Int
  x : List ByteArray
  bob : ByteArray
  sing : ByteArray
  step : Int
  call : ByteArray
  tru : ByteArray
  rx : List Rgr
def Bd.zero : Bd := ⟨⟨#[]⟩, 0, [], ⟨#[]⟩, ⟨#[]⟩, 0, ⟨#[]⟩, ⟨#[]⟩, []⟩
/-- The value is that band; its slices lie in two ranges of blocks. -/
def BdAt (d : Bd) (v : Value) (lo hi : Nat) (w : World) : Prop :=
  ∃ A1 c1 A3 c3 gs, v = .agg #[.string d.name, .int .i64 d.stage, .slice A1 d.x.length c1, .string d.bob, .string d.sing, .int .i64 d.step, .string d.call, .string d.tru, .slice A3 d.rx.length c3] ∧ lo ≤ gs ∧ gs ≤ hi ∧ OwnL w lo gs A1 1 encString d.x ∧ OwnL w gs hi A3 2 Rgr.enc d.rx
theorem BdAt.later {d : Bd} {v : Value} {lo hi : Nat} {w w' : World} (h : BdAt d v lo hi w) (hb : Below w.heap.size w w') : BdAt d v lo hi w' := by
  obtain ⟨A1, c1, A3, c3, gs, hv, h1, h2, o1, o3⟩ := h
  exact ⟨A1, c1, A3, c3, gs, hv, h1, h2, o1.later hb, o3.later hb⟩
theorem BdAt.chg {d : Bd} {v : Value} {lo hi b c : Nat} {w w' : World} (h : BdAt d v lo hi w) (k : Chg b c w w') (hr : hi ≤ b ∨ c ≤ lo) : BdAt d v lo hi w' := by
  obtain ⟨A1, c1, A3, c3, gs, hv, h1, h2, o1, o3⟩ := h
  exact ⟨A1, c1, A3, c3, gs, hv, h1, h2, o1.chg k (by omega), o3.chg k (by omega)⟩
theorem BdAt.open {d : Bd} {A1 A3 : Option Addr} {c1 c3 lo hi : Nat} {w : World} (h : BdAt d (.agg #[.string d.name, .int .i64 d.stage, .slice A1 d.x.length c1, .string d.bob, .string d.sing, .int .i64 d.step, .string d.call, .string d.tru, .slice A3 d.rx.length c3]) lo hi w) : ∃ gs, lo ≤ gs ∧ gs ≤ hi ∧ OwnL w lo gs A1 1 encString d.x ∧ OwnL w gs hi A3 2 Rgr.enc d.rx := by
  obtain ⟨A1', c1', A3', c3', gs, hv, h1, h2, o1, o3⟩ := h
  obtain ⟨⟨rfl, rfl⟩, rfl, rfl⟩ : (A1 = A1' ∧ c1 = c1') ∧ A3 = A3' ∧ c3 = c3' := by simpa using hv
  exact ⟨gs, h1, h2, o1, o3⟩
def BdRet (d : Bd) (ok : Bool) (w : World) (e : Ending) (w' : World) : Prop := ∃ v, e = .returned (.tuple #[v, .bool ok]) ∧ BdAt d v w.heap.size w'.heap.size w' ∧ Below w.heap.size w w'
def BdOne (d : Bd) (w : World) (e : Ending) (w' : World) : Prop := ∃ v, e = .returned v ∧ BdAt d v w.heap.size w'.heap.size w' ∧ Below w.heap.size w w'
theorem BdAt.zero (lo hi : Nat) (w : World) (h : lo ≤ hi) : BdAt Bd.zero (.agg #[.string ⟨#[]⟩, .int .i64 0, .slice none 0 0, .string ⟨#[]⟩, .string ⟨#[]⟩, .int .i64 0, .string ⟨#[]⟩, .string ⟨#[]⟩, .slice none 0 0]) lo hi w :=
  ⟨none, 0, none, 0, lo, rfl, Nat.le_refl _, h, .inl rfl, .inl rfl⟩


end Go.Proofs.Ytkegbbndmfnolaa

/-
  The row that a change makes of rounds, in plain words: pairs of neighbours that exchange.
-/
namespace Go.Proofs.Ytkegbbndmfnolaa
open Go.RowKit
set_option linter.unusedVariables false
set_option linter.unusedSimpArgs false

theorem nodupN_le : ∀ (l : List Nat) (n : Nat), l.Nodup → (∀ x ∈ l, x < n) → l.length ≤ n
  | l, 0, _, h => by
    cases l with
    | nil => simp
    | cons x l => have := h x (by simp); omega
  | l, n + 1, hn, h => by
    have h1 := nodupN_le (l.erase n) n (hn.erase n) (fun x hx => by
      have := (hn.mem_erase_iff).1 hx
      have := h x this.2; omega)
    have := List.length_erase (a := n) (l := l)
    split at this <;> omega
/-- A change lets a place stay. -/
def stays (c : ByteArray) (p : Nat) : Prop := ∃ i : Nat, i < c.size ∧ bat c i - 48 = (p : Int)
open Classical in
/-- The lower places of the pairs that exchange, from place p on. -/
noncomputable def swF (c : ByteArray) (n : Nat) : Nat → Nat → List Nat
  | 0, _ => []
  | f + 1, p => if p < n then (if stays c p then swF c n f (p + 1) else p :: swF c n f (p + 2)) else []
theorem swF_fuel (c : ByteArray) (n : Nat) : ∀ (f g p : Nat), n ≤ p + f → n ≤ p + g → swF c n f p = swF c n g p
  | 0, 0, p, _, _ => rfl
  | 0, g + 1, p, h, _ => by simp only [swF]; rw [if_neg (by omega)]
  | f + 1, 0, p, _, h => by simp only [swF]; rw [if_neg (by omega)]
  | f + 1, g + 1, p, h1, h2 => by
    simp only [swF]
    rw [swF_fuel c n f g (p + 1) (by omega) (by omega), swF_fuel c n f g (p + 2) (by omega) (by omega)]
noncomputable def swFrom (c : ByteArray) (n p : Nat) : List Nat := swF c n (n - p) p
noncomputable def swL (c : ByteArray) (n : Nat) : List Nat := swFrom c n 1
theorem swFrom_end {c : ByteArray} {n p : Nat} (h : n ≤ p) : swFrom c n p = [] := by
  unfold swFrom; rw [show n - p = 0 by omega]; rfl
theorem swFrom_stay {c : ByteArray} {n p : Nat} (h : p < n) (hs : stays c p) : swFrom c n p = swFrom c n (p + 1) := by
  unfold swFrom
  obtain ⟨f, hf⟩ : ∃ f, n - p = f + 1 := ⟨n - p - 1, by omega⟩
  rw [hf]; simp only [swF]; rw [if_pos h, if_pos hs]
  exact swF_fuel c n _ _ _ (by omega) (by omega)
theorem swFrom_swap {c : ByteArray} {n p : Nat} (h : p < n) (hs : ¬ stays c p) : swFrom c n p = p :: swFrom c n (p + 2) := by
  unfold swFrom
  obtain ⟨f, hf⟩ : ∃ f, n - p = f + 1 := ⟨n - p - 1, by omega⟩
  rw [hf]; simp only [swF]; rw [if_pos h, if_neg hs]
  rw [swF_fuel c n _ (n - (p + 2)) _ (by omega) (by omega)]
def Sep (L : List Nat) : Prop := L.Pairwise fun a b => a + 1 < b
theorem swFrom_ge (c : ByteArray) (n : Nat) : ∀ (f p : Nat), n ≤ p + f → ∀ q ∈ swFrom c n p, p ≤ q ∧ q < n
  | 0, p, h, q, hq => by rw [swFrom_end (by omega)] at hq; simp at hq
  | f + 1, p, h, q, hq => by
    by_cases hp : p < n
    · by_cases hs : stays c p
      · rw [swFrom_stay hp hs] at hq; have := swFrom_ge c n f (p + 1) (by omega) q hq; omega
      · rw [swFrom_swap hp hs] at hq
        rcases List.mem_cons.1 hq with rfl | hq
        · omega
        · have := swFrom_ge c n f (p + 2) (by omega) q hq; omega
    · rw [swFrom_end (by omega)] at hq; simp at hq
theorem swFrom_sep (c : ByteArray) (n : Nat) : ∀ (f p : Nat), n ≤ p + f → Sep (swFrom c n p)
  | 0, p, h => by rw [swFrom_end (by omega)]; exact List.Pairwise.nil
  | f + 1, p, h => by
    by_cases hp : p < n
    · by_cases hs : stays c p
      · rw [swFrom_stay hp hs]; exact swFrom_sep c n f (p + 1) (by omega)
      · rw [swFrom_swap hp hs]
        exact List.Pairwise.cons (fun q hq => by have := (swFrom_ge c n f (p + 2) (by omega) q hq).1; omega) (swFrom_sep c n f (p + 2) (by omega))
    · rw [swFrom_end (by omega)]; exact List.Pairwise.nil
theorem sep_no : ∀ {L : List Nat}, Sep L → ∀ {a : Nat}, a ∈ L → a + 1 ∈ L → False
  | [], _, a, h, _ => by simp at h
  | x :: L, hs, a, h1, h2 => by
    obtain ⟨hx, hL⟩ := List.pairwise_cons.1 hs
    rcases List.mem_cons.1 h1 with rfl | h1 <;> rcases List.mem_cons.1 h2 with h2 | h2
    · omega
    · have := hx _ h2; omega
    · have := hx _ h1; omega
    · exact sep_no hL h1 h2
/-- Where a place's bell goes. -/
def pt (L : List Nat) (p : Nat) : Nat := if p ∈ L then p + 1 else if 1 ≤ p ∧ p - 1 ∈ L then p - 1 else p
theorem pt_nil (p : Nat) : pt [] p = p := by simp [pt]
theorem pt_snoc {L : List Nat} {q : Nat} (h : ∀ r ∈ L, r + 1 < q) (p : Nat) (hp : 1 ≤ p) : pt (L ++ [q]) p = if p = q then q + 1 else if p = q + 1 then q else pt L p := by
  unfold pt
  simp only [List.mem_append, List.mem_singleton]
  by_cases e1 : p = q
  · subst e1; simp
  · rw [if_neg e1]
    by_cases e2 : p = q + 1
    · subst e2
      have : ¬ (q + 1 ∈ L) := fun hm => by have := h _ hm; omega
      rw [if_pos rfl, if_neg (by simp [this]), if_pos ⟨by omega, by right; omega⟩]; omega
    · rw [if_neg e2]
      have : ¬ p - 1 = q ∨ p = 0 := by omega
      by_cases m1 : p ∈ L
      · rw [if_pos (.inl m1), if_pos m1]
      · rw [if_neg (by simp [m1, e1]), if_neg m1]
        by_cases m2 : p - 1 ∈ L
        · rw [if_pos ⟨hp, .inl m2⟩, if_pos ⟨hp, m2⟩]
        · rw [if_neg (by rintro ⟨_, h | h⟩; exact m2 h; omega), if_neg (fun x => m2 x.2)]
theorem pt_invol {L : List Nat} (hs : Sep L) (p : Nat) : pt L (pt L p) = p := by
  unfold pt
  by_cases m1 : p ∈ L
  · rw [if_pos m1, if_neg (fun h => sep_no hs m1 h), if_pos ⟨by omega, by simpa using m1⟩]; omega
  · rw [if_neg m1]
    by_cases m2 : 1 ≤ p ∧ p - 1 ∈ L
    · rw [if_pos m2, if_pos m2.2]; omega
    · rw [if_neg m2, if_neg m1, if_neg m2]
theorem pt_bd {L : List Nat} {n : Nat} (h : ∀ r ∈ L, 1 ≤ r ∧ r < n) {p : Nat} (h1 : 1 ≤ p) (h2 : p ≤ n) : 1 ≤ pt L p ∧ pt L p ≤ n := by
  unfold pt
  by_cases m1 : p ∈ L
  · rw [if_pos m1]; have := h p m1; omega
  · rw [if_neg m1]
    by_cases m2 : 1 ≤ p ∧ p - 1 ∈ L
    · rw [if_pos m2]; have := h _ m2.2; omega
    · rw [if_neg m2]; omega
/-- The row that pairs make of rounds. -/
def ptL (L : List Nat) (n : Nat) : List Int := (List.range n).map fun i : Nat => ((48 + pt L (i + 1) : Nat) : Int)
def ptS (L : List Nat) (n : Nat) : ByteArray := mkS (ptL L n)
theorem ptL_len (L : List Nat) (n : Nat) : (ptL L n).length = n := by simp [ptL]
theorem ptS_size (L : List Nat) (n : Nat) : (ptS L n).size = n := by unfold ptS; rw [size_mkS, ptL_len]
theorem ptS_bat {L : List Nat} {n : Nat} (h : ∀ r ∈ L, 1 ≤ r ∧ r < n) (hn : n ≤ 8) {i : Nat} (hi : i < n) : bat (ptS L n) i = ((48 + pt L (i + 1) : Nat) : Int) := by
  have hb := pt_bd h (p := i + 1) (by omega) (by omega)
  have he : (ptL L n)[i]'(by rw [ptL_len]; exact hi) = ((48 + pt L (i + 1) : Nat) : Int) := by simp [ptL]
  unfold ptS
  rw [bat_mkS _ i (by rw [ptL_len]; exact hi) (by rw [he]; omega) (by rw [he]; omega), he]
theorem ptS_row {L : List Nat} {n : Nat} (h : ∀ r ∈ L, 1 ≤ r ∧ r < n) (hs : Sep L) (h3 : 3 ≤ n) (h8 : n ≤ 8) : isRow (ptS L n) := by
  refine ⟨by rw [ptS_size]; exact h3, by rw [ptS_size]; exact h8, fun i hi => ?_, fun i j hij hj => ?_⟩
  · rw [ptS_size] at hi ⊢
    rw [ptS_bat h h8 hi]
    have := pt_bd h (p := i + 1) (by omega) (by omega); omega
  · rw [ptS_size] at hj
    rw [ptS_bat h h8 (by omega), ptS_bat h h8 hj]
    intro e
    have e2 : pt L (i + 1) = pt L (j + 1) := by omega
    have := congrArg (pt L) e2
    rw [pt_invol hs, pt_invol hs] at this
    omega
theorem swL_bd (c : ByteArray) (n : Nat) : ∀ r ∈ swL c n, 1 ≤ r ∧ r < n := swFrom_ge c n n 1 (by omega)
theorem swL_sep (c : ByteArray) (n : Nat) : Sep (swL c n) := swFrom_sep c n n 1 (by omega)
/-- The row that a change of stage n makes of rounds. -/
noncomputable def chgS (n : Nat) (c : ByteArray) : ByteArray := ptS (swL c n) n
/-- Where a change of stage n brings what is at a place. -/
noncomputable def mvP (n : Nat) (c : ByteArray) (p : Nat) : Nat := pt (swL c n) p
end Go.Proofs.Ytkegbbndmfnolaa

/-
  A list of which a first part has been turned; an own list of ringers written at one place; the band behind one change, in plain words.
-/
namespace Go.Proofs.Ytkegbbndmfnolaa
open Go.RowKit
set_option linter.unusedVariables false
set_option linter.unusedSimpArgs false

section
variable {α : Type} (f : α → α)
/-- The first k elements are turned. -/
def mix : List α → Nat → List α
  | [], _ => []
  | x :: l, 0 => x :: l
  | x :: l, k + 1 => f x :: mix l k
end
section
variable {w : World} {b c g : Nat} {l : List Rgr}
end
/-- The change at the band's step by the book. -/
def ownChg (b : Bnd) : ByteArray := b.m.x.getD b.step.toNat ByteArray.empty
/-- The change at the band's step for whoever heard the call. -/
def heardChg (b : Bnd) : ByteArray := if b.step = (b.m.x.length : Int) - 1 then (if b.call.toList = [98] then b.bob else if b.call.toList = [115] then b.sing else ownChg b) else ownChg b
/-- A ringer behind one change. -/
noncomputable def stepR (b : Bnd) (r : Rgr) : Rgr := ⟨((mvP b.m.stage.toNat (if r.deaf then ownChg b else heardChg b) r.place.toNat : Nat) : Int), r.deaf⟩
def hearR (r : Rgr) : Rgr := ⟨r.place, false⟩
/-- The ringers behind one change. -/
noncomputable def stepRs (b : Bnd) : List Rgr := if b.step = (b.m.x.length : Int) - 1 then (b.rx.map (stepR b)).map hearR else b.rx.map (stepR b)
/-- The step behind one change. -/
def stepN (b : Bnd) : Int := if b.step = (b.m.x.length : Int) - 1 then 0 else b.step + 1
def stepC (b : Bnd) : ByteArray := if b.step = (b.m.x.length : Int) - 1 then ⟨#[112]⟩ else b.call
noncomputable def stepT (b : Bnd) : ByteArray := timesS b.tru (chgS b.m.stage.toNat (heardChg b))
end Go.Proofs.Ytkegbbndmfnolaa

/-
  Contracts: the place of a bell in a row (both sides).
-/
namespace Go.Proofs.Ytkegbbndmfnolaa
open Go.RowKit
set_option linter.unusedVariables false
set_option linter.unusedSimpArgs false
set_option maxRecDepth 100000


end Go.Proofs.Ytkegbbndmfnolaa

/-
  The row that a change makes of rounds, where it brings a place, a row behind a change: contracts of both sides.
-/
namespace Go.Proofs.Ytkegbbndmfnolaa
open Go.RowKit
set_option linter.unusedVariables false
set_option linter.unusedSimpArgs false
set_option maxRecDepth 100000

def natI (l : List Nat) : List Int := l.map fun i : Nat => (i : Int)
theorem rounds_bat {n i : Nat} (hi : i < n) (hn : n ≤ 8) : bat (roundsS n) i = 49 + i := by
  unfold roundsS
  have h8 : eightS.size = 8 := rfl
  rw [bat_ext _ _ _ _ (by rw [h8]; simp; omega), Nat.zero_add]
  rcases (show i = 0 ∨ i = 1 ∨ i = 2 ∨ i = 3 ∨ i = 4 ∨ i = 5 ∨ i = 6 ∨ i = 7 by omega) with rfl | rfl | rfl | rfl | rfl | rfl | rfl | rfl <;> rfl
/-- What is laid of the pairs so far. -/
def SwSt (c : ByteArray) (n p : Nat) (L : List Nat) : Prop := L ++ swFrom c n p = swL c n ∧ ∀ r ∈ L, r + 1 < p ∧ 1 ≤ r
theorem SwSt.start (c : ByteArray) (n : Nat) : SwSt c n 1 [] := ⟨rfl, fun r h => by simp at h⟩
theorem SwSt.stay {c : ByteArray} {n p : Nat} {L : List Nat} (h : SwSt c n p L) (hp : p < n) (hs : stays c p) : SwSt c n (p + 1) L := ⟨by rw [← swFrom_stay hp hs]; exact h.1, fun r hr => by have := h.2 r hr; omega⟩
theorem SwSt.swap {c : ByteArray} {n p : Nat} {L : List Nat} (h : SwSt c n p L) (h1 : 1 ≤ p) (hp : p < n) (hs : ¬ stays c p) : SwSt c n (p + 2) (L ++ [p]) := ⟨by rw [List.append_assoc]; have := h.1; rw [swFrom_swap hp hs] at this; exact this, fun r hr => by
  rcases List.mem_append.1 hr with h2 | h2
  · have := h.2 r h2; omega
  · have := List.mem_singleton.1 h2; omega⟩
theorem SwSt.done {c : ByteArray} {n p : Nat} {L : List Nat} (h : SwSt c n p L) (hp : n ≤ p) : L = swL c n := by have := h.1; rw [swFrom_end hp, List.append_nil] at this; exact this
theorem l2Stays_any (c : ByteArray) (p : Nat) (w : World) (hc : c.size ≤ 1048576) (hp : p ≤ 1000) :
    Calls Try.prog 153 #[.string c, .int .i64 (p : Int)] w fun e w' => e = .returned (.bool (B (stays c p))) ∧ w = w' := by
  go_enter Try.func153, Try.ntmps153
  go_wp2
  go_loop [5] (fun i => ∃ k : Nat, k ≤ c.size ∧ i = .int .i64 k ∧ ∀ j : Nat, j < k → bat c j - 48 ≠ (p : Int)) (fun i => c.size - (intOf i).toNat)
  case atStart => exact ⟨0, by omega, by rfl, fun j h => by omega⟩
  case round =>
    obtain ⟨k, hk, rfl, hq⟩ := hrel
    have Hq := Lib.hid hq
    clear hq
    by_cases hlt : k < c.size
    · have b1 := bat_lo c k
      have b2 := bat_hi c k
      by_cases e : bat c k - 48 = (p : Int)
      · have e2 : (bat c k - 48 == (p : Int)) = true := beq_iff_eq.2 e
        have E := Lib.hid e
        clear e
        go_wp2
        go_ret
        exact ⟨ret_t ⟨k, hlt, E.out⟩, rfl⟩
      · have e2 : (bat c k - 48 == (p : Int)) = false := beq_eq_false_iff_ne.2 e
        have E := Lib.hid e
        clear e
        go_wp2
        go_round
        case rel =>
          refine ⟨k + 1, by omega, by go_num, fun j hj => ?_⟩
          rcases Nat.lt_or_eq_of_le (Nat.le_of_lt_succ hj) with h' | rfl
          · exact Hq.out j h'
          · exact E.out
        case measure => simp [intOf]; omega
    · obtain rfl : k = c.size := by omega
      go_wp2
      go_ret
      exact ⟨ret_f (fun ⟨i, hi, e⟩ => Hq.out i hi e), rfl⟩
theorem pt_cells {L : List Nat} {n p : Nat} {w : World} {g : Nat} (hL : ∀ r ∈ L, r + 1 < p ∧ 1 ≤ r) (h1 : 1 ≤ p) (hp : p < n) (hc : Cells w g n (fun i => .int .u8 ((48 + pt L (i + 1) : Nat) : Int))) :
    Cells ((w.setCell ⟨g, p - 1, none⟩ (.int .u8 (49 + (p : Int)))).setCell ⟨g, p, none⟩ (.int .u8 (48 + (p : Int)))) g n (fun i => .int .u8 ((48 + pt (L ++ [p]) (i + 1) : Nat) : Int)) := by
  refine ((hc.set (i := p - 1) (by omega) _).set (i := p) hp _).congr fun i hi => ?_
  rw [pt_snoc (fun r hr => (hL r hr).1) (i + 1) (by omega)]
  by_cases e1 : i = p
  · subst e1; rw [upd_same, if_neg (by omega), if_pos rfl]; congr 1
  · rw [upd_other _ _ _ _ e1]
    by_cases e2 : i = p - 1
    · subst e2; rw [upd_same, if_pos (by omega)]; congr 1; omega
    · rw [upd_other _ _ _ _ e2, if_neg (by omega), if_neg (by omega)]
set_option maxHeartbeats 1600000 in
theorem l2Row_any (n : Nat) (c : ByteArray) (w : World) (h3 : 3 ≤ n) (h8 : n ≤ 8) (hc : c.size ≤ 1048576) :
    Calls Try.prog 152 #[.int .i64 (n : Int), .string c] w fun e w' => e = .returned (.string (chgS n c)) ∧ Below w.heap.size w w' := by
  have hrs : Hid ((roundsS n).size = n) := Lib.hid (by rw [roundsS_size (by omega) (by omega)]; omega)
  have hrb : Hid (∀ i : Nat, i < n → bat (roundsS n) i = 49 + i) := Lib.hid (fun i hi => rounds_bat hi h8)
  go_enter Try.func152, Try.ntmps152
  go_wp2_with (first | (go_at_call 134; refine (l1Rounds_any (n : Int) _ (by omega) (by omega)).mono ?_; rintro e w' ⟨rfl, rfl⟩) | (refine wpList_bytes rfl _ 9 42 5 rfl rfl rfl rfl (roundsS n) rfl ?_; intro cc w2 hc2 hb2))
  have hsz := hrs.out
  have HC : Hid (Cells w2 w.heap.size n (fun i => .int .u8 ((48 + pt [] (i + 1) : Nat) : Int))) := Lib.hid (by rw [hsz] at hc2; exact hc2.congr fun i hi => by rw [hrb.out i hi, pt_nil]; congr 1; omega)
  have HB := Lib.hid hb2
  rw [hsz]
  clear hc2 hb2 hsz
  go_loopw [6] (fun i wr => ∃ (p : Nat) (L : List Nat), 1 ≤ p ∧ p ≤ n + 1 ∧ i = .int .i64 p ∧ Hid (SwSt c n p L) ∧ Hid (Cells wr w.heap.size n (fun i => .int .u8 ((48 + pt L (i + 1) : Nat) : Int))) ∧ Hid (Below w.heap.size w wr)) (fun i _ => n + 1 - (intOf i).toNat)
  case atStart => exact ⟨1, [], by omega, by omega, by rfl, Lib.hid (SwSt.start c n), HC, HB⟩
  case round =>
    obtain ⟨p, L, hp1, hpn, rfl, hst, hcl, hbl⟩ := hrel
    by_cases hlt : p < n
    · by_cases hs : stays c p
      · have e1 := B_t hs
        have HS := Lib.hid hs
        clear hs
        go_wp2_with (go_at_call 153; refine (l2Stays_any c p _ hc (by omega)).mono ?_; rintro e w' ⟨rfl, rfl⟩)
        go_roundw
        case rel => exact ⟨p + 1, L, by omega, by omega, by go_num, Lib.hid (hst.out.stay hlt HS.out), hcl, hbl⟩
        case measure => simp [intOf]; omega
      · have e1 := B_f hs
        have HS := Lib.hid hs
        clear hs
        have c0 := hcl.out.cell (i := p - 1) (by omega)
        have f0 := hcl.out.free (i := p - 1) (by omega)
        have c1 := hcl.out.cell (i := p) hlt
        have f1 := hcl.out.free (i := p) hlt
        have epn : ((p : Int) - 1).toNat = p - 1 := by omega
        go_wp2_with (go_at_call 153; refine (l2Stays_any c p _ hc (by omega)).mono ?_; rintro e w' ⟨rfl, rfl⟩)
        go_roundw
        case rel => exact ⟨p + 2, L ++ [p], by omega, by omega, by go_num, Lib.hid (hst.out.swap hp1 hlt HS.out), Lib.hid (pt_cells hst.out.2 hp1 hlt hcl.out), Lib.hid ((hbl.out.setCell (p := ⟨w.heap.size, p - 1, none⟩) (Nat.le_refl _) _).setCell (p := ⟨w.heap.size, p, none⟩) (Nat.le_refl _) _)⟩
        case measure => simp [intOf]; omega
    · have hL := hst.out.done (by omega)
      have HL := Lib.hid hL
      clear hL
      have hcv := hcl.out
      have hs := hcv.str (P := Try.prog) (ptL L n) (ptL_len L n) (fun i hi => by simp [ptL]) 42 5 9 cc rfl rfl rfl
      clear hcv
      go_wp2
      go_ret
      exact ⟨ret_str (by unfold chgS ptS; rw [HL.out]), hbl.out⟩
theorem l2Apply_any (a c : ByteArray) (w : World) (ha : isRow a) (hc : c.size ≤ 1048576) :
    Calls Try.prog 145 #[.string a, .string c] w fun e w' => e = .returned (.string (timesS a (chgS a.size c))) ∧ Below w.heap.size w w' := by
  have h3 := ha.1
  have h8 := ha.2.1
  have hsz : Hid ((chgS a.size c).size = a.size) := Lib.hid (ptS_size _ _)
  have hbd : Hid (∀ i : Nat, i < (chgS a.size c).size → 49 ≤ bat (chgS a.size c) i ∧ bat (chgS a.size c) i < 49 + a.size) := Lib.hid (by
    have hr := ptS_row (swL_bd c a.size) (swL_sep c a.size) h3 h8
    intro i hi
    have := hr.2.2.1 i hi
    rw [ptS_size] at this; exact this)
  have hle : (chgS a.size c).size ≤ 1000000 := by have := hsz.out; omega
  clear ha
  go_enter Try.func145, Try.ntmps145
  go_wp2_with (first | (go_at_call 152; refine (l2Row_any a.size c _ h3 h8 hc).mono ?_; rintro e w1 ⟨rfl, hb1⟩) | (go_at_call 144; refine (l1Times_any a (chgS a.size c) _ hle (by omega) hbd.out).mono ?_; rintro e w2 ⟨rfl, rfl⟩))
  go_ret
  exact ⟨rfl, hb1⟩
/-- A change as text: '-' or places. -/
def chgTxt (c : ByteArray) : Prop := c = dash ∨ digsP c
end Go.Proofs.Ytkegbbndmfnolaa

/-
  The row that a change makes of rounds, where it brings a place, a row behind a change: contracts of the program.
-/
namespace Go.Proofs.Ytkegbbndmfnolaa
open Go.RowKit
set_option linter.unusedVariables false
set_option linter.unusedSimpArgs false
set_option maxRecDepth 100000

end Go.Proofs.Ytkegbbndmfnolaa
