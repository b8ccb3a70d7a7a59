import Derived.Test.YtbfhfnejppfehaaMSlipsL12
import Derived.Test.YtbfhfnejppfehaaMSlipsL03
import Derived.Test.YtbfhfnejppfehaaMSlipsL08
import Derived.Test.YtbfhfnejppfehaaMSlipsL07
import Derived.Deep.Cut
/-
  The row that a change makes of rounds, where it brings a place, a row behind a change: contracts of both sides.
-/
namespace Go.Proofs.Ytbfhfnejppfehaa
open Go.RowKit
set_option linter.unusedVariables false
set_option linter.unusedSimpArgs false
set_option maxRecDepth 100000

def natI (l : List Nat) : List Int := l.map fun i : Nat => (i : Int)
theorem natI_len (l : List Nat) : (natI l).length = l.length := List.length_map _
theorem rounds_bat {n i : Nat} (hi : i < n) (hn : n ≤ 8) : bat (roundsS n) i = 49 + i := by
  unfold roundsS
  have h8 : eightS.size = 8 := rfl
  rw [bat_ext _ _ _ _ (by rw [h8]; simp; omega), Nat.zero_add]
  rcases (show i = 0 ∨ i = 1 ∨ i = 2 ∨ i = 3 ∨ i = 4 ∨ i = 5 ∨ i = 6 ∨ i = 7 by omega) with rfl | rfl | rfl | rfl | rfl | rfl | rfl | rfl <;> rfl
/-- What is laid of the pairs so far. -/
def SwSt (c : ByteArray) (n p : Nat) (L : List Nat) : Prop := L ++ swFrom c n p = swL c n ∧ ∀ r ∈ L, r + 1 < p ∧ 1 ≤ r
theorem SwSt.start (c : ByteArray) (n : Nat) : SwSt c n 1 [] := ⟨rfl, fun r h => by simp at h⟩
theorem SwSt.stay {c : ByteArray} {n p : Nat} {L : List Nat} (h : SwSt c n p L) (hp : p < n) (hs : stays c p) : SwSt c n (p + 1) L := ⟨by rw [← swFrom_stay hp hs]; exact h.1, fun r hr => by have := h.2 r hr; omega⟩
theorem SwSt.swap {c : ByteArray} {n p : Nat} {L : List Nat} (h : SwSt c n p L) (h1 : 1 ≤ p) (hp : p < n) (hs : ¬ stays c p) : SwSt c n (p + 2) (L ++ [p]) := ⟨by rw [List.append_assoc]; have := h.1; rw [swFrom_swap hp hs] at this; exact this, fun r hr => by
  rcases List.mem_append.1 hr with h2 | h2
  · have := h.2 r h2; omega
  · have := List.mem_singleton.1 h2; omega⟩
theorem SwSt.done {c : ByteArray} {n p : Nat} {L : List Nat} (h : SwSt c n p L) (hp : n ≤ p) : L = swL c n := by have := h.1; rw [swFrom_end hp, List.append_nil] at this; exact this
theorem l2Stays_any (c : ByteArray) (p : Nat) (w : World) (hc : c.size ≤ 1048576) (hp : p ≤ 1000) :
    Calls Try.prog 192 #[.string c, .int .i64 (p : Int)] w fun e w' => e = .returned (.bool (B (stays c p))) ∧ w = w' := by
  go_enter Try.func192, Try.ntmps192
  go_wp2
  go_loop [5] (fun i => ∃ k : Nat, k ≤ c.size ∧ i = .int .i64 k ∧ ∀ j : Nat, j < k → bat c j - 48 ≠ (p : Int)) (fun i => c.size - (intOf i).toNat)
  case atStart => exact ⟨0, by omega, by rfl, fun j h => by omega⟩
  case round =>
    obtain ⟨k, hk, rfl, hq⟩ := hrel
    have Hq := Lib.hid hq
    clear hq
    by_cases hlt : k < c.size
    · have b1 := bat_lo c k
      have b2 := bat_hi c k
      by_cases e : bat c k - 48 = (p : Int)
      · have e2 : (bat c k - 48 == (p : Int)) = true := beq_iff_eq.2 e
        have E := Lib.hid e
        clear e
        go_wp2
        go_ret
        exact ⟨ret_t ⟨k, hlt, E.out⟩, rfl⟩
      · have e2 : (bat c k - 48 == (p : Int)) = false := beq_eq_false_iff_ne.2 e
        have E := Lib.hid e
        clear e
        go_wp2
        go_round
        case rel =>
          refine ⟨k + 1, by omega, by go_num, fun j hj => ?_⟩
          rcases Nat.lt_or_eq_of_le (Nat.le_of_lt_succ hj) with h' | rfl
          · exact Hq.out j h'
          · exact E.out
        case measure => simp [intOf]; omega
    · obtain rfl : k = c.size := by omega
      go_wp2
      go_ret
      exact ⟨ret_f (fun ⟨i, hi, e⟩ => Hq.out i hi e), rfl⟩
theorem pt_cells {L : List Nat} {n p : Nat} {w : World} {g : Nat} (hL : ∀ r ∈ L, r + 1 < p ∧ 1 ≤ r) (h1 : 1 ≤ p) (hp : p < n) (hc : Cells w g n (fun i => .int .u8 ((48 + pt L (i + 1) : Nat) : Int))) :
    Cells ((w.setCell ⟨g, p - 1, none⟩ (.int .u8 (49 + (p : Int)))).setCell ⟨g, p, none⟩ (.int .u8 (48 + (p : Int)))) g n (fun i => .int .u8 ((48 + pt (L ++ [p]) (i + 1) : Nat) : Int)) := by
  refine ((hc.set (i := p - 1) (by omega) _).set (i := p) hp _).congr fun i hi => ?_
  rw [pt_snoc (fun r hr => (hL r hr).1) (i + 1) (by omega)]
  by_cases e1 : i = p
  · subst e1; rw [upd_same, if_neg (by omega), if_pos rfl]; congr 1
  · rw [upd_other _ _ _ _ e1]
    by_cases e2 : i = p - 1
    · subst e2; rw [upd_same, if_pos (by omega)]; congr 1; omega
    · rw [upd_other _ _ _ _ e2, if_neg (by omega), if_neg (by omega)]
set_option maxHeartbeats 1600000 in
theorem l2Row_any (n : Nat) (c : ByteArray) (w : World) (h3 : 3 ≤ n) (h8 : n ≤ 8) (hc : c.size ≤ 1048576) :
    Calls Try.prog 190 #[.int .i64 (n : Int), .string c] w fun e w' => e = .returned (.string (chgS n c)) ∧ Below w.heap.size w w' := by
  have hrs : Hid ((roundsS n).size = n) := Lib.hid (by rw [roundsS_size (by omega) (by omega)]; omega)
  have hrb : Hid (∀ i : Nat, i < n → bat (roundsS n) i = 49 + i) := Lib.hid (fun i hi => rounds_bat hi h8)
  go_enter Try.func190, Try.ntmps190
  go_wp2_with (first | (go_at_call 125; refine (l1Rounds_any (n : Int) _ (by omega) (by omega)).mono ?_; rintro e w' ⟨rfl, rfl⟩) | (refine wpList_bytes rfl _ 9 22 5 rfl rfl rfl rfl (roundsS n) rfl ?_; intro cc w2 hc2 hb2))
  have hsz := hrs.out
  have HC : Hid (Cells w2 w.heap.size n (fun i => .int .u8 ((48 + pt [] (i + 1) : Nat) : Int))) := Lib.hid (by rw [hsz] at hc2; exact hc2.congr fun i hi => by rw [hrb.out i hi, pt_nil]; congr 1; omega)
  have HB := Lib.hid hb2
  rw [hsz]
  clear hc2 hb2 hsz
  go_loopw [6] (fun i wr => ∃ (p : Nat) (L : List Nat), 1 ≤ p ∧ p ≤ n + 1 ∧ i = .int .i64 p ∧ Hid (SwSt c n p L) ∧ Hid (Cells wr w.heap.size n (fun i => .int .u8 ((48 + pt L (i + 1) : Nat) : Int))) ∧ Hid (Below w.heap.size w wr)) (fun i _ => n + 1 - (intOf i).toNat)
  case atStart => exact ⟨1, [], by omega, by omega, by rfl, Lib.hid (SwSt.start c n), HC, HB⟩
  case round =>
    obtain ⟨p, L, hp1, hpn, rfl, hst, hcl, hbl⟩ := hrel
    by_cases hlt : p < n
    · by_cases hs : stays c p
      · have e1 := B_t hs
        have HS := Lib.hid hs
        clear hs
        go_wp2_with (go_at_call 192; refine (l2Stays_any c p _ hc (by omega)).mono ?_; rintro e w' ⟨rfl, rfl⟩)
        go_roundw
        case rel => exact ⟨p + 1, L, by omega, by omega, by go_num, Lib.hid (hst.out.stay hlt HS.out), hcl, hbl⟩
        case measure => simp [intOf]; omega
      · have e1 := B_f hs
        have HS := Lib.hid hs
        clear hs
        have c0 := hcl.out.cell (i := p - 1) (by omega)
        have f0 := hcl.out.free (i := p - 1) (by omega)
        have c1 := hcl.out.cell (i := p) hlt
        have f1 := hcl.out.free (i := p) hlt
        have epn : ((p : Int) - 1).toNat = p - 1 := by omega
        go_wp2_with (go_at_call 192; refine (l2Stays_any c p _ hc (by omega)).mono ?_; rintro e w' ⟨rfl, rfl⟩)
        go_roundw
        case rel => exact ⟨p + 2, L ++ [p], by omega, by omega, by go_num, Lib.hid (hst.out.swap hp1 hlt HS.out), Lib.hid (pt_cells hst.out.2 hp1 hlt hcl.out), Lib.hid ((hbl.out.setCell (p := ⟨w.heap.size, p - 1, none⟩) (Nat.le_refl _) _).setCell (p := ⟨w.heap.size, p, none⟩) (Nat.le_refl _) _)⟩
        case measure => simp [intOf]; omega
    · have hL := hst.out.done (by omega)
      have HL := Lib.hid hL
      clear hL
      have hcv := hcl.out
      have hs := hcv.str (P := Try.prog) (ptL L n) (ptL_len L n) (fun i hi => by simp [ptL]) 22 5 9 cc rfl rfl rfl
      clear hcv
      go_wp2
      go_ret
      exact ⟨ret_str (by unfold chgS ptS; rw [HL.out]), hbl.out⟩
theorem l2Apply_any (a c : ByteArray) (w : World) (ha : isRow a) (hc : c.size ≤ 1048576) :
    Calls Try.prog 178 #[.string a, .string c] w fun e w' => e = .returned (.string (timesS a (chgS a.size c))) ∧ Below w.heap.size w w' := by
  have h3 := ha.1
  have h8 := ha.2.1
  have hsz : Hid ((chgS a.size c).size = a.size) := Lib.hid (ptS_size _ _)
  have hbd : Hid (∀ i : Nat, i < (chgS a.size c).size → 49 ≤ bat (chgS a.size c) i ∧ bat (chgS a.size c) i < 49 + a.size) := Lib.hid (by
    have hr := ptS_row (swL_bd c a.size) (swL_sep c a.size) h3 h8
    intro i hi
    have := hr.2.2.1 i hi
    rw [ptS_size] at this; exact this)
  have hle : (chgS a.size c).size ≤ 1000000 := by have := hsz.out; omega
  clear ha
  go_enter Try.func178, Try.ntmps178
  go_wp2_with (first | (go_at_call 190; refine (l2Row_any a.size c _ h3 h8 hc).mono ?_; rintro e w1 ⟨rfl, hb1⟩) | (go_at_call 176; refine (l1Times_any a (chgS a.size c) _ hle (by omega) hbd.out).mono ?_; rintro e w2 ⟨rfl, rfl⟩))
  go_ret
  exact ⟨rfl, hb1⟩
/-- A change as text: '-' or places. -/
def chgTxt (c : ByteArray) : Prop := c = dash ∨ digsP c
theorem changeP.txt {n : Int} {c : ByteArray} (h : changeP n c) : chgTxt c := by
  rcases h.2 with h2 | h2
  · exact .inl h2.1
  · exact .inr ((change_iff h.1).1 h2.2).1
theorem stays_dash (p : Nat) : ¬ stays dash p := fun ⟨i, hi, e⟩ => by
  have : i = 0 := by rw [dash_size] at hi; omega
  subst this
  have e2 : bat dash 0 = 45 := rfl
  rw [show ((0 : Nat) : Int) = 0 from rfl, e2] at e
  omega
theorem stays_dg {c : ByteArray} {p : Nat} : hasUpTo (dgL c) (dgL c).length p ↔ stays c p := by
  constructor
  · rintro ⟨j, h1, _, h3⟩
    rw [dgL_at] at h3
    exact ⟨j, by rw [dgL_len] at h1; exact h1, h3⟩
  · rintro ⟨i, hi, e⟩
    exact ⟨i, by rw [dgL_len]; exact hi, by rw [dgL_len]; exact hi, by rw [dgL_at]; exact e⟩
end Go.Proofs.Ytbfhfnejppfehaa

/-
  The row that a change makes of rounds, where it brings a place, a row behind a change: contracts of the program.
-/
namespace Go.Proofs.Ytbfhfnejppfehaa
open Go.RowKit
set_option linter.unusedVariables false
set_option linter.unusedSimpArgs false
set_option maxRecDepth 100000

theorem sep_take {L : List Nat} (hs : Sep L) (h1 : ∀ r ∈ L, 1 ≤ r) {k : Nat} (hk : k < L.length) : ∀ r ∈ L.take k, r + 1 < L[k] ∧ 1 ≤ r := fun r hr => by
  obtain ⟨j, hj, rfl⟩ := List.getElem_of_mem hr
  rw [List.length_take] at hj
  rw [List.getElem_take]
  exact ⟨List.pairwise_iff_getElem.1 hs j k (by omega) hk (by omega), h1 _ (List.getElem_mem _)⟩
theorem pt_free {L : List Nat} {p : Nat} (h : ∀ r ∈ L, r + 1 < p) : pt L p = p ∧ pt L (p + 1) = p + 1 := by
  unfold pt
  refine ⟨?_, ?_⟩
  · rw [if_neg (fun hm => by have := h _ hm; omega), if_neg (fun hm => by have := h _ hm.2; omega)]
  · rw [if_neg (fun hm => by have := h _ hm; omega), if_neg (fun hm => by have := h _ hm.2; omega)]
theorem natI_at {L : List Nat} {k : Nat} (h : k < (natI L).length) : (natI L)[k] = ((L[k]'(by rw [natI_len] at h; exact h) : Nat) : Int) := by simp [natI]
end Go.Proofs.Ytbfhfnejppfehaa

/-
  The change of a band's step: a called lead (the program), l24Change (the reference).
-/
namespace Go.Proofs.Ytbfhfnejppfehaa
open Go.RowKit
set_option linter.unusedVariables false
set_option linter.unusedSimpArgs false
set_option maxRecDepth 100000

/-- A lead's changes with a call. -/
def calledX (x : List ByteArray) (b s call : ByteArray) : List ByteArray := if call.toList = [98] then x.set (x.length - 1) b else if call.toList = [115] then x.set (x.length - 1) s else x
theorem calledX_len (x : List ByteArray) (b s call : ByteArray) : (calledX x b s call).length = x.length := by unfold calledX; split; (· simp); split <;> simp
theorem calledX_at (b : Bnd) {k : Nat} (hk : b.step = (k : Int)) (hlt : k < b.m.x.length) : (calledX b.m.x b.bob b.sing b.call).getD k ByteArray.empty = heardChg b := by
  have hd : b.m.x.getD k ByteArray.empty = ownChg b := by unfold ownChg; rw [hk]; rfl
  have hset : ∀ v : ByteArray, (b.m.x.set (b.m.x.length - 1) v).getD k ByteArray.empty = if b.step = (b.m.x.length : Int) - 1 then v else ownChg b := fun v => by
    by_cases e : k = b.m.x.length - 1
    · rw [if_pos (by omega), List.getD_eq_getElem?_getD, e, List.getElem?_set_self (by omega)]; rfl
    · rw [if_neg (by omega), List.getD_eq_getElem?_getD, List.getElem?_set_ne (by omega), ← List.getD_eq_getElem?_getD, hd]
  unfold calledX heardChg
  split
  · rw [hset]
  · split
    · rw [hset]
    · rw [hd]; split <;> rfl
section
variable {w : World} {b c g : Nat} {l : List ByteArray}
theorem OwnL.someStr {A : Option Addr} (h : OwnL w b c A 1 encString l) (hl : 0 < l.length) : ∃ g, A = some ⟨g, 0, none⟩ ∧ b ≤ g ∧ g < c ∧ g < w.heap.size := by
  obtain ⟨g, f, hA, h1, h2, h3⟩ := h.cells hl
  exact ⟨g, hA, h1, h2, h3.lt⟩
theorem OwnL.cellStr (h : OwnL w b c (some ⟨g, 0, none⟩) 1 encString l) (k : Nat) (hk : k < l.length) : w.cell? ⟨g, k, none⟩ = some (.string l[k]) ∧ w.frozen? ⟨g, k, none⟩ = false := by
  rcases h with h | ⟨g', f, hA, h1, h2, h3, h4⟩
  · subst h; simp at hk
  · simp only [Option.some.injEq, Addr.mk.injEq, and_true] at hA
    subst hA
    have := h4 k hk 0 _ rfl
    have hc := h3.cell (i := k) (by omega)
    rw [Nat.mul_one, Nat.add_zero] at this
    rw [this] at hc
    exact ⟨hc, h3.free (by omega)⟩
theorem OwnL.setStr (h : OwnL w b c (some ⟨g, 0, none⟩) 1 encString l) (k : Nat) (hk : k < l.length) (v : ByteArray) : OwnL (w.setCell ⟨g, k, none⟩ (.string v)) b c (some ⟨g, 0, none⟩) 1 encString (l.set k v) := by
  rcases h with h | ⟨g', f, hA, h1, h2, h3, h4⟩
  · subst h; simp at hk
  · simp only [Option.some.injEq, Addr.mk.injEq, and_true] at hA
    subst hA
    refine .inr ⟨g, _, rfl, h1, h2, by rw [List.length_set]; exact h3.set (i := k) (by omega) _, fun i hi j u hu => ?_⟩
    have hj : j = 0 := by have := (List.getElem?_eq_some_iff.1 hu).1; simp [encString] at this; exact this
    subst hj
    by_cases e : i = k
    · subst e
      rw [List.getElem_set_self] at hu
      rw [Nat.mul_one, Nat.add_zero, upd_same]
      simpa [encString] using hu
    · rw [List.getElem_set_ne (by omega)] at hu
      rw [Nat.mul_one, Nat.add_zero, upd_other _ _ _ _ (by omega)]
      have := h4 i (by simpa using hi) 0 u hu
      rw [Nat.mul_one, Nat.add_zero] at this
      exact this
end
/-- A method whose changes lie in memory of the call's own is handed back. -/
def MdOut (nm : ByteArray) (st : Int) (x : List ByteArray) (w : World) (e : Ending) (w' : World) : Prop :=
  ∃ A1 c1, e = .returned (.agg #[.string nm, .int .i64 st, .slice A1 x.length c1]) ∧ OwnL w' w.heap.size w'.heap.size A1 1 encString x ∧ Below w.heap.size w w'
end Go.Proofs.Ytbfhfnejppfehaa

/-
  A band copied; a called lead; a band behind one change: contracts of both sides.
-/
namespace Go.Proofs.Ytbfhfnejppfehaa
open Go.RowKit
set_option linter.unusedVariables false
set_option linter.unusedSimpArgs false
set_option maxRecDepth 100000




def Bnd.bd (b : Bnd) : Bd := ⟨b.m.name, b.m.stage, b.m.x, b.bob, b.sing, b.step, b.call, b.tru, b.rx⟩




end Go.Proofs.Ytbfhfnejppfehaa

/-
  A band behind one change: contracts of both sides.
-/
namespace Go.Proofs.Ytbfhfnejppfehaa
open Go.RowKit
set_option linter.unusedVariables false
set_option linter.unusedSimpArgs false
set_option maxRecDepth 100000

/-- A band behind one change. -/
noncomputable def stepD (b : Bnd) : Bd := ⟨b.m.name, b.m.stage, b.m.x, b.bob, b.sing, stepN b, stepC b, stepT b, stepRs b⟩
theorem changeP.size {n : Int} {c : ByteArray} (h : changeP n c) : c.size ≤ 8 := by
  have h8 := h.1.2
  rcases h.2 with h2 | h2
  · rw [h2.1, dash_size]; omega
  · have := h2.2.2.1; omega
theorem ownP {b : Bnd} (h : bandP b) : changeP b.m.stage (ownChg b) := by
  obtain ⟨hc, hst, _⟩ := h
  have hlt : b.step.toNat < b.m.x.length := by have := hst.1; have := hst.2; omega
  have := hc.1.2.2 b.step.toNat hlt
  unfold ownChg
  rw [List.getD_eq_getElem?_getD, List.getElem?_eq_getElem hlt]; exact this
theorem heardP {b : Bnd} (h : bandP b) : changeP b.m.stage (heardChg b) := by
  unfold heardChg
  split
  · split
    · exact h.1.2.1
    · split
      · exact h.1.2.2
      · exact ownP h
  · exact ownP h
/-- What is needed of a band that is taken apart. -/
structure StepF (n k : Nat) (nm : ByteArray) (x : List ByteArray) (bob sing call tru : ByteArray) (rx : List Rgr) (HC OC : ByteArray) (f : Rgr → Rgr) (D : Bd) : Prop where
  n3 : 3 ≤ n
  n8 : n ≤ 8
  kx : k < x.length
  hc : changeP (n : Int) HC
  oc : changeP (n : Int) OC
  row : isRow tru
  ts : tru.size = n
  own : ∀ h : k < x.length, x[k] = OC
  cx : (calledX x bob sing call).getD k ByteArray.empty = HC
  rl : rx.length = n
  rp : ∀ (i : Nat) (hi : i < rx.length), 1 ≤ rx[i].place ∧ rx[i].place ≤ n
  ff : ∀ r, f r = ⟨((mvP n (if r.deaf then OC else HC) r.place.toNat : Nat) : Int), r.deaf⟩
  hh : ∀ (A : Option Addr) (c : Nat) (RA : Option Addr) (rc : Nat), heardChg ⟨⟨nm, (n : Int), x, A, c⟩, bob, sing, (k : Int), call, tru, rx, RA, rc⟩ = HC
  oo : ∀ (A : Option Addr) (c : Nat) (RA : Option Addr) (rc : Nat), ownChg ⟨⟨nm, (n : Int), x, A, c⟩, bob, sing, (k : Int), call, tru, rx, RA, rc⟩ = OC
  dl : k + 1 = x.length → D = ⟨nm, n, x, bob, sing, 0, ⟨#[112]⟩, timesS tru (chgS n HC), (rx.map f).map hearR⟩
  dm : k + 1 ≠ x.length → D = ⟨nm, n, x, bob, sing, (k : Int) + 1, call, timesS tru (chgS n HC), rx.map f⟩
theorem stepF_of {b : Bnd} (h : bandP b) : StepF b.m.stage.toNat b.step.toNat b.m.name b.m.x b.bob b.sing b.call b.tru b.rx (heardChg b) (ownChg b) (stepR b) (stepD b) := by
  have hst := h.1.1.2.stage
  have h3 := hst.1
  have h8 := hst.2
  have hn : ((b.m.stage.toNat : Nat) : Int) = b.m.stage := by omega
  have hk0 := h.2.1.1
  have hk1 := h.2.1.2
  have hk : ((b.step.toNat : Nat) : Int) = b.step := by omega
  have hlt : b.step.toNat < b.m.x.length := by omega
  have ho : b.m.x[b.step.toNat] = ownChg b := by unfold ownChg; rw [List.getD_eq_getElem?_getD, List.getElem?_eq_getElem hlt]; rfl
  refine ⟨by omega, by omega, hlt, by rw [hn]; exact heardP h, by rw [hn]; exact ownP h, h.2.2.2.1.2, by have := h.2.2.2.1.1; omega, fun _ => ho, calledX_at b hk.symm hlt, by have := h.2.2.2.2.1; omega, fun i hi => by have := h.2.2.2.2.2 i hi; rw [hn]; exact this, fun r => rfl, fun A c RA rc => ?_, fun A c RA rc => ?_, fun e => ?_, fun e => ?_⟩
  · unfold heardChg ownChg; simp only [hk, Int.toNat_natCast]
  · unfold ownChg; simp only [Int.toNat_natCast]
  · have hl : b.step = (b.m.x.length : Int) - 1 := by omega
    unfold stepD stepN stepC stepT stepRs
    rw [if_pos hl, if_pos hl, if_pos hl, hn]
  · have hl : ¬ b.step = (b.m.x.length : Int) - 1 := by omega
    unfold stepD stepN stepC stepT stepRs
    rw [if_neg hl, if_neg hl, if_neg hl, hn, hk]
















end Go.Proofs.Ytbfhfnejppfehaa
