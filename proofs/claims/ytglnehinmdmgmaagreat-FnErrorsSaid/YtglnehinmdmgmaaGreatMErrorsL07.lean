import Derived.Test.YtglnehinmdmgmaaGreatMErrorsL05
import Derived.Test.YtglnehinmdmgmaaGreatMErrorsL06
import Derived.Test.YtglnehinmdmgmaaGreatMErrorsL02
import Derived.Test.YtglnehinmdmgmaaGreatMErrorsL04
import Derived.Deep.Cut
/-
  Contracts: the place of a bell in a row (both sides).
-/
namespace Go.Proofs.YtglnehinmdmgmaaGreat
open Go.RowKit
set_option linter.unusedVariables false
set_option linter.unusedSimpArgs false
set_option maxRecDepth 100000


set_option maxHeartbeats 800000 in
theorem placeOf_any (a : ByteArray) (b : Int) (w : World) (h : isRow a) (h0 : 0 ≤ b) (h9 : b ≤ 1000) :
    Calls Tryz.prog 37 #[.string a, .int .i64 b] w fun e w' => e = .returned (.int .i64 (placeS a b)) ∧ w = w' := by
  have h8 := h.2.1
  have H := Lib.hid h
  clear h
  go_enter Tryz.func37, Tryz.ntmps37
  go_wp2
  go_loop [8] (fun i => ∃ k : Nat, k ≤ a.size ∧ i = .int .i64 k ∧ ∀ j : Nat, j < k → bat a j ≠ 48 + b) (fun i => a.size - (intOf i).toNat)
  case atStart => exact ⟨0, by omega, by rfl, by omega⟩
  case round =>
    obtain ⟨k, hk, rfl, hn⟩ := hrel
    have Hn := Lib.hid hn
    clear hn
    by_cases hlt : k < a.size
    · have hb := H.out.2.2.1 k hlt
      have hy := bat_hi a k
      by_cases c : bat a k = 48 + b
      · have cb : (bat a k - 48 == b) = true := by simp <;> omega
        have C := Lib.hid c
        clear c
        go_wp2
        go_ret
        exact ⟨ret_int (by unfold placeS; rw [placeAt_hit a _ a.size k hlt C.out (fun j hj e => H.out.inj hj hlt (by have := C.out; omega))]), rfl⟩
      · have cb : (bat a k - 48 == b) = false := by simp <;> omega
        have C := Lib.hid c
        clear c
        go_wp2
        go_round
        case rel =>
          refine ⟨k + 1, by omega, by go_num, fun j hj => ?_⟩
          rcases Nat.lt_or_eq_of_le (Nat.le_of_lt_succ hj) with h' | rfl
          · exact Hn.out j h'
          · exact C.out
        case measure => simp [intOf]; omega
    · go_wp2
      go_ret
      obtain rfl : k = a.size := by omega
      exact ⟨ret_int (by unfold placeS; rw [placeAt_none a _ a.size Hn.out]), rfl⟩

set_option maxHeartbeats 800000 in
theorem l5Place_any (a : ByteArray) (b : Int) (w : World) (h : isRow a) (h0 : 0 ≤ b) (h9 : b ≤ 1000) :
    Calls Tryz.prog 44 #[.string a, .int .i64 b] w fun e w' => e = .returned (.int .i64 (placeS a b)) ∧ w = w' := by
  have h8 := h.2.1
  have H := Lib.hid h
  clear h
  go_enter Tryz.func44, Tryz.ntmps44
  go_wp2
  go_loop [5] (fun i => ∃ k : Nat, k ≤ a.size ∧ i = .int .i64 (k + 1) ∧ ∀ j : Nat, j < k → bat a j ≠ 48 + b) (fun i => a.size + 1 - (intOf i).toNat)
  case atStart => exact ⟨0, by omega, by rfl, by omega⟩
  case round =>
    obtain ⟨k, hk, rfl, hn⟩ := hrel
    have Hn := Lib.hid hn
    clear hn
    by_cases hlt : k < a.size
    · have hb := H.out.2.2.1 k hlt
      have hy := bat_hi a k
      by_cases c : bat a k = 48 + b
      · have cb : (bat a k - 48 == b) = true := by simp <;> omega
        have C := Lib.hid c
        clear c
        go_wp2_with (go_at_call 25; refine (l1At_k a k _ _ (by omega) hlt (by omega) (by omega)).mono ?_; rintro e w' ⟨rfl, rfl⟩)
        go_ret
        exact ⟨ret_int (by unfold placeS; rw [placeAt_hit a _ a.size k hlt C.out (fun j hj e => H.out.inj hj hlt (by have := C.out; omega))]), rfl⟩
      · have cb : (bat a k - 48 == b) = false := by simp <;> omega
        have C := Lib.hid c
        clear c
        go_wp2_with (go_at_call 25; refine (l1At_k a k _ _ (by omega) hlt (by omega) (by omega)).mono ?_; rintro e w' ⟨rfl, rfl⟩)
        go_round
        case rel =>
          refine ⟨k + 1, by omega, by go_num, fun j hj => ?_⟩
          rcases Nat.lt_or_eq_of_le (Nat.le_of_lt_succ hj) with h' | rfl
          · exact Hn.out j h'
          · exact C.out
        case measure => simp [intOf]; omega
    · go_wp2
      go_ret
      obtain rfl : k = a.size := by omega
      exact ⟨ret_int (by unfold placeS; rw [placeAt_none a _ a.size Hn.out]), rfl⟩
end Go.Proofs.YtglnehinmdmgmaaGreat

/-
  The row that a change makes of rounds, where it brings a place, a row behind a change: contracts of both sides.
-/
namespace Go.Proofs.YtglnehinmdmgmaaGreat
open Go.RowKit
set_option linter.unusedVariables false
set_option linter.unusedSimpArgs false
set_option maxRecDepth 100000

def natI (l : List Nat) : List Int := l.map fun i : Nat => (i : Int)
theorem rounds_bat {n i : Nat} (hi : i < n) (hn : n ≤ 8) : bat (roundsS n) i = 49 + i := by
  unfold roundsS
  have h8 : eightS.size = 8 := rfl
  rw [bat_ext _ _ _ _ (by rw [h8]; simp; omega), Nat.zero_add]
  rcases (show i = 0 ∨ i = 1 ∨ i = 2 ∨ i = 3 ∨ i = 4 ∨ i = 5 ∨ i = 6 ∨ i = 7 by omega) with rfl | rfl | rfl | rfl | rfl | rfl | rfl | rfl <;> rfl
/-- What is laid of the pairs so far. -/
def SwSt (c : ByteArray) (n p : Nat) (L : List Nat) : Prop := L ++ swFrom c n p = swL c n ∧ ∀ r ∈ L, r + 1 < p ∧ 1 ≤ r
theorem SwSt.start (c : ByteArray) (n : Nat) : SwSt c n 1 [] := ⟨rfl, fun r h => by simp at h⟩
theorem SwSt.stay {c : ByteArray} {n p : Nat} {L : List Nat} (h : SwSt c n p L) (hp : p < n) (hs : stays c p) : SwSt c n (p + 1) L := ⟨by rw [← swFrom_stay hp hs]; exact h.1, fun r hr => by have := h.2 r hr; omega⟩
theorem SwSt.swap {c : ByteArray} {n p : Nat} {L : List Nat} (h : SwSt c n p L) (h1 : 1 ≤ p) (hp : p < n) (hs : ¬ stays c p) : SwSt c n (p + 2) (L ++ [p]) := ⟨by rw [List.append_assoc]; have := h.1; rw [swFrom_swap hp hs] at this; exact this, fun r hr => by
  rcases List.mem_append.1 hr with h2 | h2
  · have := h.2 r h2; omega
  · have := List.mem_singleton.1 h2; omega⟩
theorem SwSt.done {c : ByteArray} {n p : Nat} {L : List Nat} (h : SwSt c n p L) (hp : n ≤ p) : L = swL c n := by have := h.1; rw [swFrom_end hp, List.append_nil] at this; exact this
theorem l2Stays_any (c : ByteArray) (p : Nat) (w : World) (hc : c.size ≤ 1048576) (hp : p ≤ 1000) :
    Calls Tryz.prog 113 #[.string c, .int .i64 (p : Int)] w fun e w' => e = .returned (.bool (B (stays c p))) ∧ w = w' := by
  go_enter Tryz.func113, Tryz.ntmps113
  go_wp2
  go_loop [5] (fun i => ∃ k : Nat, k ≤ c.size ∧ i = .int .i64 k ∧ ∀ j : Nat, j < k → bat c j - 48 ≠ (p : Int)) (fun i => c.size - (intOf i).toNat)
  case atStart => exact ⟨0, by omega, by rfl, fun j h => by omega⟩
  case round =>
    obtain ⟨k, hk, rfl, hq⟩ := hrel
    have Hq := Lib.hid hq
    clear hq
    by_cases hlt : k < c.size
    · have b1 := bat_lo c k
      have b2 := bat_hi c k
      by_cases e : bat c k - 48 = (p : Int)
      · have e2 : (bat c k - 48 == (p : Int)) = true := beq_iff_eq.2 e
        have E := Lib.hid e
        clear e
        go_wp2
        go_ret
        exact ⟨ret_t ⟨k, hlt, E.out⟩, rfl⟩
      · have e2 : (bat c k - 48 == (p : Int)) = false := beq_eq_false_iff_ne.2 e
        have E := Lib.hid e
        clear e
        go_wp2
        go_round
        case rel =>
          refine ⟨k + 1, by omega, by go_num, fun j hj => ?_⟩
          rcases Nat.lt_or_eq_of_le (Nat.le_of_lt_succ hj) with h' | rfl
          · exact Hq.out j h'
          · exact E.out
        case measure => simp [intOf]; omega
    · obtain rfl : k = c.size := by omega
      go_wp2
      go_ret
      exact ⟨ret_f (fun ⟨i, hi, e⟩ => Hq.out i hi e), rfl⟩
theorem pt_cells {L : List Nat} {n p : Nat} {w : World} {g : Nat} (hL : ∀ r ∈ L, r + 1 < p ∧ 1 ≤ r) (h1 : 1 ≤ p) (hp : p < n) (hc : Cells w g n (fun i => .int .u8 ((48 + pt L (i + 1) : Nat) : Int))) :
    Cells ((w.setCell ⟨g, p - 1, none⟩ (.int .u8 (49 + (p : Int)))).setCell ⟨g, p, none⟩ (.int .u8 (48 + (p : Int)))) g n (fun i => .int .u8 ((48 + pt (L ++ [p]) (i + 1) : Nat) : Int)) := by
  refine ((hc.set (i := p - 1) (by omega) _).set (i := p) hp _).congr fun i hi => ?_
  rw [pt_snoc (fun r hr => (hL r hr).1) (i + 1) (by omega)]
  by_cases e1 : i = p
  · subst e1; rw [upd_same, if_neg (by omega), if_pos rfl]; congr 1
  · rw [upd_other _ _ _ _ e1]
    by_cases e2 : i = p - 1
    · subst e2; rw [upd_same, if_pos (by omega)]; congr 1; omega
    · rw [upd_other _ _ _ _ e2, if_neg (by omega), if_neg (by omega)]
set_option maxHeartbeats 1600000 in
theorem l2Row_any (n : Nat) (c : ByteArray) (w : World) (h3 : 3 ≤ n) (h8 : n ≤ 8) (hc : c.size ≤ 1048576) :
    Calls Tryz.prog 112 #[.int .i64 (n : Int), .string c] w fun e w' => e = .returned (.string (chgS n c)) ∧ Below w.heap.size w w' := by
  have hrs : Hid ((roundsS n).size = n) := Lib.hid (by rw [roundsS_size (by omega) (by omega)]; omega)
  have hrb : Hid (∀ i : Nat, i < n → bat (roundsS n) i = 49 + i) := Lib.hid (fun i hi => rounds_bat hi h8)
  go_enter Tryz.func112, Tryz.ntmps112
  go_wp2_with (first | (go_at_call 88; refine (l1Rounds_any (n : Int) _ (by omega) (by omega)).mono ?_; rintro e w' ⟨rfl, rfl⟩) | (refine wpList_bytes rfl _ 9 22 5 rfl rfl rfl rfl (roundsS n) rfl ?_; intro cc w2 hc2 hb2))
  have hsz := hrs.out
  have HC : Hid (Cells w2 w.heap.size n (fun i => .int .u8 ((48 + pt [] (i + 1) : Nat) : Int))) := Lib.hid (by rw [hsz] at hc2; exact hc2.congr fun i hi => by rw [hrb.out i hi, pt_nil]; congr 1; omega)
  have HB := Lib.hid hb2
  rw [hsz]
  clear hc2 hb2 hsz
  go_loopw [6] (fun i wr => ∃ (p : Nat) (L : List Nat), 1 ≤ p ∧ p ≤ n + 1 ∧ i = .int .i64 p ∧ Hid (SwSt c n p L) ∧ Hid (Cells wr w.heap.size n (fun i => .int .u8 ((48 + pt L (i + 1) : Nat) : Int))) ∧ Hid (Below w.heap.size w wr)) (fun i _ => n + 1 - (intOf i).toNat)
  case atStart => exact ⟨1, [], by omega, by omega, by rfl, Lib.hid (SwSt.start c n), HC, HB⟩
  case round =>
    obtain ⟨p, L, hp1, hpn, rfl, hst, hcl, hbl⟩ := hrel
    by_cases hlt : p < n
    · by_cases hs : stays c p
      · have e1 := B_t hs
        have HS := Lib.hid hs
        clear hs
        go_wp2_with (go_at_call 113; refine (l2Stays_any c p _ hc (by omega)).mono ?_; rintro e w' ⟨rfl, rfl⟩)
        go_roundw
        case rel => exact ⟨p + 1, L, by omega, by omega, by go_num, Lib.hid (hst.out.stay hlt HS.out), hcl, hbl⟩
        case measure => simp [intOf]; omega
      · have e1 := B_f hs
        have HS := Lib.hid hs
        clear hs
        have c0 := hcl.out.cell (i := p - 1) (by omega)
        have f0 := hcl.out.free (i := p - 1) (by omega)
        have c1 := hcl.out.cell (i := p) hlt
        have f1 := hcl.out.free (i := p) hlt
        have epn : ((p : Int) - 1).toNat = p - 1 := by omega
        go_wp2_with (go_at_call 113; refine (l2Stays_any c p _ hc (by omega)).mono ?_; rintro e w' ⟨rfl, rfl⟩)
        go_roundw
        case rel => exact ⟨p + 2, L ++ [p], by omega, by omega, by go_num, Lib.hid (hst.out.swap hp1 hlt HS.out), Lib.hid (pt_cells hst.out.2 hp1 hlt hcl.out), Lib.hid ((hbl.out.setCell (p := ⟨w.heap.size, p - 1, none⟩) (Nat.le_refl _) _).setCell (p := ⟨w.heap.size, p, none⟩) (Nat.le_refl _) _)⟩
        case measure => simp [intOf]; omega
    · have hL := hst.out.done (by omega)
      have HL := Lib.hid hL
      clear hL
      have hcv := hcl.out
      have hs := hcv.str (P := Tryz.prog) (ptL L n) (ptL_len L n) (fun i hi => by simp [ptL]) 22 5 9 cc rfl rfl rfl
      clear hcv
      go_wp2
      go_ret
      exact ⟨ret_str (by unfold chgS ptS; rw [HL.out]), hbl.out⟩
theorem l2Apply_any (a c : ByteArray) (w : World) (ha : isRow a) (hc : c.size ≤ 1048576) :
    Calls Tryz.prog 104 #[.string a, .string c] w fun e w' => e = .returned (.string (timesS a (chgS a.size c))) ∧ Below w.heap.size w w' := by
  have h3 := ha.1
  have h8 := ha.2.1
  have hsz : Hid ((chgS a.size c).size = a.size) := Lib.hid (ptS_size _ _)
  have hbd : Hid (∀ i : Nat, i < (chgS a.size c).size → 49 ≤ bat (chgS a.size c) i ∧ bat (chgS a.size c) i < 49 + a.size) := Lib.hid (by
    have hr := ptS_row (swL_bd c a.size) (swL_sep c a.size) h3 h8
    intro i hi
    have := hr.2.2.1 i hi
    rw [ptS_size] at this; exact this)
  have hle : (chgS a.size c).size ≤ 1000000 := by have := hsz.out; omega
  clear ha
  go_enter Tryz.func104, Tryz.ntmps104
  go_wp2_with (first | (go_at_call 112; refine (l2Row_any a.size c _ h3 h8 hc).mono ?_; rintro e w1 ⟨rfl, hb1⟩) | (go_at_call 103; refine (l1Times_any a (chgS a.size c) _ hle (by omega) hbd.out).mono ?_; rintro e w2 ⟨rfl, rfl⟩))
  go_ret
  exact ⟨rfl, hb1⟩
/-- A change as text: '-' or places. -/
def chgTxt (c : ByteArray) : Prop := c = dash ∨ digsP c
end Go.Proofs.YtglnehinmdmgmaaGreat

/-
  The row that a change makes of rounds, where it brings a place, a row behind a change: contracts of the program.
-/
namespace Go.Proofs.YtglnehinmdmgmaaGreat
open Go.RowKit
set_option linter.unusedVariables false
set_option linter.unusedSimpArgs false
set_option maxRecDepth 100000

end Go.Proofs.YtglnehinmdmgmaaGreat

/-
  The change of a band's step: a called lead (the program), l24Change (the reference).
-/
namespace Go.Proofs.YtglnehinmdmgmaaGreat
open Go.RowKit
set_option linter.unusedVariables false
set_option linter.unusedSimpArgs false
set_option maxRecDepth 100000

/-- A lead's changes with a call. -/
def calledX (x : List ByteArray) (b s call : ByteArray) : List ByteArray := if call.toList = [98] then x.set (x.length - 1) b else if call.toList = [115] then x.set (x.length - 1) s else x
section
variable {w : World} {b c g : Nat} {l : List ByteArray}
theorem OwnL.someStr {A : Option Addr} (h : OwnL w b c A 1 encString l) (hl : 0 < l.length) : ∃ g, A = some ⟨g, 0, none⟩ ∧ b ≤ g ∧ g < c ∧ g < w.heap.size := by
  obtain ⟨g, f, hA, h1, h2, h3⟩ := h.cells hl
  exact ⟨g, hA, h1, h2, h3.lt⟩
theorem OwnL.cellStr (h : OwnL w b c (some ⟨g, 0, none⟩) 1 encString l) (k : Nat) (hk : k < l.length) : w.cell? ⟨g, k, none⟩ = some (.string l[k]) ∧ w.frozen? ⟨g, k, none⟩ = false := by
  rcases h with h | ⟨g', f, hA, h1, h2, h3, h4⟩
  · subst h; simp at hk
  · simp only [Option.some.injEq, Addr.mk.injEq, and_true] at hA
    subst hA
    have := h4 k hk 0 _ rfl
    have hc := h3.cell (i := k) (by omega)
    rw [Nat.mul_one, Nat.add_zero] at this
    rw [this] at hc
    exact ⟨hc, h3.free (by omega)⟩
end
/-- A method whose changes lie in memory of the call's own is handed back. -/
def MdOut (nm : ByteArray) (st : Int) (x : List ByteArray) (w : World) (e : Ending) (w' : World) : Prop :=
  ∃ A1 c1, e = .returned (.agg #[.string nm, .int .i64 st, .slice A1 x.length c1]) ∧ OwnL w' w.heap.size w'.heap.size A1 1 encString x ∧ Below w.heap.size w w'
end Go.Proofs.YtglnehinmdmgmaaGreat

/-
  A band copied; a called lead; a band behind one change: contracts of both sides.
-/
namespace Go.Proofs.YtglnehinmdmgmaaGreat
open Go.RowKit
set_option linter.unusedVariables false
set_option linter.unusedSimpArgs false
set_option maxRecDepth 100000




def Bnd.bd (b : Bnd) : Bd := ⟨b.m.name, b.m.stage, b.m.x, b.bob, b.sing, b.step, b.call, b.tru, b.rx⟩




end Go.Proofs.YtglnehinmdmgmaaGreat

/-
  A band behind one change: contracts of both sides.
-/
namespace Go.Proofs.YtglnehinmdmgmaaGreat
open Go.RowKit
set_option linter.unusedVariables false
set_option linter.unusedSimpArgs false
set_option maxRecDepth 100000

/-- A band behind one change. -/
noncomputable def stepD (b : Bnd) : Bd := ⟨b.m.name, b.m.stage, b.m.x, b.bob, b.sing, stepN b, stepC b, stepT b, stepRs b⟩
theorem changeP.size {n : Int} {c : ByteArray} (h : changeP n c) : c.size ≤ 8 := by
  have h8 := h.1.2
  rcases h.2 with h2 | h2
  · rw [h2.1, dash_size]; omega
  · have := h2.2.2.1; omega
/-- What is needed of a band that is taken apart. -/
structure StepF (n k : Nat) (nm : ByteArray) (x : List ByteArray) (bob sing call tru : ByteArray) (rx : List Rgr) (HC OC : ByteArray) (f : Rgr → Rgr) (D : Bd) : Prop where
  n3 : 3 ≤ n
  n8 : n ≤ 8
  kx : k < x.length
  hc : changeP (n : Int) HC
  oc : changeP (n : Int) OC
  row : isRow tru
  ts : tru.size = n
  own : ∀ h : k < x.length, x[k] = OC
  cx : (calledX x bob sing call).getD k ByteArray.empty = HC
  rl : rx.length = n
  rp : ∀ (i : Nat) (hi : i < rx.length), 1 ≤ rx[i].place ∧ rx[i].place ≤ n
  ff : ∀ r, f r = ⟨((mvP n (if r.deaf then OC else HC) r.place.toNat : Nat) : Int), r.deaf⟩
  hh : ∀ (A : Option Addr) (c : Nat) (RA : Option Addr) (rc : Nat), heardChg ⟨⟨nm, (n : Int), x, A, c⟩, bob, sing, (k : Int), call, tru, rx, RA, rc⟩ = HC
  oo : ∀ (A : Option Addr) (c : Nat) (RA : Option Addr) (rc : Nat), ownChg ⟨⟨nm, (n : Int), x, A, c⟩, bob, sing, (k : Int), call, tru, rx, RA, rc⟩ = OC
  dl : k + 1 = x.length → D = ⟨nm, n, x, bob, sing, 0, ⟨#[112]⟩, timesS tru (chgS n HC), (rx.map f).map hearR⟩
  dm : k + 1 ≠ x.length → D = ⟨nm, n, x, bob, sing, (k : Int) + 1, call, timesS tru (chgS n HC), rx.map f⟩
end Go.Proofs.YtglnehinmdmgmaaGreat

/-
  Touches in plain words: rows behind changes one after the other, the heads of a touch.
-/
namespace Go.Proofs.YtglnehinmdmgmaaGreat
open Go.RowKit
set_option linter.unusedVariables false
set_option linter.unusedSimpArgs false

section
variable {α : Type} (f : ByteArray → α → ByteArray)
/-- What stands behind k steps. -/
def after (r : ByteArray) (l : List α) (k : Nat) : ByteArray := (l.take k).foldl f r
theorem after_zero (r : ByteArray) (l : List α) : after f r l 0 = r := by simp [after]
theorem after_succ (r : ByteArray) (l : List α) (k : Nat) (h : k < l.length) : after f r l (k + 1) = f (after f r l k) l[k] := by
  unfold after; rw [List.take_succ_eq_append_getElem h, List.foldl_append]; rfl
/-- The first n of them. -/
def walkL (r : ByteArray) (l : List α) (n : Nat) : List ByteArray := (List.range n).map (after f r l)
theorem walkL_len (r : ByteArray) (l : List α) (n : Nat) : (walkL f r l n).length = n := by simp [walkL]
theorem walkL_succ (r : ByteArray) (l : List α) (n : Nat) : walkL f r l (n + 1) = walkL f r l n ++ [after f r l n] := by simp [walkL, List.range_succ]
theorem walkL_at (r : ByteArray) (l : List α) (n k : Nat) (h : k < (walkL f r l n).length) : (walkL f r l n)[k] = after f r l k := by simp [walkL]
end
/-- A row behind a change of stage n. -/
noncomputable def chF (n : Nat) (r c : ByteArray) : ByteArray := timesS r (chgS n c)
theorem row_times {a b : ByteArray} (ha : isRow a) (hb : isRow b) (h : a.size = b.size) : isRow (timesS a b) := by
  have h1 := hb.1
  have h2 := hb.2.1
  have key : ∀ i : Nat, i < b.size → ∃ k : Nat, k < a.size ∧ bat b i - 49 = (k : Int) ∧ bat (timesS a b) i = bat a k := fun i hi => by
    have := hb.2.2.1 i hi
    refine ⟨(bat b i - 49).toNat, by omega, by omega, ?_⟩
    rw [bat_times a b i hi]
    congr 1
    omega
  refine ⟨by rw [size_times]; exact h1, by rw [size_times]; exact h2, fun i hi => ?_, fun i j hij hj => ?_⟩
  · rw [size_times] at hi ⊢
    obtain ⟨k, hk, _, e⟩ := key i hi
    rw [e]
    have := ha.2.2.1 k hk
    omega
  · rw [size_times] at hj
    obtain ⟨k, hk, ek, e⟩ := key i (by omega)
    obtain ⟨m, hm, em, e2⟩ := key j hj
    rw [e, e2]
    intro hc
    have hkm := ha.inj hk hm hc
    subst hkm
    exact hb.2.2.2 i j hij hj (by omega)
theorem row_chg {n : Nat} (h3 : 3 ≤ n) (h8 : n ≤ 8) (c : ByteArray) : isRow (chgS n c) ∧ (chgS n c).size = n :=
  ⟨ptS_row (swL_bd c n) (swL_sep c n) h3 h8, ptS_size _ _⟩
theorem row_rounds {n : Nat} (h3 : 3 ≤ n) (h8 : n ≤ 8) : isRow (roundsS n) ∧ (roundsS n).size = n := by
  have hs : (roundsS (n : Int)).size = n := by rw [roundsS_size (by omega) (by omega)]; omega
  refine ⟨⟨by omega, by omega, fun i hi => ?_, fun i j hij hj => ?_⟩, hs⟩
  · rw [hs] at hi ⊢; rw [rounds_bat hi h8]; omega
  · rw [hs] at hj; rw [rounds_bat (by omega) h8, rounds_bat hj h8]; omega
def rowN (n : Nat) (r : ByteArray) : Prop := isRow r ∧ r.size = n
theorem chF_row {n : Nat} (h3 : 3 ≤ n) (h8 : n ≤ 8) {r : ByteArray} (hr : rowN n r) (c : ByteArray) : rowN n (chF n r c) := by
  obtain ⟨h1, h2⟩ := row_chg h3 h8 c
  exact ⟨row_times hr.1 h1 (by rw [hr.2, h2]), by unfold chF; rw [size_times, h2]⟩
theorem after_rowN {α : Type} {n : Nat} {f : ByteArray → α → ByteArray} {l : List α} (hf : ∀ r, rowN n r → ∀ x ∈ l, rowN n (f r x)) {r : ByteArray} (hr : rowN n r) : ∀ k, rowN n (after f r l k) := by
  intro k
  induction k with
  | zero => rw [after_zero]; exact hr
  | succ k ih =>
    by_cases h : k < l.length
    · rw [after_succ f r l k h]; exact hf _ ih _ (List.getElem_mem h)
    · have e : after f r l (k + 1) = after f r l k := by
        unfold after; rw [List.take_of_length_le (show l.length ≤ k + 1 by omega), List.take_of_length_le (show l.length ≤ k by omega)]
      rw [e]; exact ih
/-- The lead head of a lead with a call. -/
noncomputable def hdS (n : Nat) (x : List ByteArray) (b s call : ByteArray) : ByteArray := after (chF n) (roundsS n) (calledX x b s call) x.length
/-- The change that a call makes of the last one. -/
def lastC (x : List ByteArray) (b s call : ByteArray) : ByteArray := if call.toList = [98] then b else if call.toList = [115] then s else x.getD (x.length - 1) ByteArray.empty
/-- The call that a byte stands for. -/
def callOf (v : Int) : ByteArray := mkS [v]
noncomputable def hdF (n : Nat) (x : List ByteArray) (b s : ByteArray) (r : ByteArray) (v : Int) : ByteArray := timesS r (hdS n x b s (callOf v))
/-- The bytes of a string. -/
def batL (t : ByteArray) : List Int := (List.range t.size).map fun i : Nat => bat t i
/-- The head behind k leads of a touch. -/
noncomputable def headS (n : Nat) (x : List ByteArray) (b s t : ByteArray) (k : Nat) : ByteArray := after (hdF n x b s) (roundsS n) (batL t) k
noncomputable def headsL (n : Nat) (x : List ByteArray) (b s t : ByteArray) (k : Nat) : List ByteArray := walkL (hdF n x b s) (roundsS n) (batL t) k
/-- The touch comes round. -/
def roundP (n : Nat) (x : List ByteArray) (b s t : ByteArray) : Prop := headS n x b s t t.size = roundsS n
end Go.Proofs.YtglnehinmdmgmaaGreat

/-
  Contracts: rows behind changes, lead heads with a call (both sides).
-/
namespace Go.Proofs.YtglnehinmdmgmaaGreat
open Go.RowKit
set_option linter.unusedVariables false
set_option linter.unusedSimpArgs false
set_option maxRecDepth 100000

/-- '[]T{x, ..}': a new block. -/
theorem Grow.lit {α : Type} {w : World} {b : Nat} {e : TypeId} {size : Nat} {enc : α → List Value} (ys : List α) {news : List Value} (hn : news = flat enc ys) (hb : b ≤ w.heap.size) (hl : ys.length ≤ maxLen) (henc : ∀ x, (enc x).length = size) :
    Grow (w.alloc (.cells news.toArray e)) b e size enc (.slice (some ⟨w.heap.size, 0, none⟩) ys.length ys.length) ys := by
  subst hn
  have h1 := flat_len henc ys
  exact ⟨h1, .inr ⟨w.heap.size, ys.length, (flat enc ys).toArray, rfl, hb, heap_alloc_new w _, Nat.le_refl _, hl, by simpa using h1, by rw [List.take_of_length_le (by simpa using Nat.le_of_eq h1)]⟩⟩
def chgOk (x : List ByteArray) : Prop := ∀ c ∈ x, c.size ≤ 1048576 ∧ chgTxt c
set_option maxHeartbeats 1600000 in
theorem l4Lead_any (n : Nat) (r : ByteArray) (x : List ByteArray) (A : Option Addr) (c : Nat) (w : World) (h : RdL w w.heap.size A 1 encString x) (h3 : 3 ≤ n) (h8 : n ≤ 8) (hr : rowN n r) (hl : x.length ≤ 1048576) (hx : ∀ c ∈ x, c.size ≤ 1048576) :
    Calls Tryz.prog 91 #[.slice A x.length c, .string r] w fun e w' => ∃ A2 c2, e = .returned (.tuple #[.slice A2 (walkL (chF n) r x x.length).length c2, .string (after (chF n) r x x.length)]) ∧ OwnL w' w.heap.size w'.heap.size A2 1 encString (walkL (chF n) r x x.length) ∧ Below w.heap.size w w' := by
  have Hh := Lib.hid h
  have Hr := Lib.hid (after_rowN (f := chF n) (l := x) (fun r hr c _ => chF_row h3 h8 hr c) hr)
  have Hx := Lib.hid hx
  clear h hr hx
  go_enter Tryz.func91, Tryz.ntmps91
  go_wp2
  go_loopw [6, 7, 13] (fun s v j wr => ∃ k : Nat, k ≤ x.length ∧ j = .int .i64 k ∧ v = .string (after (chF n) r x k) ∧ Grow wr w.heap.size 9 1 encString s (walkL (chF n) r x k) ∧ Below w.heap.size w wr) (fun _ _ j _ => x.length - (intOf j).toNat)
  case atStart => exact ⟨0, by omega, by rfl, by rw [after_zero], Grow.nil, Below.refl _ _⟩
  case round =>
    obtain ⟨k, hk, rfl, rfl, hg, hbl⟩ := hrel
    have Hg := Lib.hid hg
    have Hb0 := Lib.hid hbl
    have hg0 := hbl.size
    have hlen : (walkL (chF n) r x k).length ≤ 1048577 := by rw [walkL_len]; omega
    clear hg hbl
    by_cases hlt : k < x.length
    · obtain ⟨gr, offr, hAr, hgr, hcr⟩ := Hh.out.at hlt
      subst hAr
      have s0 : wr.cell? ⟨gr, offr + k, none⟩ = some (.string x[k]) := (Hb0.out.cell (p := ⟨gr, offr + k, none⟩) hgr).trans (by have := hcr 0 _ rfl; rw [Nat.mul_one] at this; exact this)
      have hsu := Lib.hid (after_succ (chF n) r x k hlt)
      have hws := Lib.hid (walkL_succ (chF n) r x k)
      have hck := Hx.out _ (List.getElem_mem hlt)
      have hrk := Hr.out k
      obtain ⟨c0, hc0⟩ : ∃ c0, Hid (x[k] = c0) := ⟨_, Lib.hid rfl⟩
      rw [hc0.out] at s0 hsu hck
      obtain ⟨T, hT⟩ : ∃ T, Hid (after (chF n) r x k = T) := ⟨_, Lib.hid rfl⟩
      rw [hT.out] at hrk hsu hws ⊢
      have hap : Hid (∀ (W : World), Calls Tryz.prog 104 #[.string T, .string c0] W fun e w' => e = .returned (.string (chF n T c0)) ∧ Below W.heap.size W w') := Lib.hid (fun W => by have := l2Apply_any T c0 W hrk.1 hck; rw [hrk.2] at this; exact this)
      obtain ⟨U, hU⟩ : ∃ U, Hid (chF n T c0 = U) := ⟨_, Lib.hid rfl⟩
      rw [hU.out] at hap hsu
      have hone : (∀ u ∈ [Value.string T], u.oneCell' = true) := by simp [Value.oneCell']
      have Hone := Lib.hid hone
      clear hone hcr hck hrk
      go_wp2_with (first | (go_at_call 104; refine (hap.out _).mono ?_; rintro e w3 ⟨rfl, hb3⟩; have hg3 := hb3.size) | (at_builtin; go_loud (refine wpList_push rfl (.tmp 17) (.tmp 19) 25 rfl w.heap.size 9 _ 1 16 encString rfl String_info rfl (by omega) u6 (walkL (chF n) r x k) [T] 1 rfl rfl (by simp) Hg.out rfl encString_len Hone.out (by first | omega | (simp; omega)) (by omega) (by first | omega | (simp; omega)) ?_; intro v' w2 hg2 hb2 _)))
      go_roundw
      case rel => exact ⟨k + 1, by omega, by go_num, by rw [hsu.out], by rw [hws.out]; exact hg2.later hb3, (Hb0.out.trans hb2).trans (hb3.mono (by have := hb2.size; omega))⟩
      case measure => simp [intOf]; omega
    · obtain rfl : k = x.length := by omega
      obtain ⟨T, hT⟩ : ∃ T, Hid (after (chF n) r x x.length = T) := ⟨_, Lib.hid rfl⟩
      rw [hT.out]
      go_wp2
      go_ret2
      obtain ⟨A2, c2, hv, ho⟩ := Hg.out.own encString_len
      exact ⟨A2, c2, by rw [hv, hT.out]; rfl, ho, Hb0.out⟩
end Go.Proofs.YtglnehinmdmgmaaGreat
