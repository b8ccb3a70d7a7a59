import Derived.Test.YtkegbbndmfnolaaGreatDoorMBandsL01
import Derived.Test.YtkegbbndmfnolaaGreatDoorMBandsL03
import Derived.Test.YtkegbbndmfnolaaGreatDoorRows
import Derived.StillTailTactics
import Derived.Deep.RegionHeld3
import Derived.Lib.SliceRun
/-
 Contracts: valid changes, methods and calls (both sides).
-/
namespace Go.Proofs.YtkegbbndmfnolaaGreatDoor
open Go.RowKit
set_option linter.unusedVariables false
set_option linter.unusedSimpArgs false
set_option maxRecDepth 100000

theorem dgL_len (c : ByteArray) : (dgL c).length = c.size := by simp [dgL]
theorem dgL_at (c : ByteArray) (i : Nat) (hi : i < (dgL c).length) : (dgL c)[i] = dg c i := by simp [dgL]
theorem apP_dg (n : Int) (c : ByteArray) : apP n (dgL c) ↔ 0 < c.size ∧ (c.size : Int) ≠ n ∧ dg c 0 % 2 ≠ 0 ∧ dg c (c.size - 1) % 2 = n % 2 ∧ dg c (c.size - 1) ≤ n ∧ ∀ i : Nat, i + 1 < c.size → dg c i < dg c (i + 1) ∧ (dg c (i + 1) - dg c i) % 2 ≠ 0 := by
 unfold apP
 constructor
 ·rintro ⟨h, h1, h2, h3, h4, h5⟩
  simp only [dgL_at, dgL_len] at h h1 h2 h3 h4 h5
  exact ⟨h, h1, h2, h3, h4, h5⟩
 ·rintro ⟨h, h1, h2, h3, h4, h5⟩
  refine ⟨by rw [dgL_len]; exact h, ?_⟩
  simp only [dgL_at, dgL_len]
  exact ⟨h1, h2, h3, h4, h5⟩
theorem change_iff {n : Int} {c : ByteArray} (h : inB n 3 8) : (0 < c.size ∧ (c.size : Int) ≤ n - 2 ∧ chainP n c) ↔ (digsP c ∧ apP n (dgL c)) := by
 obtain ⟨hn3, hn8⟩ := h
 rw [apP_dg]
 constructor
 ·rintro ⟨h0, h1, h2, h3⟩
  have hs : ∀ i, i < c.size → 1 ≤ dg c i ∧ dg c i ≤ n := fun i hi => by
   have hb := steps_bound i (fun j hj => h2 j (by omega))
   obtain ⟨a1, a2, _⟩ := h2 i hi
   omega
  have hl : dgP c c.size = dg c (c.size - 1) := by
   obtain ⟨m, hm⟩ : ∃ m, c.size = m + 1 := ⟨c.size - 1, by omega⟩
   rw [hm]; rfl
  rw [hl] at h3
  have hz := h2 0 h0
  have hlast := hs (c.size - 1) (by omega)
  refine ⟨fun i hi => by have := hs i hi; unfold dg at this; omega, h0, by omega, ?_, by omega, hlast.2, fun i hi => ?_⟩
  ·have := hz.2.2; simp only [dgP] at this; omega
  ·obtain ⟨a1, _, a3⟩ := h2 (i + 1) hi
   exact ⟨a1, a3⟩
 ·rintro ⟨hd, h0, h1, h2, h3, h4, h5⟩
  have hge : ∀ i : Nat, i < c.size → (i : Int) + 1 ≤ dg c i ∧ dg c i % 2 = ((i : Int) + 1) % 2 := fun i => by
   induction i with
   | zero => intro _; have := hd 0 h0; unfold dg at h2 ⊢; constructor <;> omega
   | succ i ih =>
    intro hi
    obtain ⟨a1, a2⟩ := ih (by omega)
    obtain ⟨a3, a4⟩ := h5 i hi
    push_cast
    constructor <;> omega
  have hle : ∀ m i : Nat, i + m = c.size - 1 → dg c i ≤ n := fun m => by
   induction m with
   | zero => intro i hi; rw [show i = c.size - 1 from by omega]; exact h4
   | succ m ih =>
    intro i hi
    have := ih (i + 1) (by omega)
    have := (h5 i (by omega)).1
    omega
  have hl := hge (c.size - 1) (by omega)
  have hlP : dgP c c.size = dg c (c.size - 1) := by
   obtain ⟨m, hm⟩ : ∃ m, c.size = m + 1 := ⟨c.size - 1, by omega⟩
   rw [hm]; rfl
  refine ⟨h0, by omega, fun i hi => ⟨?_, hle (c.size - 1 - i) i (by omega), ?_⟩, by rw [hlP]; omega⟩
  ·cases i with
   | zero => have := (hge 0 h0).1; simp only [dgP]; omega
   | succ i => simp only [dgP]; exact (h5 i hi).1
  ·cases i with
   | zero => simp only [dgP]; omega
   | succ i => simp only [dgP]; exact (h5 i hi).2
set_option maxHeartbeats 1600000 in
theorem goodChange_any (n : Int) (c : ByteArray) (w : World) (hc : c.size ≤ 1048576) :
  Calls Tryz.prog 127 #[.int .i64 n, .string c] w fun e w' => e = .returned (.bool (B (changeP n c))) ∧ Below w.heap.size w w' := by
 by_cases h1 : inB n 3 8
 ·have hci := change_iff (c := c) h1
  obtain ⟨h11, h12⟩ := h1
  by_cases hd : c = dash
  ·have hd2 : (c.toList == [45]) = true := by rw [hd, ByteArray.toList_eq]; rfl
   have Hd := Lib.hid hd
   clear hd hci
   by_cases hn : n % 2 = 0
   all_goals
    go_enter Tryz.func127, Tryz.ntmps127
    go_wp2_with (go_at_call 105; refine (isStage_t n _ h11 h12).mono ?_; rintro e w' ⟨rfl, rfl⟩)
    go_ret
    first
     | exact ⟨by rw [B_t (show changeP n c from ⟨⟨h11, h12⟩, .inl ⟨Hd.out, hn⟩⟩)]; simp [hn], Below.refl _ _⟩
     | exact ⟨by rw [B_f (show ¬ changeP n c from fun h => by
       rcases h.2 with ⟨_, h2⟩ | ⟨h2, _⟩
       ·exact hn h2
       ·exact h2 Hd.out)]; simp [hn], Below.refl _ _⟩
  ·have hd2 := toList_dash hd
   have hch : Hid (changeP n c ↔ digsP c ∧ apP n (dgL c)) := Lib.hid ⟨fun h => by
    rcases h.2 with ⟨h2, _⟩ | ⟨_, h2⟩
    ·exact absurd h2 hd
    ·exact hci.1 h2, fun h => ⟨⟨h11, h12⟩, .inr ⟨hd, hci.2 h⟩⟩⟩
   clear hd hci
   by_cases hp : digsP c
   ·have HP := Lib.hid hp
    have hel : Hid (∀ x ∈ dgL c, 1 ≤ x ∧ x ≤ 8) := Lib.hid (fun x hx => by
     obtain ⟨i, hi, rfl⟩ := List.getElem_of_mem hx
     rw [dgL_at]
     have := hp i (by rw [dgL_len] at hi; exact hi)
     unfold dg; omega)
    have hll : (dgL c).length ≤ 1048576 := by rw [dgL_len]; exact hc
    obtain ⟨L, hL⟩ : ∃ L, Hid (dgL c = L) := ⟨_, Lib.hid rfl⟩
    have hpt := fun W => places_t c W hc HP.out
    rw [hL.out] at hel hll hch hpt
    have Hpt := Lib.hid hpt
    clear hp hpt
    by_cases ha : apP n L
    all_goals
     first | have e2 := B_t ha | have e2 := B_f ha
     have Ha := Lib.hid ha
     clear ha
     go_enter Tryz.func127, Tryz.ntmps127
     go_wp2_with (first | (go_at_call 105; refine (isStage_t n _ h11 h12).mono ?_; rintro e w' ⟨rfl, rfl⟩) | (go_at_call 158; refine (Hpt.out _).mono ?_; rintro e w1 ⟨A, c2, rfl, ho, hb1⟩; have Ho := Lib.hid ho; clear ho) | (go_at_call 159; refine (arePlaces_any n L _ _ _ (Ho.out.rd encInt_len) hll ⟨by omega, h12⟩ hel.out).mono ?_; rintro e w2 ⟨rfl, hb2⟩))
     go_ret
     first
      | exact ⟨ret_t (hch.out.2 ⟨HP.out, Ha.out⟩), hb1.trans (hb2.mono hb1.size)⟩
      | exact ⟨ret_f (fun h => Ha.out (hch.out.1 h).2), hb1.trans (hb2.mono hb1.size)⟩
      | exact ⟨by show Ending.returned (Value.bool (B (apP n L))) = Ending.returned (Value.bool (B (changeP n c))); rw [B_t Ha.out, B_t (hch.out.2 ⟨HP.out, Ha.out⟩)], hb1.trans (hb2.mono hb1.size)⟩
      | exact ⟨by show Ending.returned (Value.bool (B (apP n L))) = Ending.returned (Value.bool (B (changeP n c))); rw [B_f Ha.out, B_f (fun h => Ha.out (hch.out.1 h).2)], hb1.trans (hb2.mono hb1.size)⟩
   ·have HP := Lib.hid hp
    have hpf := fun W => places_f c W hc hp
    have Hpf := Lib.hid hpf
    clear hp hpf
    go_enter Tryz.func127, Tryz.ntmps127
    go_wp2_with (first | (go_at_call 105; refine (isStage_t n _ h11 h12).mono ?_; rintro e w' ⟨rfl, rfl⟩) | (go_at_call 158; refine (Hpf.out _).mono ?_; rintro e w1 ⟨rfl, hb1⟩))
    go_ret
    exact ⟨ret_f (fun h => HP.out (hch.out.1 h).1), hb1⟩
 ·have h2 : Hid (n < 3 ∨ 8 < n) := Lib.hid (by unfold inB at h1; omega)
  have H1 := Lib.hid h1
  clear h1
  go_enter Tryz.func127, Tryz.ntmps127
  go_wp2_with (go_at_call 105; refine (isStage_f n _ h2.out).mono ?_; rintro e w' ⟨rfl, rfl⟩)
  go_ret
  exact ⟨ret_f (fun h => H1.out h.1), Below.refl _ _⟩
end Go.Proofs.YtkegbbndmfnolaaGreatDoor

/-
 Contracts of the helper functions that the laws use for lists of String.
-/
namespace Go.Proofs.YtkegbbndmfnolaaGreatDoor
open Go.RowKit Go.ChangeShapes Go.WideShapes
set_option linter.unusedVariables false
set_option linter.unusedSimpArgs false
set_option maxRecDepth 100000


def encString (x : ByteArray) : List Value := [.string x]
theorem encString_len (x : ByteArray) : (encString x).length = 1 := rfl
def String_small (lim : Int) (x : ByteArray) : Prop := (x.size : Int) ≤ lim
theorem String_info : (Tryz.prog.info? 9).map (fun i => (i.zero, i.size, i.bytes)) = some (some (.string ⟨#[]⟩), 1, 16) := by kernel_rfl

/-- What the marks make of a list of so many elements. -/
def markStringL (m q : Nat) : List ByteArray := (List.range m).map fun i : Nat => ((markT (q + i)) : ByteArray)
end Go.Proofs.YtkegbbndmfnolaaGreatDoor
/-
 Contracts: valid methods and calls (both sides).
-/
namespace Go.Proofs.YtkegbbndmfnolaaGreatDoor
open Go.RowKit
set_option linter.unusedVariables false
set_option linter.unusedSimpArgs false
set_option maxRecDepth 100000

/-- A method in memory: the name, the stage, the changes, their address, their room. -/
structure Mth where
 name : ByteArray
 stage : Int
 x : List ByteArray
 A : Option Addr
 c : Nat
def Mth.enc (m : Mth) : List Value := [.string m.name, .int .i64 m.stage, .slice m.A m.x.length m.c]
def changesP (n : Int) (l : List ByteArray) : Prop := (1 ≤ l.length ∧ l.length ≤ 40) ∧ ∀ (i : Nat) (hi : i < l.length), changeP n l[i]
def methP (m : Mth) : Prop := isWordP m.name ∧ changesP m.stage m.x
def callsP (m : Mth) (b s : ByteArray) : Prop := methP m ∧ changeP m.stage b ∧ changeP m.stage s
theorem changesP.stage {n : Int} {l : List ByteArray} (h : changesP n l) : inB n 3 8 := (h.2 0 (by have := h.1.1; omega)).1

set_option maxHeartbeats 1600000 in
theorem areChanges_any (n : Int) (l : List ByteArray) (A : Option Addr) (c : Nat) (w : World) (h : RdL w w.heap.size A 1 encString l) (hl : l.length ≤ 1048576) (hs : ∀ x ∈ l, String_small 1048576 x) :
  Calls Tryz.prog 157 #[.int .i64 n, .slice A l.length c] w fun e w' => e = .returned (.bool (B (changesP n l))) ∧ Below w.heap.size w w' := by
 have Hh := Lib.hid h
 have Hs := Lib.hid hs
 clear h hs
 by_cases h1 : l.length < 1
 ·go_enter Tryz.func157, Tryz.ntmps157
  go_wp2
  go_ret
  exact ⟨ret_f (fun h => by have := h.1.1; omega), Below.refl _ _⟩
 ·by_cases h2 : 40 < l.length
  ·go_enter Tryz.func157, Tryz.ntmps157
   go_wp2
   go_ret
   exact ⟨ret_f (fun h => by have := h.1.2; omega), Below.refl _ _⟩
  ·go_enter Tryz.func157, Tryz.ntmps157
   go_wp2
   go_loopw [17] (fun i wr => ∃ k : Nat, k ≤ l.length ∧ i = .int .i64 k ∧ (∀ (j : Nat) (hj : j < l.length), j < k → changeP n l[j]) ∧ Below w.heap.size w wr) (fun i _ => l.length - (intOf i).toNat)
   case atStart => exact ⟨0, by omega, by rfl, fun j _ hj => by omega, Below.refl _ _⟩
   case round =>
    obtain ⟨k, hk, rfl, hq, hbl⟩ := hrel
    have Hq := Lib.hid hq
    have Hbl := Lib.hid hbl
    have hgs := hbl.size
    clear hq hbl
    by_cases hlt : k < l.length
    ·obtain ⟨g, off, hA, hg, hcell⟩ := Hh.out.at hlt
     subst hA
     have r0 : wr.cell? ⟨g, off + k, none⟩ = some (.string l[k]) := (Hbl.out.cell (p := ⟨g, off + k, none⟩) hg).trans (by have := hcell 0 _ rfl; rw [Nat.mul_one] at this; exact this)
     have hsm : (l[k].size : Int) ≤ 1048576 := Hs.out _ (List.getElem_mem hlt)
     obtain ⟨x, hx⟩ : ∃ x, Hid (l[k] = x) := ⟨_, Lib.hid rfl⟩
     rw [hx.out] at r0 hsm
     clear hcell
     by_cases hc : changeP n x
     ·have e1 := B_t hc
      have Hc := Lib.hid hc
      clear hc
      go_wp2_with (go_at_call 127; refine (goodChange_any n x _ (by omega)).mono ?_; rintro e w' ⟨rfl, hb2⟩)
      go_roundw
      case rel =>
       refine ⟨k + 1, by omega, by go_num, fun j hj h1 => ?_, Hbl.out.trans (hb2.mono hgs)⟩
       rcases Nat.lt_or_eq_of_le (Nat.le_of_lt_succ h1) with h' | rfl
       ·exact Hq.out j hj h'
       ·rw [hx.out]; exact Hc.out
      case measure => simp [intOf]; omega
     ·have e1 := B_f hc
      have Hc := Lib.hid hc
      clear hc
      go_wp2_with (go_at_call 127; refine (goodChange_any n x _ (by omega)).mono ?_; rintro e w' ⟨rfl, hb2⟩)
      go_ret
      exact ⟨ret_f (fun h => Hc.out (by rw [← hx.out]; exact h.2 k hlt)), Hbl.out.trans (hb2.mono hgs)⟩
    ·obtain rfl : k = l.length := by omega
     go_wp2
     go_ret
     exact ⟨ret_t ⟨⟨by omega, by omega⟩, fun i hi => Hq.out i hi hi⟩, Hbl.out⟩
theorem goodMethod_any (m : Mth) (w : World) (h : RdL w w.heap.size m.A 1 encString m.x) (hn : m.name.size ≤ 1048576) (hl : m.x.length ≤ 1048576) (hs : ∀ x ∈ m.x, String_small 1048576 x) :
  Calls Tryz.prog 126 #[.agg #[.string m.name, .int .i64 m.stage, .slice m.A m.x.length m.c]] w fun e w' => e = .returned (.bool (B (methP m))) ∧ Below w.heap.size w w' := by
 have hb0 : Hid (Below w.heap.size w (w.alloc (.cells #[.string m.name, .int .i64 m.stage, .slice m.A m.x.length m.c] 26))) := Lib.hid ((Below.refl _ _).alloc (Nat.le_refl _) _)
 have h2 : Hid (RdL (w.alloc (.cells #[.string m.name, .int .i64 m.stage, .slice m.A m.x.length m.c] 26)) (w.alloc (.cells #[.string m.name, .int .i64 m.stage, .slice m.A m.x.length m.c] 26)).heap.size m.A 1 encString m.x) := Lib.hid ((h.below hb0.out (Nat.le_refl _)).more hb0.out.size)
 have Hs := Lib.hid hs
 clear h hs
 by_cases c1 : isWordP m.name
 ·have e1 := B_t c1
  have C1 := Lib.hid c1
  clear c1
  by_cases c2 : changesP m.stage m.x
  all_goals
   first | have e2 := B_t c2 | have e2 := B_f c2
   have C2 := Lib.hid c2
   clear c2
   go_enter Tryz.func126, Tryz.ntmps126
   go_wp2_with (first | (go_at_call 156; refine (isWord_any _ _ (by omega)).mono ?_; rintro e w' ⟨rfl, rfl⟩) | (go_at_call 157; refine (areChanges_any _ m.x _ _ _ h2.out hl Hs.out).mono ?_; rintro e w2 ⟨rfl, hb2⟩))
   go_ret
   first
    | exact ⟨ret_t ⟨C1.out, C2.out⟩, hb0.out.trans (hb2.mono hb0.out.size)⟩
    | exact ⟨ret_f (fun h => C2.out h.2), hb0.out.trans (hb2.mono hb0.out.size)⟩
    | exact ⟨by show Ending.returned (Value.bool (B (changesP m.stage m.x))) = Ending.returned (Value.bool (B (methP m))); rw [B_t C2.out, B_t (show methP m from ⟨C1.out, C2.out⟩)], hb0.out.trans (hb2.mono hb0.out.size)⟩
    | exact ⟨by show Ending.returned (Value.bool (B (changesP m.stage m.x))) = Ending.returned (Value.bool (B (methP m))); rw [B_f C2.out, B_f (fun h : methP m => C2.out h.2)], hb0.out.trans (hb2.mono hb0.out.size)⟩
 ·have e1 := B_f c1
  have C1 := Lib.hid c1
  clear c1
  go_enter Tryz.func126, Tryz.ntmps126
  go_wp2_with (first | (go_at_call 156; refine (isWord_any _ _ (by omega)).mono ?_; rintro e w' ⟨rfl, rfl⟩))
  go_ret
  exact ⟨ret_f (fun h => C1.out h.1), hb0.out⟩
set_option maxHeartbeats 1600000 in
theorem l4Good_any (m : Mth) (w : World) (h : RdL w w.heap.size m.A 1 encString m.x) (hn : m.name.size ≤ 1048576) (hl : m.x.length ≤ 1048576) (hs : ∀ x ∈ m.x, String_small 1048576 x) :
  Calls Tryz.prog 60 #[.agg #[.string m.name, .int .i64 m.stage, .slice m.A m.x.length m.c]] w fun e w' => e = .returned (.bool (B (methP m))) ∧ Below w.heap.size w w' := by
 have hb0 : Hid (Below w.heap.size w (w.alloc (.cells #[.string m.name, .int .i64 m.stage, .slice m.A m.x.length m.c] 26))) := Lib.hid ((Below.refl _ _).alloc (Nat.le_refl _) _)
 have Hh := Lib.hid h
 have Hs := Lib.hid hs
 clear h hs
 go_enter Tryz.func60, Tryz.ntmps60
 go_wp2
 go_loop [8] (fun i => ∃ k : Nat, k ≤ m.x.length ∧ i = .int .i64 k ∧ (∀ (j : Nat) (hj : j < m.x.length), j < k → changeP m.stage m.x[j])) (fun i => m.x.length - (intOf i).toNat)
 case atStart => exact ⟨0, by omega, by rfl, fun j _ hj => by omega⟩
 case round =>
  obtain ⟨k, hk, rfl, hq⟩ := hrel
  have Hq := Lib.hid hq
  clear hq
  by_cases hlt : k < m.x.length
  ·obtain ⟨g, off, hA, hg, hcell⟩ := Hh.out.at hlt
   have r0 : (w.alloc (.cells #[.string m.name, .int .i64 m.stage, .slice m.A m.x.length m.c] 26)).cell? ⟨g, off + k, none⟩ = some (.string m.x[k]) := (hb0.out.cell (p := ⟨g, off + k, none⟩) hg).trans (by have := hcell 0 _ rfl; rw [Nat.mul_one] at this; exact this)
   have hsm : (m.x[k].size : Int) ≤ 1048576 := Hs.out _ (List.getElem_mem hlt)
   rw [hA] at r0 ⊢
   obtain ⟨x, hx⟩ : ∃ x, Hid (m.x[k] = x) := ⟨_, Lib.hid rfl⟩
   rw [hx.out] at r0 hsm
   clear hcell
   by_cases hc : changeP m.stage x
   ·have e1 := B_t hc
    have Hc := Lib.hid hc
    clear hc
    go_wp2_with (go_at_call 114; refine (l2Change_any m.stage x _ (by omega)).mono ?_; rintro e w' ⟨rfl, rfl⟩)
    go_round
    case rel =>
     refine ⟨k + 1, by omega, by go_num, fun j hj h1 => ?_⟩
     rcases Nat.lt_or_eq_of_le (Nat.le_of_lt_succ h1) with h' | rfl
     ·exact Hq.out j hj h'
     ·rw [hx.out]; exact Hc.out
    case measure => simp [intOf]; omega
   ·have e1 := B_f hc
    have Hc := Lib.hid hc
    clear hc
    go_wp2_with (go_at_call 114; refine (l2Change_any m.stage x _ (by omega)).mono ?_; rintro e w' ⟨rfl, rfl⟩)
    go_ret
    exact ⟨ret_f (fun h => Hc.out (by rw [← hx.out]; exact h.2.2 k hlt)), by first | exact hb0.out | (rw [← hA]; exact hb0.out)⟩
  ·obtain rfl : k = m.x.length := by omega
   by_cases c1 : isWordP m.name
   ·have e1 := B_t c1
    by_cases c2 : inB m.stage 3 8
    ·have e2 := B_t c2
     by_cases c3 : inB (m.x.length : Int) 1 40
     ·have e3 := B_t c3
      have C := Lib.hid (And.intro c1 c3)
      clear c1 c2 c3
      go_wp2_with (first | (go_at_call 115; refine (l4Name_any _ _ (by omega)).mono ?_; rintro e w' ⟨rfl, rfl⟩) | (go_at_call 99; refine (l1In_any _ _ _ _).mono ?_; rintro e w' ⟨rfl, rfl⟩))
      go_ret
      exact ⟨ret_t ⟨C.out.1, ⟨by have := C.out.2.1; omega, by have := C.out.2.2; omega⟩, fun i hi => Hq.out i hi hi⟩, hb0.out⟩
     ·have e3 := B_f c3
      have C := Lib.hid c3
      clear c1 c2 c3
      go_wp2_with (first | (go_at_call 115; refine (l4Name_any _ _ (by omega)).mono ?_; rintro e w' ⟨rfl, rfl⟩) | (go_at_call 99; refine (l1In_any _ _ _ _).mono ?_; rintro e w' ⟨rfl, rfl⟩))
      go_ret
      exact ⟨ret_f (fun h => C.out ⟨by have := h.2.1.1; omega, by have := h.2.1.2; omega⟩), hb0.out⟩
    ·have e2 := B_f c2
     have C := Lib.hid c2
     clear c1 c2
     go_wp2_with (first | (go_at_call 115; refine (l4Name_any _ _ (by omega)).mono ?_; rintro e w' ⟨rfl, rfl⟩) | (go_at_call 99; refine (l1In_any _ _ _ _).mono ?_; rintro e w' ⟨rfl, rfl⟩))
     go_ret
     exact ⟨ret_f (fun h => C.out h.2.stage), hb0.out⟩
   ·have e1 := B_f c1
    have C := Lib.hid c1
    clear c1
    go_wp2_with (first | (go_at_call 115; refine (l4Name_any _ _ (by omega)).mono ?_; rintro e w' ⟨rfl, rfl⟩) | (go_at_call 99; refine (l1In_any _ _ _ _).mono ?_; rintro e w' ⟨rfl, rfl⟩))
    go_ret
    exact ⟨ret_f (fun h => C.out h.1), hb0.out⟩



set_option maxHeartbeats 1600000 in
theorem goodCalls_any (m : Mth) (b s : ByteArray) (w : World) (h : RdL w w.heap.size m.A 1 encString m.x) (hn : m.name.size ≤ 1048576) (hl : m.x.length ≤ 1048576) (hs : ∀ x ∈ m.x, String_small 1048576 x) (hb : b.size ≤ 1048576) (hss : s.size ≤ 1048576) :
  Calls Tryz.prog 70 #[.agg #[.string m.name, .int .i64 m.stage, .slice m.A m.x.length m.c], .agg #[.string b, .string s]] w fun e w' => e = .returned (.bool (B (callsP m b s))) ∧ Below w.heap.size w w' := by
 have hb0 : Hid (Below w.heap.size w ((w.alloc (.cells #[.string m.name, .int .i64 m.stage, .slice m.A m.x.length m.c] 26)).alloc (.cells #[.string b, .string s] 28))) := Lib.hid (((Below.refl _ _).alloc (Nat.le_refl _) _).alloc (by simp) _)
 have h2 : Hid (RdL ((w.alloc (.cells #[.string m.name, .int .i64 m.stage, .slice m.A m.x.length m.c] 26)).alloc (.cells #[.string b, .string s] 28)) (((w.alloc (.cells #[.string m.name, .int .i64 m.stage, .slice m.A m.x.length m.c] 26)).alloc (.cells #[.string b, .string s] 28))).heap.size m.A 1 encString m.x) := Lib.hid ((h.below hb0.out (Nat.le_refl _)).more hb0.out.size)
 have Hs := Lib.hid hs
 clear h hs
 by_cases c1 : methP m
 ·have e1 := B_t c1
  have C1 := Lib.hid c1
  clear c1
  by_cases c2 : changeP m.stage b
  ·have e2 := B_t c2
   have C2 := Lib.hid c2
   clear c2
   by_cases c3 : changeP m.stage s
   all_goals
    first | have e3 := B_t c3 | have e3 := B_f c3
    have C3 := Lib.hid c3
    clear c3
    go_enter Tryz.func70, Tryz.ntmps70
    go_wp2_with (first | (go_at_call 126; refine (goodMethod_any m _ h2.out hn hl Hs.out).mono ?_; rintro e w1 ⟨rfl, hb1⟩; have hw1 := hb0.out.trans (hb1.mono hb0.out.size); have q1 := (hb1.cell (p := ⟨w.heap.size, 1, none⟩) (by simp; omega)).trans (show _ = some (.int .i64 m.stage) from by simp [go_sem]); have q2 := (hb1.cell (p := ⟨w.heap.size + 1, 0, none⟩) (by simp)).trans (show _ = some (.string b) from by simp [go_sem]); have q3 := (hb1.cell (p := ⟨w.heap.size + 1, 1, none⟩) (by simp)).trans (show _ = some (.string s) from by simp [go_sem]); have hws : w.heap.size + 2 ≤ w1.heap.size := by have := hb1.size; simpa using this) | (go_at_call 127; refine (goodChange_any _ _ _ (by omega)).mono ?_; rintro e w2 ⟨rfl, hb2⟩; have q1 := (hb2.cell (p := ⟨w.heap.size, 1, none⟩) (show w.heap.size < _ by omega)).trans q1; have q3 := (hb2.cell (p := ⟨w.heap.size + 1, 1, none⟩) (show w.heap.size + 1 < _ by omega)).trans q3; have hw1 := hw1.trans (hb2.mono hw1.size); have hws := Nat.le_trans hws hb2.size))
    go_ret
    first
     | exact ⟨ret_t ⟨C1.out, C2.out, C3.out⟩, hw1⟩
     | exact ⟨ret_f (fun h => C3.out h.2.2), hw1⟩
     | exact ⟨by show Ending.returned (Value.bool (B (changeP m.stage s))) = Ending.returned (Value.bool (B (callsP m b s))); rw [B_t C3.out, B_t (show callsP m b s from ⟨C1.out, C2.out, C3.out⟩)], hw1⟩
     | exact ⟨by show Ending.returned (Value.bool (B (changeP m.stage s))) = Ending.returned (Value.bool (B (callsP m b s))); rw [B_f C3.out, B_f (fun h : callsP m b s => C3.out h.2.2)], hw1⟩
  ·have e2 := B_f c2
   have C2 := Lib.hid c2
   clear c2
   go_enter Tryz.func70, Tryz.ntmps70
   go_wp2_with (first | (go_at_call 126; refine (goodMethod_any m _ h2.out hn hl Hs.out).mono ?_; rintro e w1 ⟨rfl, hb1⟩; have hw1 := hb0.out.trans (hb1.mono hb0.out.size); have q1 := (hb1.cell (p := ⟨w.heap.size, 1, none⟩) (by simp; omega)).trans (show _ = some (.int .i64 m.stage) from by simp [go_sem]); have q2 := (hb1.cell (p := ⟨w.heap.size + 1, 0, none⟩) (by simp)).trans (show _ = some (.string b) from by simp [go_sem]); have q3 := (hb1.cell (p := ⟨w.heap.size + 1, 1, none⟩) (by simp)).trans (show _ = some (.string s) from by simp [go_sem]); have hws : w.heap.size + 2 ≤ w1.heap.size := by have := hb1.size; simpa using this) | (go_at_call 127; refine (goodChange_any _ _ _ (by omega)).mono ?_; rintro e w2 ⟨rfl, hb2⟩; have q1 := (hb2.cell (p := ⟨w.heap.size, 1, none⟩) (show w.heap.size < _ by omega)).trans q1; have q3 := (hb2.cell (p := ⟨w.heap.size + 1, 1, none⟩) (show w.heap.size + 1 < _ by omega)).trans q3; have hw1 := hw1.trans (hb2.mono hw1.size); have hws := Nat.le_trans hws hb2.size))
   go_ret
   exact ⟨ret_f (fun h => C2.out h.2.1), hw1⟩
 ·have e1 := B_f c1
  have C1 := Lib.hid c1
  clear c1
  go_enter Tryz.func70, Tryz.ntmps70
  go_wp2_with (first | (go_at_call 126; refine (goodMethod_any m _ h2.out hn hl Hs.out).mono ?_; rintro e w1 ⟨rfl, hb1⟩; have hw1 := hb0.out.trans (hb1.mono hb0.out.size); have q1 := (hb1.cell (p := ⟨w.heap.size, 1, none⟩) (by simp; omega)).trans (show _ = some (.int .i64 m.stage) from by simp [go_sem]); have q2 := (hb1.cell (p := ⟨w.heap.size + 1, 0, none⟩) (by simp)).trans (show _ = some (.string b) from by simp [go_sem]); have q3 := (hb1.cell (p := ⟨w.heap.size + 1, 1, none⟩) (by simp)).trans (show _ = some (.string s) from by simp [go_sem]); have hws : w.heap.size + 2 ≤ w1.heap.size := by have := hb1.size; simpa using this) | (go_at_call 127; refine (goodChange_any _ _ _ (by omega)).mono ?_; rintro e w2 ⟨rfl, hb2⟩; have q1 := (hb2.cell (p := ⟨w.heap.size, 1, none⟩) (show w.heap.size < _ by omega)).trans q1; have q3 := (hb2.cell (p := ⟨w.heap.size + 1, 1, none⟩) (show w.heap.size + 1 < _ by omega)).trans q3; have hw1 := hw1.trans (hb2.mono hw1.size); have hws := Nat.le_trans hws hb2.size))
  go_ret
  exact ⟨ret_f (fun h => C1.out h.1), hw1⟩
set_option maxHeartbeats 1600000 in
theorem l8Good_any (m : Mth) (b s : ByteArray) (w : World) (h : RdL w w.heap.size m.A 1 encString m.x) (hn : m.name.size ≤ 1048576) (hl : m.x.length ≤ 1048576) (hs : ∀ x ∈ m.x, String_small 1048576 x) (hb : b.size ≤ 1048576) (hss : s.size ≤ 1048576) :
  Calls Tryz.prog 116 #[.agg #[.string m.name, .int .i64 m.stage, .slice m.A m.x.length m.c], .agg #[.string b, .string s]] w fun e w' => e = .returned (.bool (B (callsP m b s))) ∧ Below w.heap.size w w' := by
 have hb0 : Hid (Below w.heap.size w ((w.alloc (.cells #[.string m.name, .int .i64 m.stage, .slice m.A m.x.length m.c] 26)).alloc (.cells #[.string b, .string s] 28))) := Lib.hid (((Below.refl _ _).alloc (Nat.le_refl _) _).alloc (by simp) _)
 have h2 : Hid (RdL ((w.alloc (.cells #[.string m.name, .int .i64 m.stage, .slice m.A m.x.length m.c] 26)).alloc (.cells #[.string b, .string s] 28)) (((w.alloc (.cells #[.string m.name, .int .i64 m.stage, .slice m.A m.x.length m.c] 26)).alloc (.cells #[.string b, .string s] 28))).heap.size m.A 1 encString m.x) := Lib.hid ((h.below hb0.out (Nat.le_refl _)).more hb0.out.size)
 have Hs := Lib.hid hs
 clear h hs
 by_cases c1 : methP m
 ·have e1 := B_t c1
  have C1 := Lib.hid c1
  clear c1
  by_cases c2 : changeP m.stage b
  ·have e2 := B_t c2
   have C2 := Lib.hid c2
   clear c2
   by_cases c3 : changeP m.stage s
   all_goals
    first | have e3 := B_t c3 | have e3 := B_f c3
    have C3 := Lib.hid c3
    clear c3
    go_enter Tryz.func116, Tryz.ntmps116
    go_wp2_with (first | (go_at_call 60; refine (l4Good_any m _ h2.out hn hl Hs.out).mono ?_; rintro e w1 ⟨rfl, hb1⟩; have hw1 := hb0.out.trans (hb1.mono hb0.out.size); have q1 := (hb1.cell (p := ⟨w.heap.size, 1, none⟩) (by simp; omega)).trans (show _ = some (.int .i64 m.stage) from by simp [go_sem]); have q2 := (hb1.cell (p := ⟨w.heap.size + 1, 0, none⟩) (by simp)).trans (show _ = some (.string b) from by simp [go_sem]); have q3 := (hb1.cell (p := ⟨w.heap.size + 1, 1, none⟩) (by simp)).trans (show _ = some (.string s) from by simp [go_sem]); have hws : w.heap.size + 2 ≤ w1.heap.size := by have := hb1.size; simpa using this) | (go_at_call 114; refine (l2Change_any _ _ _ (by omega)).mono ?_; rintro e w' ⟨rfl, rfl⟩))
    go_ret
    first
     | exact ⟨ret_t ⟨C1.out, C2.out, C3.out⟩, hw1⟩
     | exact ⟨ret_f (fun h => C3.out h.2.2), hw1⟩
     | exact ⟨by show Ending.returned (Value.bool (B (changeP m.stage s))) = Ending.returned (Value.bool (B (callsP m b s))); rw [B_t C3.out, B_t (show callsP m b s from ⟨C1.out, C2.out, C3.out⟩)], hw1⟩
     | exact ⟨by show Ending.returned (Value.bool (B (changeP m.stage s))) = Ending.returned (Value.bool (B (callsP m b s))); rw [B_f C3.out, B_f (fun h : callsP m b s => C3.out h.2.2)], hw1⟩
  ·have e2 := B_f c2
   have C2 := Lib.hid c2
   clear c2
   go_enter Tryz.func116, Tryz.ntmps116
   go_wp2_with (first | (go_at_call 60; refine (l4Good_any m _ h2.out hn hl Hs.out).mono ?_; rintro e w1 ⟨rfl, hb1⟩; have hw1 := hb0.out.trans (hb1.mono hb0.out.size); have q1 := (hb1.cell (p := ⟨w.heap.size, 1, none⟩) (by simp; omega)).trans (show _ = some (.int .i64 m.stage) from by simp [go_sem]); have q2 := (hb1.cell (p := ⟨w.heap.size + 1, 0, none⟩) (by simp)).trans (show _ = some (.string b) from by simp [go_sem]); have q3 := (hb1.cell (p := ⟨w.heap.size + 1, 1, none⟩) (by simp)).trans (show _ = some (.string s) from by simp [go_sem]); have hws : w.heap.size + 2 ≤ w1.heap.size := by have := hb1.size; simpa using this) | (go_at_call 114; refine (l2Change_any _ _ _ (by omega)).mono ?_; rintro e w' ⟨rfl, rfl⟩))
   go_ret
   exact ⟨ret_f (fun h => C2.out h.2.1), hw1⟩
 ·have e1 := B_f c1
  have C1 := Lib.hid c1
  clear c1
  go_enter Tryz.func116, Tryz.ntmps116
  go_wp2_with (first | (go_at_call 60; refine (l4Good_any m _ h2.out hn hl Hs.out).mono ?_; rintro e w1 ⟨rfl, hb1⟩; have hw1 := hb0.out.trans (hb1.mono hb0.out.size); have q1 := (hb1.cell (p := ⟨w.heap.size, 1, none⟩) (by simp; omega)).trans (show _ = some (.int .i64 m.stage) from by simp [go_sem]); have q2 := (hb1.cell (p := ⟨w.heap.size + 1, 0, none⟩) (by simp)).trans (show _ = some (.string b) from by simp [go_sem]); have q3 := (hb1.cell (p := ⟨w.heap.size + 1, 1, none⟩) (by simp)).trans (show _ = some (.string s) from by simp [go_sem]); have hws : w.heap.size + 2 ≤ w1.heap.size := by have := hb1.size; simpa using this) | (go_at_call 114; refine (l2Change_any _ _ _ (by omega)).mono ?_; rintro e w' ⟨rfl, rfl⟩))
  go_ret
  exact ⟨ret_f (fun h => C1.out h.1), hw1⟩
theorem sGoodCalls_any (m : Mth) (b s : ByteArray) (w : World) (h : RdL w w.heap.size m.A 1 encString m.x) (hn : m.name.size ≤ 1048576) (hl : m.x.length ≤ 1048576) (hs : ∀ x ∈ m.x, String_small 1048576 x) (hb : b.size ≤ 1048576) (hss : s.size ≤ 1048576) :
  Calls Tryz.prog 61 #[.agg #[.string m.name, .int .i64 m.stage, .slice m.A m.x.length m.c], .agg #[.string b, .string s]] w fun e w' => e = .returned (.bool (B (callsP m b s))) ∧ Below w.heap.size w w' := by
 have hb0 : Hid (Below w.heap.size w ((w.alloc (.cells #[.string m.name, .int .i64 m.stage, .slice m.A m.x.length m.c] 26)).alloc (.cells #[.string b, .string s] 28))) := Lib.hid (((Below.refl _ _).alloc (Nat.le_refl _) _).alloc (by simp) _)
 have h2 : Hid (RdL ((w.alloc (.cells #[.string m.name, .int .i64 m.stage, .slice m.A m.x.length m.c] 26)).alloc (.cells #[.string b, .string s] 28)) (((w.alloc (.cells #[.string m.name, .int .i64 m.stage, .slice m.A m.x.length m.c] 26)).alloc (.cells #[.string b, .string s] 28))).heap.size m.A 1 encString m.x) := Lib.hid ((h.below hb0.out (Nat.le_refl _)).more hb0.out.size)
 have Hs := Lib.hid hs
 clear h hs
 go_enter Tryz.func61, Tryz.ntmps61
 go_wp2_with (go_at_call 116; refine (l8Good_any m b s _ h2.out hn hl Hs.out hb hss).mono ?_; rintro e w1 ⟨rfl, hb1⟩)
 go_ret
 exact ⟨rfl, hb0.out.trans (hb1.mono hb0.out.size)⟩
end Go.Proofs.YtkegbbndmfnolaaGreatDoor

/-
 Rounds; lists of strings and methods copied: contracts of both sides.
-/
namespace Go.Proofs.YtkegbbndmfnolaaGreatDoor
open Go.RowKit
set_option linter.unusedVariables false
set_option linter.unusedSimpArgs false
set_option maxRecDepth 100000

def eightS : ByteArray := ⟨#[49, 50, 51, 52, 53, 54, 55, 56]⟩
/-- Rounds. -/
def roundsS (n : Int) : ByteArray := eightS.extract 0 n.toNat
theorem roundsS_size {n : Int} (h0 : 0 ≤ n) (h8 : n ≤ 8) : (roundsS n).size = n.toNat := by
 unfold roundsS; rw [size_ext]
 have : eightS.size = 8 := rfl
 omega

theorem rounds_any (n : Int) (w : World) (h0 : 0 ≤ n) (h8 : n ≤ 8) : Calls Tryz.prog 113 #[.int .i64 n] w fun e w' => e = .returned (.string (roundsS n)) ∧ w = w' := by
 have hz : (⟨#[49, 50, 51, 52, 53, 54, 55, 56]⟩ : ByteArray).size = 8 := rfl
 go_enter Tryz.func113, Tryz.ntmps113
 go_wp2
 go_ret
 exact ⟨rfl, rfl⟩
theorem l1Rounds_any (n : Int) (w : World) (h0 : 0 ≤ n) (h8 : n ≤ 8) : Calls Tryz.prog 120 #[.int .i64 n] w fun e w' => e = .returned (.string (roundsS n)) ∧ w = w' := by
 have hz : (⟨#[49, 50, 51, 52, 53, 54, 55, 56]⟩ : ByteArray).size = 8 := rfl
 go_enter Tryz.func120, Tryz.ntmps120
 go_wp2
 go_ret
 exact ⟨rfl, rfl⟩

theorem l1OwnS_any (l : List ByteArray) (A : Option Addr) (c : Nat) (w : World) (h : RdL w w.heap.size A 1 encString l) (hl : l.length ≤ 1048576) (h0 : 0 < l.length) :
  Calls Tryz.prog 148 #[.slice A l.length c] w fun e w' => ∃ A' c', e = .returned (.slice A' l.length c') ∧ OwnL w' w.heap.size w'.heap.size A' 1 encString l ∧ l.length ≤ c' ∧ Below w.heap.size w w' := by
 have hq : ∀ (w : World) (a : Option Addr) (n c : Nat), (binOp .eql 24 (.slice a n c) (.slice none 0 0)).run Tryz.prog w = .ok (.bool a.isNone) w := fun w a n c => Lib.run_eql_slice_nil w _ 9 a n c 0 0 rfl
 obtain ⟨g, off, hA, _, _⟩ := h.at h0
 subst hA
 have H := Lib.hid h
 clear h
 go_enter Tryz.func148, Tryz.ntmps148
 go_wp2_with (at_builtin; refine wpList_pushAll rfl _ _ 24 rfl w.heap.size 9 _ 1 16 encString rfl String_info rfl (by omega) _ [] l _ _ w.heap.size rfl rfl (H.out.below ((Below.refl _ _).alloc (Nat.le_refl _) _) (Nat.le_refl _)) h0 (Grow.empty (Nat.le_refl _)) encString_len (by simp [encString, Value.oneCell']) (by first | (simp; done) | (simp; omega)) (by omega) (by simp) ?_; intro v' w2 hg2 hb2 hgb)
 go_ret
 obtain ⟨A', c', hv, ho⟩ := hg2.own encString_len
 subst hv
 exact ⟨A', c', rfl, ho, hg2.capN, ((Below.refl _ _).alloc (Nat.le_refl _) _).trans hb2⟩
theorem cloneS_any (l : List ByteArray) (A : Option Addr) (c : Nat) (w : World) (h : RdL w w.heap.size A 1 encString l) (hl : l.length ≤ 1048576) (h0 : 0 < l.length) :
  Calls Tryz.prog 112 #[.slice A l.length c] w fun e w' => ∃ A' c', e = .returned (.slice A' l.length c') ∧ OwnL w' w.heap.size w'.heap.size A' 1 encString l ∧ l.length ≤ c' ∧ Below w.heap.size w w' := by
 have hq : ∀ (w : World) (a : Option Addr) (n c : Nat), (binOp .eql 24 (.slice a n c) (.slice none 0 0)).run Tryz.prog w = .ok (.bool a.isNone) w := fun w a n c => Lib.run_eql_slice_nil w _ 9 a n c 0 0 rfl
 obtain ⟨g, off, hA, _, _⟩ := h.at h0
 subst hA
 have H := Lib.hid h
 clear h
 go_enter Tryz.func112, Tryz.ntmps112
 go_wp2_with (at_builtin; refine wpList_pushAll rfl _ _ 24 rfl w.heap.size 9 _ 1 16 encString rfl String_info rfl (by omega) _ [] l _ _ w.heap.size rfl rfl (H.out.below ((Below.refl _ _).alloc (Nat.le_refl _) _) (Nat.le_refl _)) h0 (Grow.empty (Nat.le_refl _)) encString_len (by simp [encString, Value.oneCell']) (by first | (simp; done) | (simp; omega)) (by omega) (by simp) ?_; intro v' w2 hg2 hb2 hgb)
 go_ret
 obtain ⟨A', c', hv, ho⟩ := hg2.own encString_len
 subst hv
 exact ⟨A', c', rfl, ho, hg2.capN, ((Below.refl _ _).alloc (Nat.le_refl _) _).trans hb2⟩
theorem withChanges_any (m : Mth) (A' : Option Addr) (n c' : Nat) (w : World) :
  Calls Tryz.prog 111 #[.agg #[.string m.name, .int .i64 m.stage, .slice m.A m.x.length m.c], .slice A' n c'] w fun e w' => e = .returned (.agg #[.string m.name, .int .i64 m.stage, .slice A' n c']) ∧ Below w.heap.size w w' := by
 go_enter Tryz.func111, Tryz.ntmps111
 go_wp2
 refine bodyPost_ret (v := .agg #[.string m.name, .int .i64 m.stage, .slice A' n c']) (by simp [results, Tryz.results111, go_sem]) rfl ⟨rfl, ?_⟩
 repeat (first | exact Below.refl _ _ | refine Below.setCell ?_ (by simp <;> omega) _ | refine Below.alloc ?_ (by simp <;> omega) _)
set_option maxHeartbeats 1600000 in
theorem l4Own_any (m : Mth) (w : World) (h : RdL w w.heap.size m.A 1 encString m.x) (hl : m.x.length ≤ 1048576) (h0 : 0 < m.x.length) :
  Calls Tryz.prog 119 #[.agg #[.string m.name, .int .i64 m.stage, .slice m.A m.x.length m.c]] w fun e w' => ∃ A' c', e = .returned (.agg #[.string m.name, .int .i64 m.stage, .slice A' m.x.length c']) ∧ OwnL w' w.heap.size w'.heap.size A' 1 encString m.x ∧ m.x.length ≤ c' ∧ Below w.heap.size w w' := by
 have H := Lib.hid h
 clear h
 have hW : ∃ W : World, Hid ((w.alloc (.cells #[.string m.name, .int .i64 m.stage, .slice m.A m.x.length m.c] 26)).alloc (.cells #[.string ⟨#[]⟩, .int .i64 0, .slice none 0 0] 26) = W) ∧ Hid (W.heap.size = w.heap.size + 2) ∧ Hid (Below w.heap.size w W) ∧ W.cell? ⟨w.heap.size, 0, none⟩ = some (.string m.name) ∧ W.cell? ⟨w.heap.size, 1, none⟩ = some (.int .i64 m.stage) ∧ W.cell? ⟨w.heap.size, 2, none⟩ = some (.slice m.A m.x.length m.c) ∧ Hid (Cells W (w.heap.size + 1) 3 (fun i => (#[Value.string ⟨#[]⟩, .int .i64 0, .slice none 0 0] : Array Value).getD i undef)) := by
  refine ⟨_, Lib.hid rfl, Lib.hid (by simp), Lib.hid (((Below.refl _ _).alloc (Nat.le_refl _) _).alloc (by simp) _), ?_, ?_, ?_, Lib.hid ?_⟩
  ·rw [World.cell?_alloc_lt _ _ _ (by simp), World.cell?_alloc_new]; rfl
  ·rw [World.cell?_alloc_lt _ _ _ (by simp), World.cell?_alloc_new]; rfl
  ·rw [World.cell?_alloc_lt _ _ _ (by simp), World.cell?_alloc_new]; rfl
  ·have := Cells.new (w.alloc (.cells #[.string m.name, .int .i64 m.stage, .slice m.A m.x.length m.c] 26)) #[Value.string ⟨#[]⟩, .int .i64 0, .slice none 0 0] 26 3 (fun i => (#[Value.string ⟨#[]⟩, .int .i64 0, .slice none 0 0] : Array Value).getD i undef) (fun i hi => by
    match i, hi with
    | 0, _ => rfl
    | 1, _ => rfl
    | 2, _ => rfl)
   simpa using this
 obtain ⟨W, hWe, hWs, hWb, u0, u1, u2, hC⟩ := hW
 go_enter Tryz.func119, Tryz.ntmps119
 go_wp2_with fail
 rw [hWe.out]
 clear hWe
 go_region_held3 (fun w' => w'.cell? ⟨w.heap.size, 0, none⟩ = some (.string m.name) ∧ w'.cell? ⟨w.heap.size, 1, none⟩ = some (.int .i64 m.stage) ∧ w'.cell? ⟨w.heap.size, 2, none⟩ = some (.slice m.A m.x.length m.c)) (first | exact ⟨u0, u1, u2⟩ | exact ⟨v0, v1, v2⟩ | go_keep) (first | (go_at_call 148; refine (l1OwnS_any m.x m.A m.c _ (show RdL W.drew W.drew.heap.size m.A 1 encString m.x from ((H.out.below hWb.out (Nat.le_refl _)).more hWb.out.size)) hl h0).mono ?_; rintro e w3 ⟨A', c', rfl, ho, hc', hb3⟩; have v0 : w3.cell? ⟨w.heap.size, 0, none⟩ = some (.string m.name) := (hb3.cell (p := ⟨w.heap.size, 0, none⟩) (show w.heap.size < W.heap.size from by have := hWs.out; omega)).trans u0; have v1 : w3.cell? ⟨w.heap.size, 1, none⟩ = some (.int .i64 m.stage) := (hb3.cell (p := ⟨w.heap.size, 1, none⟩) (show w.heap.size < W.heap.size from by have := hWs.out; omega)).trans u1; have v2 : w3.cell? ⟨w.heap.size, 2, none⟩ = some (.slice m.A m.x.length m.c) := (hb3.cell (p := ⟨w.heap.size, 2, none⟩) (show w.heap.size < W.heap.size from by have := hWs.out; omega)).trans u2; have HC3 : Hid (Cells w3 (w.heap.size + 1) 3 (fun i => (#[Value.string ⟨#[]⟩, .int .i64 0, .slice none 0 0] : Array Value).getD i undef)) := Lib.hid (hC.out.below ((Below.refl W.heap.size W).drew.trans hb3) (by have := hWs.out; omega)); have HO := Lib.hid ho; have HB3 : Hid (Below w.heap.size w w3) := Lib.hid (hWb.out.trans (((Below.refl W.heap.size W).drew.trans hb3).mono hWb.out.size)); have p0 := HC3.out.cell (i := 0) (by omega); have p1 := HC3.out.cell (i := 1) (by omega); have p2 := HC3.out.cell (i := 2) (by omega); have f0 := HC3.out.free (i := 0) (by omega); have f1 := HC3.out.free (i := 1) (by omega); have f2 := HC3.out.free (i := 2) (by omega); have hz3 : w.heap.size + 2 ≤ w3.heap.size := (by have := hb3.size; have h9 := hWs.out; have h8 : W.heap.size ≤ w3.heap.size := this; omega); clear ho hb3))
 go_wp2
 refine bodyPost_ret (v := .agg #[.string m.name, .int .i64 m.stage, .slice A' m.x.length c']) (by simp [results, Tryz.results119, go_sem, p0, p1, p2, f0, f1, f2]) rfl ⟨A', c', rfl, ?_, hc', ?_⟩
 ·refine (HO.out.chg (b' := w.heap.size + 1) (c' := w.heap.size + 2) (?_ : Chg (w.heap.size + 1) (w.heap.size + 2) w3 _) (.inr (by have h9 := hWs.out; show w.heap.size + 2 ≤ W.heap.size; omega))).mono (by have h9 := hWs.out; show w.heap.size ≤ W.heap.size; omega) (by simp)
  repeat (first | exact Chg.refl _ _ _ | refine Chg.setCell ?_ (by first | exact Nat.le_refl _ | (simp; done) | (simp; omega)) (by first | (simp; done) | (simp; omega)) _)
 ·repeat (first | exact HB3.out | refine Below.setCell ?_ (by first | (simp; done) | (simp; omega)) _)
end Go.Proofs.YtkegbbndmfnolaaGreatDoor

/-
 Contracts of the helper functions that the laws use for lists of Ringer.
-/
namespace Go.Proofs.YtkegbbndmfnolaaGreatDoor
open Go.RowKit Go.ChangeShapes Go.WideShapes
set_option linter.unusedVariables false
set_option linter.unusedSimpArgs false
set_option maxRecDepth 100000


structure Rgr where
 place : Int
 deaf : Bool

def Rgr.enc (x : Rgr) : List Value := [.int .i64 x.place, .bool x.deaf]
theorem Rgr_enc_len (x : Rgr) : (Rgr.enc x).length = 2 := rfl
def Ringer_small (lim : Int) (x : Rgr) : Prop := True
theorem Ringer_info : (Tryz.prog.info? 76).map (fun i => (i.zero, i.size, i.bytes)) = some (some (.agg #[.int .i64 0, .bool false]), 2, 16) := by kernel_rfl

/-- What the marks make of a list of so many elements. -/
def markRingerL (m q : Nat) : List Rgr := (List.range m).map fun i : Nat => (⟨((q + i * 2 : Nat) : Int), (((q + i * 2 + 1) % 3 == 0))⟩ : Rgr)
end Go.Proofs.YtkegbbndmfnolaaGreatDoor