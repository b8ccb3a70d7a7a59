import Derived.Test.YtkegbbndmfnolaaGreatDoorMHeardL33
import Derived.Test.YtkegbbndmfnolaaGreatDoorMHeardL06
import Derived.Test.YtkegbbndmfnolaaGreatDoorMHeardL04
import Derived.Test.YtkegbbndmfnolaaGreatDoorRows
import Derived.Test.YtkegbbndmfnolaaGreatDoorMHeardL01
import Derived.StillTailTactics
import Derived.Deep.RegionHeld3
import Derived.Test.YtkegbbndmfnolaaGreatDoorMHeardL22
import Derived.Test.YtkegbbndmfnolaaGreatDoorMHeardL27
import Derived.Test.YtkegbbndmfnolaaGreatDoorMHeardL30
import Derived.Lay
import Derived.Stop.Joined
/-
  Contracts: two lists of spoken words that are the same (the laws' comparison).
-/
namespace Go.Proofs.YtkegbbndmfnolaaGreatDoor
open Go.RowKit
set_option linter.unusedVariables false
set_option linter.unusedSimpArgs false
set_option maxRecDepth 100000

section
attribute [-go_sem] run_eql_struct run_neq_struct


set_option maxHeartbeats 3200000 in
theorem qSameSaid_any (a l : List Spk) (A A' : Option Addr) (c c' : Nat) (w : World) (ha : RdL w w.heap.size A 2 Spk.enc a) (hh : RdL w w.heap.size A' 2 Spk.enc l) (h1 : a.length ≤ 1048576) (h2 : l.length ≤ 1048576) :
    Calls Tryz.prog 36 #[.slice A a.length c, .slice A' l.length c'] w fun e w' => e = .returned (.bool (B (a = l))) ∧ Below w.heap.size w w' := by
  have Ha := Lib.hid ha
  have Hl := Lib.hid hh
  clear ha hh
  by_cases hlen : a.length = l.length
  rotate_left
  · have d1 : ((a.length : Int) != (l.length : Int)) = true := by simp; omega
    have d2 : ((a.length : Int) == (l.length : Int)) = false := by simp; omega
    have H := Lib.hid hlen
    clear hlen
    go_enter Tryz.func36, Tryz.ntmps36
    go_wp2
    go_ret
    exact ⟨ret_f (fun x => H.out (by rw [x])), Below.refl _ _⟩
  have d1 : ((a.length : Int) != (l.length : Int)) = false := by simp; omega
  have d2 : ((a.length : Int) == (l.length : Int)) = true := by simp; omega
  have H := Lib.hid hlen
  clear hlen
  go_enter Tryz.func36, Tryz.ntmps36
  go_wp2
  go_loopw [13] (fun j wr => ∃ k : Nat, k ≤ a.length ∧ j = .int .i64 k ∧ (∀ j, j < k → a[j]? = l[j]?) ∧ Below w.heap.size w wr) (fun j _ => a.length - (intOf j).toNat)
  case atStart => exact ⟨0, by omega, by rfl, fun j hj => by omega, Below.refl _ _⟩
  case round =>
    obtain ⟨k, hk, rfl, hq, hbl⟩ := hrel
    have Hq := Lib.hid hq
    have Hb0 := Lib.hid hbl
    have hg0 := hbl.size
    clear hq hbl
    by_cases hla : k < a.length
    rotate_left
    · have hE : Hid (a = l) := Lib.hid (by
        apply List.ext_getElem?
        intro j
        by_cases hj : j < a.length
        · exact Hq.out j (by omega)
        · rw [List.getElem?_eq_none (by omega), List.getElem?_eq_none (by have := H.out; omega)])
      go_wp2
      go_ret
      exact ⟨ret_t hE.out, Hb0.out⟩
    have hll : k < l.length := by have := H.out; omega
    obtain ⟨ga, oa, hAa, hga, hca⟩ := Ha.out.at hla
    subst hAa
    have a0 := (Hb0.out.cell (p := ⟨ga, oa + k * 2, none⟩) hga).trans (hca 0 _ rfl)
    have a1 := (Hb0.out.cell (p := ⟨ga, oa + k * 2 + 1, none⟩) hga).trans (hca 1 _ rfl)
    obtain ⟨x, hx⟩ : ∃ x, Hid (a[k] = x) := ⟨_, Lib.hid rfl⟩
    rw [hx.out] at a0 a1
    obtain ⟨gl, ol, hAl, hgl, hcl⟩ := Hl.out.at hll
    subst hAl
    have l0 := (Hb0.out.cell (p := ⟨gl, ol + k * 2, none⟩) hgl).trans (hcl 0 _ rfl)
    have l1 := (Hb0.out.cell (p := ⟨gl, ol + k * 2 + 1, none⟩) hgl).trans (hcl 1 _ rfl)
    obtain ⟨y, hy⟩ : ∃ y, Hid (l[k] = y) := ⟨_, Lib.hid rfl⟩
    rw [hy.out] at l0 l1
    clear hca hcl
    by_cases hxy : x = y
    · have hn := neSpk_f hxy
      have hk1 : Hid (∀ j, j < k + 1 → a[j]? = l[j]?) := Lib.hid (fun j hj => by
        rcases Nat.lt_or_eq_of_le (Nat.le_of_lt_succ hj) with h' | rfl
        · exact Hq.out j h'
        · rw [List.getElem?_eq_getElem hla, List.getElem?_eq_getElem hll, hx.out, hy.out, hxy])
      clear hxy
      go_wp2
      go_quiet (fail)
      go_wp2
      go_roundw
      case rel => exact ⟨k + 1, by omega, by go_num, hk1.out, below_drewN Hb0.out _⟩
      case measure => simp [intOf]; omega
    · have hn := neSpk_t hxy
      have hne : Hid (¬ a = l) := Lib.hid (fun e => by subst e; exact hxy (hx.out.symm.trans hy.out))
      clear hxy
      go_wp2
      go_quiet (fail)
      go_wp2
      go_ret
      exact ⟨ret_f hne.out, below_drewN Hb0.out _⟩
theorem qSameSaid_t (l : List Spk) (A A' : Option Addr) (c c' : Nat) (w : World) (h : RdL w w.heap.size A 2 Spk.enc l) (h' : RdL w w.heap.size A' 2 Spk.enc l) (hl : l.length ≤ 1048576) :
    Calls Tryz.prog 36 #[.slice A l.length c, .slice A' l.length c'] w fun e w' => e = .returned (.bool true) ∧ Below w.heap.size w w' := by
  have := qSameSaid_any l l A A' c c' w h h' hl hl
  rw [B_t rfl] at this
  exact this
end
end Go.Proofs.YtkegbbndmfnolaaGreatDoor

/-
  Contracts: lists that are the same (the laws' comparisons).
-/
namespace Go.Proofs.YtkegbbndmfnolaaGreatDoor
open Go.RowKit
set_option linter.unusedVariables false
set_option linter.unusedSimpArgs false
set_option maxRecDepth 100000

end Go.Proofs.YtkegbbndmfnolaaGreatDoor

/-
  Contracts of the helper functions that the laws use for lists of Slip.
-/
namespace Go.Proofs.YtkegbbndmfnolaaGreatDoor
open Go.RowKit Go.ChangeShapes Go.WideShapes
set_option linter.unusedVariables false
set_option linter.unusedSimpArgs false
set_option maxRecDepth 100000


structure Slp where
  row : Int
  a : Int
  b : Int

def Slp.enc (x : Slp) : List Value := [.int .i64 x.row, .int .i64 x.a, .int .i64 x.b]
def Slip_small (lim : Int) (x : Slp) : Prop := True
/-- What the marks make of a list of so many elements. -/
def markSlipL (m q : Nat) : List Slp := (List.range m).map fun i : Nat => (⟨((q + i * 3 : Nat) : Int), ((q + i * 3 + 1 : Nat) : Int), ((q + i * 3 + 2 : Nat) : Int)⟩ : Slp)
end Go.Proofs.YtkegbbndmfnolaaGreatDoor
/-
  Contracts: lists of strings and of slips that are the same (the laws' comparisons).
-/
namespace Go.Proofs.YtkegbbndmfnolaaGreatDoor
open Go.RowKit
set_option linter.unusedVariables false
set_option linter.unusedSimpArgs false
set_option maxRecDepth 100000
set_option maxHeartbeats 1600000 in
theorem qSameS_t (l : List ByteArray) (A A' : Option Addr) (c c' : Nat) (w : World) (h : RdL w w.heap.size A 1 encString l) (h' : RdL w w.heap.size A' 1 encString l) (hl : l.length ≤ 1048576) :
    Calls Tryz.prog 37 #[.slice A l.length c, .slice A' l.length c'] w fun e w' => e = .returned (.bool true) ∧ ∃ n, w' = w.drewN n := by
  have H := Lib.hid h
  have H' := Lib.hid h'
  clear h h'
  go_enter Tryz.func37, Tryz.ntmps37
  go_wp2
  go_loopw [13] (fun i wr => ∃ k : Nat, k ≤ l.length ∧ i = .int .i64 k ∧ ∃ n, wr = w.drewN n) (fun i _ => l.length - (intOf i).toNat)
  case atStart => exact ⟨0, by omega, by rfl, 0, rfl⟩
  case round =>
    obtain ⟨k, hk, rfl, hdr⟩ := hrel
    have Hdr := Lib.hid hdr
    clear hdr
    by_cases hlt : k < l.length
    · obtain ⟨g, off, hA, hg, hcell⟩ := H.out.at hlt
      obtain ⟨g', off', hA', hg', hcell'⟩ := H'.out.at hlt
      subst hA hA'
      have r0 : wr.cell? ⟨g, off + k, none⟩ = some (.string l[k]) := by obtain ⟨n, e⟩ := Hdr.out; rw [e]; have := hcell 0 _ rfl; rw [Nat.mul_one] at this; exact this
      have q0 : wr.cell? ⟨g', off' + k, none⟩ = some (.string l[k]) := by obtain ⟨n, e⟩ := Hdr.out; rw [e]; have := hcell' 0 _ rfl; rw [Nat.mul_one] at this; exact this
      clear hcell hcell'
      obtain ⟨x, hx⟩ : ∃ x, Hid (l[k] = x) := ⟨_, Lib.hid rfl⟩
      rw [hx.out] at r0 q0
      go_wp2
      go_quiet (fail)
      go_wp2
      go_roundw
      case rel => exact ⟨k + 1, by omega, by go_num, by obtain ⟨n, e⟩ := Hdr.out; rw [e, drew2]; exact ⟨_, rfl⟩⟩
      case measure => simp [intOf]; omega
    · go_wp2
      go_ret
      exact ⟨rfl, Hdr.out⟩
end Go.Proofs.YtkegbbndmfnolaaGreatDoor

/-
  SaidAt of the program returns what the reference's returns, for all arguments: no condition.
-/
namespace Go.Proofs.YtkegbbndmfnolaaGreatDoor
open Go.RowKit
set_option linter.unusedVariables false
set_option linter.unusedSimpArgs false
set_option maxRecDepth 100000

/-- The words said at a row. -/
def saidL (l : List Spk) (row : Int) : List ByteArray := (l.filter fun x => x.row == row).map Spk.word
theorem saidL_y (l : List Spk) (row : Int) (k : Nat) (hk : k < l.length) (h : (l[k].row == row) = true) : saidL (l.take (k + 1)) row = saidL (l.take k) row ++ [l[k].word] := by
  unfold saidL
  rw [List.take_succ_eq_append_getElem hk, List.filter_append, List.map_append]
  simp [List.filter_cons, h]
theorem saidL_n (l : List Spk) (row : Int) (k : Nat) (hk : k < l.length) (h : (l[k].row == row) = false) : saidL (l.take (k + 1)) row = saidL (l.take k) row := by
  unfold saidL
  rw [List.take_succ_eq_append_getElem hk, List.filter_append, List.map_append]
  simp [List.filter_cons, h]
theorem saidL_len (l : List Spk) (row : Int) : (saidL l row).length ≤ l.length := by
  unfold saidL; rw [List.length_map]; exact List.length_filter_le _ _


set_option maxHeartbeats 1600000 in
theorem sSaid_t (l : List Spk) (A : Option Addr) (c : Nat) (row : Int) (w : World) (h : RdL w w.heap.size A 2 Spk.enc l) (hl : l.length ≤ 1048576) (ht : spokenLP l) :
    Calls Tryz.prog 32 #[.slice A l.length c, .int .i64 row] w fun e w' => ∃ A' c', e = .returned (.tuple #[.slice A' (saidL l row).length c', .bool true]) ∧ OwnL w' w.heap.size w'.heap.size A' 1 encString (saidL l row) ∧ Below w.heap.size w w' := by
  have Hh := Lib.hid h
  have e1 := B_t ht
  clear h ht
  go_enter Tryz.func32, Tryz.ntmps32
  go_wp2_with (go_at_call 86; refine (l26Good_any l A c _ Hh.out hl).mono ?_; rintro e w' ⟨rfl, hb1⟩)
  go_loopw [6, 14] (fun v i wr => ∃ k : Nat, k ≤ l.length ∧ i = .int .i64 k ∧ Grow wr w.heap.size 9 1 encString v (saidL (l.take k) row) ∧ Below w.heap.size w wr) (fun _ i _ => l.length - (intOf i).toNat)
  case atStart => exact ⟨0, by omega, by rfl, Grow.nil, hb1⟩
  case round =>
    obtain ⟨k, hk, rfl, hg, hbl⟩ := hrel
    have Hg := Lib.hid hg
    have Hbl := Lib.hid hbl
    have hgs := hbl.size
    clear hg hbl hb1
    by_cases hlt : k < l.length
    · obtain ⟨g, off, hA, hg, hcell⟩ := Hh.out.at hlt
      have r0 := (Hbl.out.cell (p := ⟨g, off + k * 2, none⟩) hg).trans (hcell 0 _ rfl)
      have r1 := (Hbl.out.cell (p := ⟨g, off + k * 2 + 1, none⟩) hg).trans (hcell 1 _ rfl)
      subst hA
      clear hcell
      have hlen : (saidL (l.take k) row).length ≤ 1048576 := Nat.le_trans (saidL_len _ _) (by rw [List.length_take]; omega)
      obtain ⟨x, hx⟩ : ∃ x, Hid (l[k] = x) := ⟨l[k], Lib.hid rfl⟩
      rw [hx.out] at r0 r1
      cases hc : (x.row == row) with
      | true =>
        have Hy := Lib.hid (saidL_y l row k hlt (by rw [hx.out]; exact hc))
        have hone : (∀ u ∈ [Value.string x.word], u.oneCell' = true) := by simp [Value.oneCell']
        have Hone := Lib.hid hone
        clear hone
        go_wp2_with (at_builtin; refine wpList_push rfl _ _ 24 rfl w.heap.size 9 _ 1 16 encString rfl String_info rfl (by omega) _ (saidL (l.take k) row) [x.word] 1 rfl rfl (by simp) (Hg.out.alloc _) rfl encString_len Hone.out (by simp; omega) (by omega) (by simp; omega) ?_; intro v' w2 hg2 hb2 _)
        go_roundw
        case rel => exact ⟨k + 1, by omega, by go_num, by rw [Hy.out, hx.out]; exact hg2, (Hbl.out.alloc hgs _).trans hb2⟩
        case measure => simp [intOf]; omega
      | false =>
        have Hn := Lib.hid (saidL_n l row k hlt (by rw [hx.out]; exact hc))
        go_wp2
        go_roundw
        case rel => exact ⟨k + 1, by omega, by go_num, by rw [Hn.out]; exact Hg.out.alloc _, Hbl.out.alloc hgs _⟩
        case measure => simp [intOf]; omega
    · go_wp2
      go_ret2
      obtain rfl : k = l.length := by omega
      have hg := Hg.out
      rw [List.take_length] at hg
      obtain ⟨A', c', hv, ho⟩ := hg.own encString_len
      exact ⟨A', c', by rw [hv]; rfl, ho, Hbl.out⟩
theorem sSaid_f (l : List Spk) (A : Option Addr) (c : Nat) (row : Int) (w : World) (h : RdL w w.heap.size A 2 Spk.enc l) (hl : l.length ≤ 1048576) (ht : ¬ spokenLP l) :
    Calls Tryz.prog 32 #[.slice A l.length c, .int .i64 row] w fun e w' => e = .returned (.tuple #[.slice none 0 0, .bool false]) ∧ Below w.heap.size w w' := by
  have Hh := Lib.hid h
  have e1 := B_f ht
  clear h ht
  go_enter Tryz.func32, Tryz.ntmps32
  go_wp2_with (go_at_call 86; refine (l26Good_any l A c _ Hh.out hl).mono ?_; rintro e w' ⟨rfl, hb1⟩)
  go_ret2
  exact ⟨rfl, hb1⟩
set_option maxHeartbeats 1600000 in
theorem iSaid_t (l : List Spk) (A : Option Addr) (c : Nat) (row : Int) (w : World) (h : RdL w w.heap.size A 2 Spk.enc l) (hl : l.length ≤ 1048576) (ht : spokenLP l) :
    Calls Tryz.prog 31 #[.slice A l.length c, .int .i64 row] w fun e w' => ∃ A' c', e = .returned (.tuple #[.slice A' (saidL l row).length c', .bool true]) ∧ OwnL w' w.heap.size w'.heap.size A' 1 encString (saidL l row) ∧ Below w.heap.size w w' := by
  have Hh := Lib.hid h
  have e1 := B_t ht
  clear h ht
  go_enter Tryz.func31, Tryz.ntmps31
  go_wp2_with (go_at_call 84; refine (goodSpoken_any l A c _ Hh.out hl).mono ?_; rintro e w' ⟨rfl, hb1⟩)
  go_loopw [6, 15] (fun v i wr => ∃ k : Nat, k ≤ l.length ∧ i = .int .i64 k ∧ Grow wr w.heap.size 9 1 encString v (saidL (l.take k) row) ∧ Below w.heap.size w wr) (fun _ i _ => l.length - (intOf i).toNat)
  case atStart => exact ⟨0, by omega, by rfl, Grow.empty hb1.size, hb1.alloc hb1.size _⟩
  case round =>
    obtain ⟨k, hk, rfl, hg, hbl⟩ := hrel
    have Hg := Lib.hid hg
    have Hbl := Lib.hid hbl
    have hgs := hbl.size
    clear hg hbl hb1
    by_cases hlt : k < l.length
    · obtain ⟨g, off, hA, hg, hcell⟩ := Hh.out.at hlt
      have r0 := (Hbl.out.cell (p := ⟨g, off + k * 2, none⟩) hg).trans (hcell 0 _ rfl)
      have r1 := (Hbl.out.cell (p := ⟨g, off + k * 2 + 1, none⟩) hg).trans (hcell 1 _ rfl)
      subst hA
      clear hcell
      have hlen : (saidL (l.take k) row).length ≤ 1048576 := Nat.le_trans (saidL_len _ _) (by rw [List.length_take]; omega)
      obtain ⟨x, hx⟩ : ∃ x, Hid (l[k] = x) := ⟨l[k], Lib.hid rfl⟩
      rw [hx.out] at r0 r1
      cases hc : (x.row == row) with
      | true =>
        have Hy := Lib.hid (saidL_y l row k hlt (by rw [hx.out]; exact hc))
        have hone : (∀ u ∈ [Value.string x.word], u.oneCell' = true) := by simp [Value.oneCell']
        have Hone := Lib.hid hone
        clear hone
        go_wp2_with (at_builtin; refine wpList_push rfl _ _ 24 rfl w.heap.size 9 _ 1 16 encString rfl String_info rfl (by omega) _ (saidL (l.take k) row) [x.word] 1 rfl rfl (by simp) (Hg.out.alloc _) rfl encString_len Hone.out (by simp; omega) (by omega) (by simp; omega) ?_; intro v' w2 hg2 hb2 _)
        go_roundw
        case rel => exact ⟨k + 1, by omega, by go_num, by rw [Hy.out, hx.out]; exact hg2, (Hbl.out.alloc hgs _).trans hb2⟩
        case measure => simp [intOf]; omega
      | false =>
        have Hn := Lib.hid (saidL_n l row k hlt (by rw [hx.out]; exact hc))
        go_wp2
        go_roundw
        case rel => exact ⟨k + 1, by omega, by go_num, by rw [Hn.out]; exact Hg.out.alloc _, Hbl.out.alloc hgs _⟩
        case measure => simp [intOf]; omega
    · go_wp2
      go_ret2
      obtain rfl : k = l.length := by omega
      have hg := Hg.out
      rw [List.take_length] at hg
      obtain ⟨A', c', hv, ho⟩ := hg.own encString_len
      exact ⟨A', c', by rw [hv]; rfl, ho, Hbl.out⟩
theorem iSaid_f (l : List Spk) (A : Option Addr) (c : Nat) (row : Int) (w : World) (h : RdL w w.heap.size A 2 Spk.enc l) (hl : l.length ≤ 1048576) (ht : ¬ spokenLP l) :
    Calls Tryz.prog 31 #[.slice A l.length c, .int .i64 row] w fun e w' => e = .returned (.tuple #[.slice none 0 0, .bool false]) ∧ Below w.heap.size w w' := by
  have Hh := Lib.hid h
  have e1 := B_f ht
  clear h ht
  go_enter Tryz.func31, Tryz.ntmps31
  go_wp2_with (go_at_call 84; refine (goodSpoken_any l A c _ Hh.out hl).mono ?_; rintro e w' ⟨rfl, hb1⟩)
  go_ret2
  exact ⟨rfl, hb1⟩
end Go.Proofs.YtkegbbndmfnolaaGreatDoor

/-
  What a tied card with a pinned table wants: a start out of the listed data; the contract is handed the shape of its world.
-/
namespace Go.Proofs.YtkegbbndmfnolaaGreatDoor
open Go.RowKit
set_option linter.unusedVariables false
set_option linter.unusedSimpArgs false

theorem mlen_of {w : World} (h : w.ShapedOpen Tryz.prog) : Mlen w := Tryz.laysM145.s1_3 w h
section
variable {H : Type} {enc : TypeId × Value → H}
theorem handed_shaped {a : Assume} {C : Checked} {os : Os} {f : FuncId} {fn : Func} {s : ChangeSpec} {conds : List PathCond} {apart fresh handsOn again : Bool} {X : World → Array Value → Prop}
    (hX : ∀ (w w' : World) (args : Array Value), w.heap = w'.heap → X w args → X w' args)
    (own : ownKnob C.prog.godebug = none) (started : os.Started) (noInit : C.prog.inits.idxOf? f = none) (hfn : C.prog.funcs[f]? = some fn)
    (witness : ∃ (w : World) (tape : Tape) (i : Input), w.os = os ∧ (w.forCall tape i).Shaped C.prog ∧ i.vars = [] ∧ Input.okWide C.prog (w.forCall tape i) .any w.heap.size f i ∧
      ((s.pre enc C.prog fn conds apart (w.forCall tape i).memory i.args ∧ X (w.forCall tape i).memory i.args) ∧ sizedMet enc C.prog fn (OpenSpec.ofChange s) apart (w.forCall tape i).memory i.args) ∧ a.holds C.prog (lone (Frame.enter C.prog f i.args .normal) [] (w.forCall tape i)))
    (contract : ∀ (W : World) (base : Nat) (args : Array Value) (ds gs : List (DataW H)) (before : List MemPlace), W.ShapedOpen C.prog →
      (∀ (j : Nat) t v, fn.params[j]? = some t → args[j]? = some v → Value.okWide C.prog W .any base t v) →
      DataW.Whole enc C.prog fn.params.toList s.vars apart W args.toList ds gs before →
      conds.all (PathCond.test C.prog ⟨fn.params.toList, ds, s.plain.varTypes C.prog, gs⟩) = true →
      (DataW.weightsEach C.prog (fn.params.toList ++ s.plain.varTypes C.prog) (ds ++ gs)).all (· ≤ reachBytes) = true → X W args →
      a.holds C.prog (lone (Frame.enter C.prog f args .normal) [] W) →
      Calls C.prog f args W fun e W' => ∃ v, e = .returned v ∧ s.post enc C.prog fn apart fresh handsOn again W args v W') :
    ReturnsInHanded a C os f .any (fun w args => (s.pre enc C.prog fn conds apart w args ∧ X w args) ∧ sizedMet enc C.prog fn (OpenSpec.ofChange s) apart w args) (s.post enc C.prog fn apart fresh handsOn again) := by
  refine returnsInHanded_of_calls own started noInit witness ?_
  intro w tape i _ hsh _ hok hpre hholds
  obtain ⟨_, _, _, fn', hfn', _, _, _, _, hval⟩ := hok
  obtain rfl : fn' = fn := Option.some.inj (hfn'.symm.trans hfn)
  obtain ⟨⟨⟨ds, gs, before, hw, hc⟩, hx⟩, hz⟩ := hpre
  have hw' := DataW.Whole.of_heap (w' := w.forCall tape i) (by rfl) hw
  refine (contract (w.forCall tape i) w.heap.size i.args ds gs before hsh hval hw' hc (hz.weights hw) (hX _ _ _ (by rfl) hx) hholds).mono fun e W' ⟨v, he, hp⟩ => ?_
  subst he
  exact ChangeSpec.post_blind hp
end
end Go.Proofs.YtkegbbndmfnolaaGreatDoor

/-
  A law's argument of bytes.
-/
namespace Go.Proofs.YtkegbbndmfnolaaGreatDoor
open Go.RowKit Go.ChangeShapes Go.WideShapes
set_option linter.unusedVariables false
set_option linter.unusedSimpArgs false
set_option maxRecDepth 100000
def Byte_small (lim : Int) (x : Int) : Prop := 0 ≤ x ∧ x < 256
theorem Byte_el {H : Type} {en : TypeId × Value → H} {w : World} {base : Nat} {spare : Nat → Bool} {held : Bool} (n : Nat) (cs : List Value) (y : DataW H × List MemPlace) (h : DataW.trod en Tryz.prog w base spare held n 5 cs = some y) : ∃ x : Int, cs = encByte x ∧ Byte_small 9223372036854775807 x := by
  obtain ⟨a, rfl, _, hw⟩ := DataW.trod_int Tryz.underlying5 h
  refine ⟨a, rfl, ?_⟩
  simp [Lit.wf, IntKind.min, IntKind.max, IntKind.signed, IntKind.bits] at hw
  unfold Byte_small; omega
end Go.Proofs.YtkegbbndmfnolaaGreatDoor
