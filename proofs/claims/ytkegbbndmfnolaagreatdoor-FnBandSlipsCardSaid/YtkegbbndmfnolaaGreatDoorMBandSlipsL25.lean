import Derived.Test.YtkegbbndmfnolaaGreatDoorMBandSlipsL07
import Derived.Test.YtkegbbndmfnolaaGreatDoorMBandSlipsL10
import Derived.Test.YtkegbbndmfnolaaGreatDoorMBandSlipsL01
import Derived.Test.YtkegbbndmfnolaaGreatDoorMBandSlipsL17
import Derived.Test.YtkegbbndmfnolaaGreatDoorMBandSlipsL02
import Derived.Deep.Slices
import Derived.Test.YtkegbbndmfnolaaGreatDoorMBandSlipsL14
import Derived.Test.YtkegbbndmfnolaaGreatDoorMBandSlipsL20
import Derived.Test.YtkegbbndmfnolaaGreatDoorMBandSlipsL00
import Derived.Test.YtkegbbndmfnolaaGreatDoorMBandSlipsL05
import Derived.Test.YtkegbbndmfnolaaGreatDoorMBandSlipsL04
/-
  The bells of a band that are wrong, and the actions that put them right: contracts of both sides.
-/
namespace Go.Proofs.YtkegbbndmfnolaaGreatDoor
open Go.RowKit
set_option linter.unusedVariables false
set_option linter.unusedSimpArgs false
set_option maxRecDepth 100000

/-- The bells, up to the first k, whose ringers are elsewhere. -/
def wrongTo (t : ByteArray) (l : List Rgr) : Nat → List Int
  | 0 => []
  | k + 1 => match l[k]? with
    | some r => if r.place = placeS t ((k : Int) + 1) then wrongTo t l k else wrongTo t l k ++ [(k : Int) + 1]
    | none => wrongTo t l k
theorem wrongTo_y {t : ByteArray} {l : List Rgr} {k : Nat} (hk : k < l.length) (h : l[k].place = placeS t ((k : Int) + 1)) : wrongTo t l (k + 1) = wrongTo t l k := by
  simp only [wrongTo, List.getElem?_eq_getElem hk]; rw [if_pos h]
theorem wrongTo_n {t : ByteArray} {l : List Rgr} {k : Nat} (hk : k < l.length) (h : ¬ l[k].place = placeS t ((k : Int) + 1)) : wrongTo t l (k + 1) = wrongTo t l k ++ [(k : Int) + 1] := by
  simp only [wrongTo, List.getElem?_eq_getElem hk]; rw [if_neg h]
theorem wrongTo_len (t : ByteArray) (l : List Rgr) : ∀ k, (wrongTo t l k).length ≤ k
  | 0 => by simp [wrongTo]
  | k + 1 => by
    have ih := wrongTo_len t l k
    simp only [wrongTo]
    split
    · split
      · omega
      · simp; omega
    · omega





set_option maxHeartbeats 3200000 in
theorem iWrongIn_t (b : Bnd) (w : World) (h : b.Ok w) (hp : bandP b) :
    Calls Tryz.prog 42 #[.agg #[.string b.m.name, .int .i64 b.m.stage, .slice b.m.A b.m.x.length b.m.c, .string b.bob, .string b.sing, .int .i64 b.step, .string b.call, .string b.tru, .slice b.RA b.rx.length b.rc]] w fun e w' => ∃ A c, e = .returned (.tuple #[.slice A (wrongTo b.tru b.rx b.rx.length).length c, .bool true]) ∧ OwnL w' w.heap.size w'.heap.size A 1 encInt (wrongTo b.tru b.rx b.rx.length) ∧ Below w.heap.size w w' := by
  have e1 := B_t hp
  have Hrow : Hid (isRowOf b.m.stage b.tru) := Lib.hid hp.2.2.2.1
  have h3 : 0 < b.rx.length := by have := hp.2.2.2.2.1; have := hp.2.2.2.1.1; have := hp.2.2.2.1.2.1; omega
  have hok : ∀ W, Below w.heap.size w W → b.Ok W := fun W hb => ⟨(h.ch.below hb (Nat.le_refl _)).more hb.size, (h.ri.below hb (Nat.le_refl _)).more hb.size, h.nm, h.cl, h.cs, h.bs, h.ss, h.ks, h.ts, h.rl⟩
  have Hok := Lib.hid hok
  have hrl : b.rx.length ≤ 8 := by have := hp.2.2.2.2.1; have := hp.2.2.2.1.1; have := hp.2.2.2.1.2.2.1; have := hp.2.2.2.1.2; have h8 := hp.2.2.2.1.2.2; have h9 := hp.2.2.2.1.2.1; omega
  have Hr := Lib.hid h.ri
  obtain ⟨g, off, hA, hg, _⟩ := Hr.out.at h3
  have hb0 : Hid (Below w.heap.size w (w.alloc (.cells #[.string b.m.name, .int .i64 b.m.stage, .slice b.m.A b.m.x.length b.m.c, .string b.bob, .string b.sing, .int .i64 b.step, .string b.call, .string b.tru, .slice b.RA b.rx.length b.rc] 36))) := Lib.hid ((Below.refl _ _).alloc (Nat.le_refl _) _)
  have a7 : Hid (((w.alloc (.cells #[.string b.m.name, .int .i64 b.m.stage, .slice b.m.A b.m.x.length b.m.c, .string b.bob, .string b.sing, .int .i64 b.step, .string b.call, .string b.tru, .slice b.RA b.rx.length b.rc] 36))).cell? ⟨w.heap.size, 7, none⟩ = some (.string b.tru)) := Lib.hid (by simp [go_sem])
  have a8 : Hid (((w.alloc (.cells #[.string b.m.name, .int .i64 b.m.stage, .slice b.m.A b.m.x.length b.m.c, .string b.bob, .string b.sing, .int .i64 b.step, .string b.call, .string b.tru, .slice b.RA b.rx.length b.rc] 36))).cell? ⟨w.heap.size, 8, none⟩ = some (.slice b.RA b.rx.length b.rc)) := Lib.hid (by simp [go_sem])
  have hs0 : w.heap.size < ((w.alloc (.cells #[.string b.m.name, .int .i64 b.m.stage, .slice b.m.A b.m.x.length b.m.c, .string b.bob, .string b.sing, .int .i64 b.step, .string b.call, .string b.tru, .slice b.RA b.rx.length b.rc] 36))).heap.size := by simp
  have HA := Lib.hid hA
  clear hok h hp hA
  go_enter Tryz.func42, Tryz.ntmps42
  go_wp2_with (go_at_call 16; refine (calls_bool (iBand_any b _ (Hok.out _ hb0.out)) e1).mono ?_; rintro e w1 ⟨rfl, hb1⟩; have q7 := (hb1.cell (p := ⟨w.heap.size, 7, none⟩) hs0).trans a7.out; have q8 := (hb1.cell (p := ⟨w.heap.size, 8, none⟩) hs0).trans a8.out; have Hw1 := Lib.hid (hb0.out.trans (hb1.mono hb0.out.size)); have hws : w.heap.size < w1.heap.size := Nat.lt_of_lt_of_le hs0 hb1.size)
  clear hb1 a7 a8 hb0 hs0 q8 Hok
  rw [HA.out]
  rw [HA.out] at Hr
  skip
  go_loopw [4, 14] (fun v i wr => ∃ k : Nat, k ≤ b.rx.length ∧ i = .int .i64 k ∧ Grow wr w1.heap.size 3 1 encInt v (wrongTo b.tru b.rx k) ∧ Below w1.heap.size w1 wr) (fun _ i _ => b.rx.length - (intOf i).toNat)
  case atStart => exact ⟨0, by omega, by rfl, Grow.empty (Nat.le_refl _), (Below.refl _ _).alloc (Nat.le_refl _) _⟩
  case round =>
    obtain ⟨k, hk, rfl, hg, hbl⟩ := hrel
    have Hg := Lib.hid hg
    have Hb := Lib.hid hbl
    have Hbl : Hid (Below w.heap.size w wr) := Lib.hid (Hw1.out.trans (hbl.mono Hw1.out.size))
    have hlen := wrongTo_len b.tru b.rx k
    have hgs := Hbl.out.size
    have hz1 := hbl.size
    clear hg hbl
    by_cases hlt : k < b.rx.length
    · obtain ⟨g', off', hA', hg', hcell⟩ := Hr.out.at hlt
      simp only [Option.some.injEq, Addr.mk.injEq, and_true] at hA'
      obtain ⟨rfl, rfl⟩ := hA'
      have r0 := (Hbl.out.cell (p := ⟨g, off + k * 2, none⟩) hg).trans (hcell 0 _ rfl)
      have r1 := (Hbl.out.cell (p := ⟨g, off + k * 2 + 1, none⟩) hg).trans (hcell 1 _ rfl)
      have s7 := (Hb.out.cell (p := ⟨w.heap.size, 7, none⟩) (show w.heap.size < w1.heap.size from hws)).trans q7
      have hga : w.heap.size < wr.heap.size := Nat.lt_of_lt_of_le hws hz1
      have hgg : g < wr.heap.size := Nat.lt_of_lt_of_le hg hgs
      have hy : Hid (b.rx[k].place = placeS b.tru ((k : Int) + 1) → wrongTo b.tru b.rx (k + 1) = wrongTo b.tru b.rx k) := Lib.hid (wrongTo_y hlt)
      have hn : Hid (¬ b.rx[k].place = placeS b.tru ((k : Int) + 1) → wrongTo b.tru b.rx (k + 1) = wrongTo b.tru b.rx k ++ [(k : Int) + 1]) := Lib.hid (wrongTo_n hlt)
      obtain ⟨x, hx⟩ : ∃ x, Hid (b.rx[k] = x) := ⟨_, Lib.hid rfl⟩
      rw [hx.out] at r0 r1 hy hn
      clear hcell
      have hw1 : IntKind.i64.wrap ((k : Int) + 1) = (k : Int) + 1 := IntWalk.i64_in _ (by omega)
      by_cases hc : x.place = placeS b.tru ((k : Int) + 1)
      · have e5 : (x.place != placeS b.tru ((k : Int) + 1)) = false := by simpa using hc
        have Hy := Lib.hid (hy.out hc)
        clear hc
        go_wp2
        go_quiet ((go_at_call 102; exact Calls.quiet_of_same ((placeOf_any b.tru ((k : Int) + 1) _ Hrow.out.2 (by omega) (by omega)).mono fun _ _ h => ⟨h.1, h.2.symm⟩)))
        go_wp2
        go_roundw
        case rel => exact ⟨k + 1, by omega, by go_num, by rw [Hy.out]; exact (Hg.out.alloc _).drewN _, below_drewN (Hb.out.alloc hz1 _) _⟩
        case measure => simp [intOf]; omega
      · have e5 : (x.place != placeS b.tru ((k : Int) + 1)) = true := by simpa using hc
        have Hy := Lib.hid (hn.out hc)
        clear hc
        have hone : (∀ u ∈ [Value.int .i64 ((k : Int) + 1)], u.oneCell' = true) := by simp [Value.oneCell']
        have Hone := Lib.hid hone
        clear hone
        go_wp2
        go_quiet ((go_at_call 102; exact Calls.quiet_of_same ((placeOf_any b.tru ((k : Int) + 1) _ Hrow.out.2 (by omega) (by omega)).mono fun _ _ h => ⟨h.1, h.2.symm⟩)))
        go_wp2_with (at_builtin; refine wpList_push rfl _ _ 70 rfl w1.heap.size 3 _ 1 8 encInt rfl Int_info rfl (by omega) _ (wrongTo b.tru b.rx k) [(k : Int) + 1] 1 rfl rfl (by simp) ((Hg.out.alloc _).drewN _) rfl encInt_len Hone.out (by simp; omega) (by omega) (by first | omega | (simp; omega)) ?_; intro v' w2 hg2 hb2 _)
        go_roundw
        case rel => exact ⟨k + 1, by omega, by go_num, by rw [Hy.out]; exact hg2, (below_drewN (Hb.out.alloc hz1 _) _).trans hb2⟩
        case measure => simp [intOf]; omega
    · obtain rfl : k = b.rx.length := by omega
      go_wp2
      obtain ⟨A, c, hv, ho⟩ := Hg.out.own encInt_len
      go_ret2
      exact ⟨A, c, by rw [hv]; rfl, ho.mono Hw1.out.size (Nat.le_refl _), Hbl.out⟩
theorem iWrongIn_f (b : Bnd) (w : World) (h : b.Ok w) (hp : ¬ bandP b) :
    Calls Tryz.prog 42 #[.agg #[.string b.m.name, .int .i64 b.m.stage, .slice b.m.A b.m.x.length b.m.c, .string b.bob, .string b.sing, .int .i64 b.step, .string b.call, .string b.tru, .slice b.RA b.rx.length b.rc]] w fun e w' => e = .returned (.tuple #[.slice none 0 0, .bool false]) ∧ Below w.heap.size w w' := by
  have e1 := B_f hp
  have hok : ∀ W, Below w.heap.size w W → b.Ok W := fun W hb => ⟨(h.ch.below hb (Nat.le_refl _)).more hb.size, (h.ri.below hb (Nat.le_refl _)).more hb.size, h.nm, h.cl, h.cs, h.bs, h.ss, h.ks, h.ts, h.rl⟩
  have Hok := Lib.hid hok
  have hb0 : Hid (Below w.heap.size w (w.alloc (.cells #[.string b.m.name, .int .i64 b.m.stage, .slice b.m.A b.m.x.length b.m.c, .string b.bob, .string b.sing, .int .i64 b.step, .string b.call, .string b.tru, .slice b.RA b.rx.length b.rc] 36))) := Lib.hid ((Below.refl _ _).alloc (Nat.le_refl _) _)
  have a7 : Hid (((w.alloc (.cells #[.string b.m.name, .int .i64 b.m.stage, .slice b.m.A b.m.x.length b.m.c, .string b.bob, .string b.sing, .int .i64 b.step, .string b.call, .string b.tru, .slice b.RA b.rx.length b.rc] 36))).cell? ⟨w.heap.size, 7, none⟩ = some (.string b.tru)) := Lib.hid (by simp [go_sem])
  have a8 : Hid (((w.alloc (.cells #[.string b.m.name, .int .i64 b.m.stage, .slice b.m.A b.m.x.length b.m.c, .string b.bob, .string b.sing, .int .i64 b.step, .string b.call, .string b.tru, .slice b.RA b.rx.length b.rc] 36))).cell? ⟨w.heap.size, 8, none⟩ = some (.slice b.RA b.rx.length b.rc)) := Lib.hid (by simp [go_sem])
  clear hok h hp
  go_enter Tryz.func42, Tryz.ntmps42
  go_wp2_with (go_at_call 16; refine (calls_bool (iBand_any b _ (Hok.out _ hb0.out)) e1).mono ?_; rintro e w1 ⟨rfl, hb1⟩)
  go_ret2
  exact ⟨rfl, hb0.out.trans (hb1.mono hb0.out.size)⟩
set_option maxHeartbeats 3200000 in
theorem l24Wrong_any (b : Bnd) (w : World) (h : b.Ok w) (hp : bandP b) :
    Calls Tryz.prog 101 #[.agg #[.string b.m.name, .int .i64 b.m.stage, .slice b.m.A b.m.x.length b.m.c, .string b.bob, .string b.sing, .int .i64 b.step, .string b.call, .string b.tru, .slice b.RA b.rx.length b.rc]] w fun e w' => ∃ A c, e = .returned (.slice A (wrongTo b.tru b.rx b.rx.length).length c) ∧ OwnL w' w.heap.size w'.heap.size A 1 encInt (wrongTo b.tru b.rx b.rx.length) ∧ Below w.heap.size w w' := by
  have e1 := B_t hp
  have Hrow : Hid (isRowOf b.m.stage b.tru) := Lib.hid hp.2.2.2.1
  have h3 : 0 < b.rx.length := by have := hp.2.2.2.2.1; have := hp.2.2.2.1.1; have := hp.2.2.2.1.2.1; omega
  have hok : ∀ W, Below w.heap.size w W → b.Ok W := fun W hb => ⟨(h.ch.below hb (Nat.le_refl _)).more hb.size, (h.ri.below hb (Nat.le_refl _)).more hb.size, h.nm, h.cl, h.cs, h.bs, h.ss, h.ks, h.ts, h.rl⟩
  have Hok := Lib.hid hok
  have hrl : b.rx.length ≤ 8 := by have := hp.2.2.2.2.1; have := hp.2.2.2.1.1; have := hp.2.2.2.1.2.2.1; have := hp.2.2.2.1.2; have h8 := hp.2.2.2.1.2.2; have h9 := hp.2.2.2.1.2.1; omega
  have Hr := Lib.hid h.ri
  obtain ⟨g, off, hA, hg, _⟩ := Hr.out.at h3
  have hb0 : Hid (Below w.heap.size w (w.alloc (.cells #[.string b.m.name, .int .i64 b.m.stage, .slice b.m.A b.m.x.length b.m.c, .string b.bob, .string b.sing, .int .i64 b.step, .string b.call, .string b.tru, .slice b.RA b.rx.length b.rc] 36))) := Lib.hid ((Below.refl _ _).alloc (Nat.le_refl _) _)
  have a7 : Hid (((w.alloc (.cells #[.string b.m.name, .int .i64 b.m.stage, .slice b.m.A b.m.x.length b.m.c, .string b.bob, .string b.sing, .int .i64 b.step, .string b.call, .string b.tru, .slice b.RA b.rx.length b.rc] 36))).cell? ⟨w.heap.size, 7, none⟩ = some (.string b.tru)) := Lib.hid (by simp [go_sem])
  have a8 : Hid (((w.alloc (.cells #[.string b.m.name, .int .i64 b.m.stage, .slice b.m.A b.m.x.length b.m.c, .string b.bob, .string b.sing, .int .i64 b.step, .string b.call, .string b.tru, .slice b.RA b.rx.length b.rc] 36))).cell? ⟨w.heap.size, 8, none⟩ = some (.slice b.RA b.rx.length b.rc)) := Lib.hid (by simp [go_sem])
  have hs0 : w.heap.size < ((w.alloc (.cells #[.string b.m.name, .int .i64 b.m.stage, .slice b.m.A b.m.x.length b.m.c, .string b.bob, .string b.sing, .int .i64 b.step, .string b.call, .string b.tru, .slice b.RA b.rx.length b.rc] 36))).heap.size := by simp
  have HA := Lib.hid hA
  clear hok h hp hA
  go_enter Tryz.func101, Tryz.ntmps101
  go_wp2
  generalize (w.alloc (.cells #[.string b.m.name, .int .i64 b.m.stage, .slice b.m.A b.m.x.length b.m.c, .string b.bob, .string b.sing, .int .i64 b.step, .string b.call, .string b.tru, .slice b.RA b.rx.length b.rc] 36)) = w1 at hb0 a7 a8 hs0 ⊢
  have Hw1 := hb0
  have hws := hs0
  have q7 := a7
  clear hb0 hs0 a7 a8 Hok
  rw [HA.out]
  rw [HA.out] at Hr
  skip
  go_loopw [3, 9] (fun v i wr => ∃ k : Nat, k ≤ b.rx.length ∧ i = .int .i64 k ∧ Grow wr w1.heap.size 3 1 encInt v (wrongTo b.tru b.rx k) ∧ Below w1.heap.size w1 wr) (fun _ i _ => b.rx.length - (intOf i).toNat)
  case atStart => exact ⟨0, by omega, by rfl, Grow.nil, Below.refl _ _⟩
  case round =>
    obtain ⟨k, hk, rfl, hg, hbl⟩ := hrel
    have Hg := Lib.hid hg
    have Hb := Lib.hid hbl
    have Hbl : Hid (Below w.heap.size w wr) := Lib.hid (Hw1.out.trans (hbl.mono Hw1.out.size))
    have hlen := wrongTo_len b.tru b.rx k
    have hgs := Hbl.out.size
    have hz1 := hbl.size
    clear hg hbl
    by_cases hlt : k < b.rx.length
    · obtain ⟨g', off', hA', hg', hcell⟩ := Hr.out.at hlt
      simp only [Option.some.injEq, Addr.mk.injEq, and_true] at hA'
      obtain ⟨rfl, rfl⟩ := hA'
      have r0 := (Hbl.out.cell (p := ⟨g, off + k * 2, none⟩) hg).trans (hcell 0 _ rfl)
      have r1 := (Hbl.out.cell (p := ⟨g, off + k * 2 + 1, none⟩) hg).trans (hcell 1 _ rfl)
      have s7 := (Hb.out.cell (p := ⟨w.heap.size, 7, none⟩) (show w.heap.size < w1.heap.size from hws)).trans q7.out
      have hga : w.heap.size < wr.heap.size := Nat.lt_of_lt_of_le hws hz1
      have hgg : g < wr.heap.size := Nat.lt_of_lt_of_le hg hgs
      have hy : Hid (b.rx[k].place = placeS b.tru ((k : Int) + 1) → wrongTo b.tru b.rx (k + 1) = wrongTo b.tru b.rx k) := Lib.hid (wrongTo_y hlt)
      have hn : Hid (¬ b.rx[k].place = placeS b.tru ((k : Int) + 1) → wrongTo b.tru b.rx (k + 1) = wrongTo b.tru b.rx k ++ [(k : Int) + 1]) := Lib.hid (wrongTo_n hlt)
      obtain ⟨x, hx⟩ : ∃ x, Hid (b.rx[k] = x) := ⟨_, Lib.hid rfl⟩
      rw [hx.out] at r0 r1 hy hn
      clear hcell
      have hw1 : IntKind.i64.wrap ((k : Int) + 1) = (k : Int) + 1 := IntWalk.i64_in _ (by omega)
      by_cases hc : x.place = placeS b.tru ((k : Int) + 1)
      · have e5 : (x.place != placeS b.tru ((k : Int) + 1)) = false := by simpa using hc
        have Hy := Lib.hid (hy.out hc)
        clear hc
        go_wp2
        go_quiet ((go_at_call 130; exact Calls.quiet_of_same ((l5Place_any b.tru ((k : Int) + 1) _ Hrow.out.2 (by omega) (by omega)).mono fun _ _ h => ⟨h.1, h.2.symm⟩)))
        go_wp2
        go_roundw
        case rel => exact ⟨k + 1, by omega, by go_num, by rw [Hy.out]; exact (Hg.out.alloc _).drewN _, below_drewN (Hb.out.alloc hz1 _) _⟩
        case measure => simp [intOf]; omega
      · have e5 : (x.place != placeS b.tru ((k : Int) + 1)) = true := by simpa using hc
        have Hy := Lib.hid (hn.out hc)
        clear hc
        have hone : (∀ u ∈ [Value.int .i64 ((k : Int) + 1)], u.oneCell' = true) := by simp [Value.oneCell']
        have Hone := Lib.hid hone
        clear hone
        go_wp2
        go_quiet ((go_at_call 130; exact Calls.quiet_of_same ((l5Place_any b.tru ((k : Int) + 1) _ Hrow.out.2 (by omega) (by omega)).mono fun _ _ h => ⟨h.1, h.2.symm⟩)))
        go_wp2_with (at_builtin; refine wpList_push rfl _ _ 70 rfl w1.heap.size 3 _ 1 8 encInt rfl Int_info rfl (by omega) _ (wrongTo b.tru b.rx k) [(k : Int) + 1] 1 rfl rfl (by simp) ((Hg.out.alloc _).drewN _) rfl encInt_len Hone.out (by simp; omega) (by omega) (by first | omega | (simp; omega)) ?_; intro v' w2 hg2 hb2 _)
        go_roundw
        case rel => exact ⟨k + 1, by omega, by go_num, by rw [Hy.out]; exact hg2, (below_drewN (Hb.out.alloc hz1 _) _).trans hb2⟩
        case measure => simp [intOf]; omega
    · obtain rfl : k = b.rx.length := by omega
      go_wp2
      obtain ⟨A, c, hv, ho⟩ := Hg.out.own encInt_len
      go_ret
      exact ⟨A, c, by rw [hv]; rfl, ho.mono Hw1.out.size (Nat.le_refl _), Hbl.out⟩
theorem sWrongIn_t (b : Bnd) (w : World) (h : b.Ok w) (hp : bandP b) :
    Calls Tryz.prog 43 #[.agg #[.string b.m.name, .int .i64 b.m.stage, .slice b.m.A b.m.x.length b.m.c, .string b.bob, .string b.sing, .int .i64 b.step, .string b.call, .string b.tru, .slice b.RA b.rx.length b.rc]] w fun e w' => ∃ A c, e = .returned (.tuple #[.slice A (wrongTo b.tru b.rx b.rx.length).length c, .bool true]) ∧ OwnL w' w.heap.size w'.heap.size A 1 encInt (wrongTo b.tru b.rx b.rx.length) ∧ Below w.heap.size w w' := by
  have e1 := B_t hp
  have HP := Lib.hid hp
  have hok : ∀ W, Below w.heap.size w W → b.Ok W := fun W hb => ⟨(h.ch.below hb (Nat.le_refl _)).more hb.size, (h.ri.below hb (Nat.le_refl _)).more hb.size, h.nm, h.cl, h.cs, h.bs, h.ss, h.ks, h.ts, h.rl⟩
  have Hok := Lib.hid hok
  have a0 : Hid (∀ (i : Nat) (u : Value), (#[.string b.m.name, .int .i64 b.m.stage, .slice b.m.A b.m.x.length b.m.c, .string b.bob, .string b.sing, .int .i64 b.step, .string b.call, .string b.tru, .slice b.RA b.rx.length b.rc] : Array Value)[i]? = some u → ((w.alloc (.cells #[.string b.m.name, .int .i64 b.m.stage, .slice b.m.A b.m.x.length b.m.c, .string b.bob, .string b.sing, .int .i64 b.step, .string b.call, .string b.tru, .slice b.RA b.rx.length b.rc] 36))).cell? ⟨w.heap.size, i, none⟩ = some u) := Lib.hid (fun i u hu => by rw [World.cell?_alloc_new]; exact hu)
  have hb0 : Hid (Below w.heap.size w (w.alloc (.cells #[.string b.m.name, .int .i64 b.m.stage, .slice b.m.A b.m.x.length b.m.c, .string b.bob, .string b.sing, .int .i64 b.step, .string b.call, .string b.tru, .slice b.RA b.rx.length b.rc] 36))) := Lib.hid ((Below.refl _ _).alloc (Nat.le_refl _) _)
  have a7 : Hid (((w.alloc (.cells #[.string b.m.name, .int .i64 b.m.stage, .slice b.m.A b.m.x.length b.m.c, .string b.bob, .string b.sing, .int .i64 b.step, .string b.call, .string b.tru, .slice b.RA b.rx.length b.rc] 36))).cell? ⟨w.heap.size, 7, none⟩ = some (.string b.tru)) := Lib.hid (by simp [go_sem])
  have a8 : Hid (((w.alloc (.cells #[.string b.m.name, .int .i64 b.m.stage, .slice b.m.A b.m.x.length b.m.c, .string b.bob, .string b.sing, .int .i64 b.step, .string b.call, .string b.tru, .slice b.RA b.rx.length b.rc] 36))).cell? ⟨w.heap.size, 8, none⟩ = some (.slice b.RA b.rx.length b.rc)) := Lib.hid (by simp [go_sem])
  have hs0 : w.heap.size < ((w.alloc (.cells #[.string b.m.name, .int .i64 b.m.stage, .slice b.m.A b.m.x.length b.m.c, .string b.bob, .string b.sing, .int .i64 b.step, .string b.call, .string b.tru, .slice b.RA b.rx.length b.rc] 36))).heap.size := by simp
  clear hok h hp
  go_enter Tryz.func43, Tryz.ntmps43
  go_wp2_with (first | (go_at_call 68; refine (calls_bool (l24Good_any b _ (Hok.out _ hb0.out)) e1).mono ?_; rintro e w1 ⟨rfl, hb1⟩; have q0 := (hb1.cell (p := ⟨w.heap.size, 0, none⟩) hs0).trans (a0.out 0 _ rfl); have q1 := (hb1.cell (p := ⟨w.heap.size, 1, none⟩) hs0).trans (a0.out 1 _ rfl); have q2 := (hb1.cell (p := ⟨w.heap.size, 2, none⟩) hs0).trans (a0.out 2 _ rfl); have q3 := (hb1.cell (p := ⟨w.heap.size, 3, none⟩) hs0).trans (a0.out 3 _ rfl); have q4 := (hb1.cell (p := ⟨w.heap.size, 4, none⟩) hs0).trans (a0.out 4 _ rfl); have q5 := (hb1.cell (p := ⟨w.heap.size, 5, none⟩) hs0).trans (a0.out 5 _ rfl); have q6 := (hb1.cell (p := ⟨w.heap.size, 6, none⟩) hs0).trans (a0.out 6 _ rfl); have q7 := (hb1.cell (p := ⟨w.heap.size, 7, none⟩) hs0).trans (a0.out 7 _ rfl); have q8 := (hb1.cell (p := ⟨w.heap.size, 8, none⟩) hs0).trans (a0.out 8 _ rfl); have Hw1 := Lib.hid (hb0.out.trans (hb1.mono hb0.out.size))) | (go_at_call 101; refine (l24Wrong_any b _ (Hok.out _ Hw1.out) HP.out).mono ?_; rintro e w2 ⟨A, c, rfl, ho, hb2⟩; have HO := Lib.hid ho; clear ho))
  go_ret2
  exact ⟨A, c, rfl, HO.out.mono Hw1.out.size (Nat.le_refl _), Hw1.out.trans (hb2.mono Hw1.out.size)⟩
theorem sWrongIn_f (b : Bnd) (w : World) (h : b.Ok w) (hp : ¬ bandP b) :
    Calls Tryz.prog 43 #[.agg #[.string b.m.name, .int .i64 b.m.stage, .slice b.m.A b.m.x.length b.m.c, .string b.bob, .string b.sing, .int .i64 b.step, .string b.call, .string b.tru, .slice b.RA b.rx.length b.rc]] w fun e w' => e = .returned (.tuple #[.slice none 0 0, .bool false]) ∧ Below w.heap.size w w' := by
  have e1 := B_f hp
  have hok : ∀ W, Below w.heap.size w W → b.Ok W := fun W hb => ⟨(h.ch.below hb (Nat.le_refl _)).more hb.size, (h.ri.below hb (Nat.le_refl _)).more hb.size, h.nm, h.cl, h.cs, h.bs, h.ss, h.ks, h.ts, h.rl⟩
  have Hok := Lib.hid hok
  have hb0 : Hid (Below w.heap.size w (w.alloc (.cells #[.string b.m.name, .int .i64 b.m.stage, .slice b.m.A b.m.x.length b.m.c, .string b.bob, .string b.sing, .int .i64 b.step, .string b.call, .string b.tru, .slice b.RA b.rx.length b.rc] 36))) := Lib.hid ((Below.refl _ _).alloc (Nat.le_refl _) _)
  have a7 : Hid (((w.alloc (.cells #[.string b.m.name, .int .i64 b.m.stage, .slice b.m.A b.m.x.length b.m.c, .string b.bob, .string b.sing, .int .i64 b.step, .string b.call, .string b.tru, .slice b.RA b.rx.length b.rc] 36))).cell? ⟨w.heap.size, 7, none⟩ = some (.string b.tru)) := Lib.hid (by simp [go_sem])
  have a8 : Hid (((w.alloc (.cells #[.string b.m.name, .int .i64 b.m.stage, .slice b.m.A b.m.x.length b.m.c, .string b.bob, .string b.sing, .int .i64 b.step, .string b.call, .string b.tru, .slice b.RA b.rx.length b.rc] 36))).cell? ⟨w.heap.size, 8, none⟩ = some (.slice b.RA b.rx.length b.rc)) := Lib.hid (by simp [go_sem])
  clear hok h hp
  go_enter Tryz.func43, Tryz.ntmps43
  go_wp2_with (go_at_call 68; refine (calls_bool (l24Good_any b _ (Hok.out _ hb0.out)) e1).mono ?_; rintro e w1 ⟨rfl, hb1⟩)
  go_ret2
  exact ⟨rfl, hb0.out.trans (hb1.mono hb0.out.size)⟩
end Go.Proofs.YtkegbbndmfnolaaGreatDoor

/-
  A slice inside a value, opened: it reads as a list.
-/
namespace Go.Proofs.YtkegbbndmfnolaaGreatDoor
open Go.RowKit Go.ChangeShapes Go.WideShapes Go.Deep
set_option linter.unusedVariables false
set_option linter.unusedSimpArgs false

section
variable {H : Type} {enc : TypeId × Value → H} {P : Program} {w : World} {base : Nat} {spare : Nat → Bool} {held : Bool}
end

end Go.Proofs.YtkegbbndmfnolaaGreatDoor

/-
  A law's arguments, opened: a method, its calls, a band.
-/
namespace Go.Proofs.YtkegbbndmfnolaaGreatDoor
open Go.ChangeShapes Go.WideShapes Go.ChangeAt Go.RowKit Go.Deep
set_option linter.unusedVariables false
set_option linter.unusedSimpArgs false
set_option maxRecDepth 100000

end Go.Proofs.YtkegbbndmfnolaaGreatDoor

/-
  The actions that put a band right: contracts of both sides, and the law.
-/
namespace Go.Proofs.YtkegbbndmfnolaaGreatDoor
open Go.RowKit Go.ChangeShapes Go.WideShapes Go.Deep
set_option linter.unusedVariables false
set_option linter.unusedSimpArgs false
set_option maxRecDepth 100000

/-- The action that tells the ringer of a bell. -/
def tellA (n : Int) : Act_ := ⟨5, n, 0, ⟨#[]⟩⟩
/-- The actions that tell these bells' ringers. -/
def tellL (l : List Int) : List Act_ := l.map tellA
theorem tellL_len (l : List Int) : (tellL l).length = l.length := List.length_map _
theorem tellL_succ (l : List Int) (k : Nat) (hk : k < l.length) : tellL (l.take (k + 1)) = tellL (l.take k) ++ [tellA l[k]] := by
  unfold tellL; rw [List.take_succ_eq_append_getElem hk, List.map_append]; rfl





set_option maxHeartbeats 3200000 in
theorem iPutRight_t (b : Bnd) (w : World) (h : b.Ok w) (hp : bandP b) :
    Calls Tryz.prog 40 #[.agg #[.string b.m.name, .int .i64 b.m.stage, .slice b.m.A b.m.x.length b.m.c, .string b.bob, .string b.sing, .int .i64 b.step, .string b.call, .string b.tru, .slice b.RA b.rx.length b.rc]] w fun e w' => ∃ A c, e = .returned (.tuple #[.slice A (tellL (wrongTo b.tru b.rx b.rx.length)).length c, .bool true]) ∧ OwnL w' w.heap.size w'.heap.size A 4 Act_.enc (tellL (wrongTo b.tru b.rx b.rx.length)) ∧ Below w.heap.size w w' := by
  have HP := Lib.hid hp
  have hll : (wrongTo b.tru b.rx b.rx.length).length ≤ 8 := by have := wrongTo_len b.tru b.rx b.rx.length; have := hp.2.2.2.2.1; have h8 := hp.2.2.2.1.2.2; have h9 := hp.2.2.2.1.2.1; have := hp.2.2.2.1.1; have := hp.2.2.2.1.2.2.1; omega
  have hok : ∀ W, Below w.heap.size w W → b.Ok W := fun W hb => ⟨(h.ch.below hb (Nat.le_refl _)).more hb.size, (h.ri.below hb (Nat.le_refl _)).more hb.size, h.nm, h.cl, h.cs, h.bs, h.ss, h.ks, h.ts, h.rl⟩
  have Hok := Lib.hid hok
  have a0 : Hid (∀ (i : Nat) (u : Value), (#[.string b.m.name, .int .i64 b.m.stage, .slice b.m.A b.m.x.length b.m.c, .string b.bob, .string b.sing, .int .i64 b.step, .string b.call, .string b.tru, .slice b.RA b.rx.length b.rc] : Array Value)[i]? = some u → ((w.alloc (.cells #[.string b.m.name, .int .i64 b.m.stage, .slice b.m.A b.m.x.length b.m.c, .string b.bob, .string b.sing, .int .i64 b.step, .string b.call, .string b.tru, .slice b.RA b.rx.length b.rc] 36))).cell? ⟨w.heap.size, i, none⟩ = some u) := Lib.hid (fun i u hu => by rw [World.cell?_alloc_new]; exact hu)
  have hb0 : Hid (Below w.heap.size w (w.alloc (.cells #[.string b.m.name, .int .i64 b.m.stage, .slice b.m.A b.m.x.length b.m.c, .string b.bob, .string b.sing, .int .i64 b.step, .string b.call, .string b.tru, .slice b.RA b.rx.length b.rc] 36))) := Lib.hid ((Below.refl _ _).alloc (Nat.le_refl _) _)
  have hs0 : w.heap.size < ((w.alloc (.cells #[.string b.m.name, .int .i64 b.m.stage, .slice b.m.A b.m.x.length b.m.c, .string b.bob, .string b.sing, .int .i64 b.step, .string b.call, .string b.tru, .slice b.RA b.rx.length b.rc] 36))).heap.size := by simp
  obtain ⟨l, hl⟩ : ∃ l, Hid ((wrongTo b.tru b.rx b.rx.length) = l) := ⟨_, Lib.hid rfl⟩
  rw [hl.out] at hll ⊢
  have hwi : Hid (∀ W, b.Ok W → Calls Tryz.prog 42 #[.agg #[.string b.m.name, .int .i64 b.m.stage, .slice b.m.A b.m.x.length b.m.c, .string b.bob, .string b.sing, .int .i64 b.step, .string b.call, .string b.tru, .slice b.RA b.rx.length b.rc]] W fun e w' => ∃ A c, e = .returned (.tuple #[.slice A l.length c, .bool true]) ∧ OwnL w' W.heap.size w'.heap.size A 1 encInt l ∧ Below W.heap.size W w') := Lib.hid (fun W hW => by rw [← hl.out]; exact iWrongIn_t b W hW HP.out)
  clear hok h hp
  go_enter Tryz.func40, Tryz.ntmps40
  go_wp2_with (go_at_call 42; refine (hwi.out _ (Hok.out _ hb0.out)).mono ?_; rintro e w2 ⟨A, c, rfl, ho, hb2⟩; have HR := Lib.hid (ho.rd encInt_len); have Hw2 := Lib.hid (hb0.out.trans (hb2.mono hb0.out.size)); clear ho hb2)
  skip
  go_loopw [6, 19] (fun v i wr => ∃ k : Nat, k ≤ l.length ∧ i = .int .i64 k ∧ Grow wr w2.heap.size 45 4 Act_.enc v (tellL (l.take k)) ∧ Below w2.heap.size w2 wr) (fun _ i _ => l.length - (intOf i).toNat)
  case atStart => exact ⟨0, by omega, by rfl, Grow.empty (Nat.le_refl _), (Below.refl _ _).alloc (Nat.le_refl _) _⟩
  case round =>
    obtain ⟨k, hk, rfl, hg, hbl⟩ := hrel
    have Hg := Lib.hid hg
    have Hb := Lib.hid hbl
    have hz1 := hbl.size
    clear hg hbl
    by_cases hlt : k < l.length
    · obtain ⟨g, off, hA, hgl, hcell⟩ := HR.out.at hlt
      subst hA
      have r0 : wr.cell? ⟨g, off + k, none⟩ = some (.int .i64 l[k]) := (Hb.out.cell (p := ⟨g, off + k, none⟩) hgl).trans (by have := hcell 0 _ rfl; rw [Nat.mul_one] at this; exact this)
      have hlen : (tellL (l.take k)).length ≤ 1000 := by rw [tellL_len, List.length_take]; omega
      obtain ⟨x, hx⟩ : ∃ x, Hid (l[k] = x) := ⟨_, Lib.hid rfl⟩
      rw [hx.out] at r0
      clear hcell
      have hone : (∀ u ∈ [Value.int .i64 5, Value.int .i64 x, Value.int .i64 0, Value.string ⟨#[]⟩], u.oneCell' = true) := by simp [Value.oneCell']
      have Hone := Lib.hid hone
      clear hone
      go_wp2_with (at_builtin; refine wpList_push rfl (.tmp 23) (.tmp 26) 37 rfl w2.heap.size 45 _ 4 40 Act_.enc rfl RingAct_info rfl (by omega) u6 (tellL (l.take k)) [tellA x] 1 rfl rfl (by first | rfl | simp) Hg.out rfl Act__enc_len Hone.out (by simp only [List.length_singleton]; omega) (by omega) (by first | omega | (simp; omega)) ?_; intro v' w9 hg9 hb9 _)
      go_roundw
      case rel => exact ⟨k + 1, by omega, by go_num, by rw [tellL_succ l k hlt, hx.out]; exact hg9, Hb.out.trans hb9⟩
      case measure => simp [intOf]; omega
    · obtain rfl : k = l.length := by omega
      go_wp2
      have hg := Hg.out
      rw [List.take_length] at hg
      obtain ⟨A9, c9, hv, ho⟩ := hg.own Act__enc_len
      go_ret2
      exact ⟨A9, c9, by rw [hv]; rfl, ho.mono Hw2.out.size (Nat.le_refl _), Hw2.out.trans (Hb.out.mono Hw2.out.size)⟩
theorem iPutRight_f (b : Bnd) (w : World) (h : b.Ok w) (hp : ¬ bandP b) :
    Calls Tryz.prog 40 #[.agg #[.string b.m.name, .int .i64 b.m.stage, .slice b.m.A b.m.x.length b.m.c, .string b.bob, .string b.sing, .int .i64 b.step, .string b.call, .string b.tru, .slice b.RA b.rx.length b.rc]] w fun e w' => e = .returned (.tuple #[.slice none 0 0, .bool false]) ∧ Below w.heap.size w w' := by
  have HP := Lib.hid hp
  have hok : ∀ W, Below w.heap.size w W → b.Ok W := fun W hb => ⟨(h.ch.below hb (Nat.le_refl _)).more hb.size, (h.ri.below hb (Nat.le_refl _)).more hb.size, h.nm, h.cl, h.cs, h.bs, h.ss, h.ks, h.ts, h.rl⟩
  have Hok := Lib.hid hok
  have hb0 : Hid (Below w.heap.size w (w.alloc (.cells #[.string b.m.name, .int .i64 b.m.stage, .slice b.m.A b.m.x.length b.m.c, .string b.bob, .string b.sing, .int .i64 b.step, .string b.call, .string b.tru, .slice b.RA b.rx.length b.rc] 36))) := Lib.hid ((Below.refl _ _).alloc (Nat.le_refl _) _)
  clear hok h hp
  go_enter Tryz.func40, Tryz.ntmps40
  go_wp2_with (go_at_call 42; refine (iWrongIn_f b _ (Hok.out _ hb0.out) HP.out).mono ?_; rintro e w1 ⟨rfl, hb1⟩)
  go_ret2
  exact ⟨rfl, hb0.out.trans (hb1.mono hb0.out.size)⟩

set_option maxHeartbeats 3200000 in
theorem sPutRight_t (b : Bnd) (w : World) (h : b.Ok w) (hp : bandP b) :
    Calls Tryz.prog 41 #[.agg #[.string b.m.name, .int .i64 b.m.stage, .slice b.m.A b.m.x.length b.m.c, .string b.bob, .string b.sing, .int .i64 b.step, .string b.call, .string b.tru, .slice b.RA b.rx.length b.rc]] w fun e w' => ∃ A c, e = .returned (.tuple #[.slice A (tellL (wrongTo b.tru b.rx b.rx.length)).length c, .bool true]) ∧ OwnL w' w.heap.size w'.heap.size A 4 Act_.enc (tellL (wrongTo b.tru b.rx b.rx.length)) ∧ Below w.heap.size w w' := by
  have e1 := B_t hp
  have HP := Lib.hid hp
  have hll : (wrongTo b.tru b.rx b.rx.length).length ≤ 8 := by have := wrongTo_len b.tru b.rx b.rx.length; have := hp.2.2.2.2.1; have h8 := hp.2.2.2.1.2.2; have h9 := hp.2.2.2.1.2.1; have := hp.2.2.2.1.1; have := hp.2.2.2.1.2.2.1; omega
  have hok : ∀ W, Below w.heap.size w W → b.Ok W := fun W hb => ⟨(h.ch.below hb (Nat.le_refl _)).more hb.size, (h.ri.below hb (Nat.le_refl _)).more hb.size, h.nm, h.cl, h.cs, h.bs, h.ss, h.ks, h.ts, h.rl⟩
  have Hok := Lib.hid hok
  have a0 : Hid (∀ (i : Nat) (u : Value), (#[.string b.m.name, .int .i64 b.m.stage, .slice b.m.A b.m.x.length b.m.c, .string b.bob, .string b.sing, .int .i64 b.step, .string b.call, .string b.tru, .slice b.RA b.rx.length b.rc] : Array Value)[i]? = some u → ((w.alloc (.cells #[.string b.m.name, .int .i64 b.m.stage, .slice b.m.A b.m.x.length b.m.c, .string b.bob, .string b.sing, .int .i64 b.step, .string b.call, .string b.tru, .slice b.RA b.rx.length b.rc] 36))).cell? ⟨w.heap.size, i, none⟩ = some u) := Lib.hid (fun i u hu => by rw [World.cell?_alloc_new]; exact hu)
  have hb0 : Hid (Below w.heap.size w (w.alloc (.cells #[.string b.m.name, .int .i64 b.m.stage, .slice b.m.A b.m.x.length b.m.c, .string b.bob, .string b.sing, .int .i64 b.step, .string b.call, .string b.tru, .slice b.RA b.rx.length b.rc] 36))) := Lib.hid ((Below.refl _ _).alloc (Nat.le_refl _) _)
  have hs0 : w.heap.size < ((w.alloc (.cells #[.string b.m.name, .int .i64 b.m.stage, .slice b.m.A b.m.x.length b.m.c, .string b.bob, .string b.sing, .int .i64 b.step, .string b.call, .string b.tru, .slice b.RA b.rx.length b.rc] 36))).heap.size := by simp
  obtain ⟨l, hl⟩ : ∃ l, Hid ((wrongTo b.tru b.rx b.rx.length) = l) := ⟨_, Lib.hid rfl⟩
  rw [hl.out] at hll ⊢
  have hwi : Hid (∀ W, b.Ok W → Calls Tryz.prog 101 #[.agg #[.string b.m.name, .int .i64 b.m.stage, .slice b.m.A b.m.x.length b.m.c, .string b.bob, .string b.sing, .int .i64 b.step, .string b.call, .string b.tru, .slice b.RA b.rx.length b.rc]] W fun e w' => ∃ A c, e = .returned (.slice A l.length c) ∧ OwnL w' W.heap.size w'.heap.size A 1 encInt l ∧ Below W.heap.size W w') := Lib.hid (fun W hW => by rw [← hl.out]; exact l24Wrong_any b W hW HP.out)
  clear hok h hp
  go_enter Tryz.func41, Tryz.ntmps41
  go_wp2_with (first | (go_at_call 68; refine (calls_bool (l24Good_any b _ (Hok.out _ hb0.out)) e1).mono ?_; rintro e w1 ⟨rfl, hb1⟩; have q0 := (hb1.cell (p := ⟨w.heap.size, 0, none⟩) hs0).trans (a0.out 0 _ rfl); have q1 := (hb1.cell (p := ⟨w.heap.size, 1, none⟩) hs0).trans (a0.out 1 _ rfl); have q2 := (hb1.cell (p := ⟨w.heap.size, 2, none⟩) hs0).trans (a0.out 2 _ rfl); have q3 := (hb1.cell (p := ⟨w.heap.size, 3, none⟩) hs0).trans (a0.out 3 _ rfl); have q4 := (hb1.cell (p := ⟨w.heap.size, 4, none⟩) hs0).trans (a0.out 4 _ rfl); have q5 := (hb1.cell (p := ⟨w.heap.size, 5, none⟩) hs0).trans (a0.out 5 _ rfl); have q6 := (hb1.cell (p := ⟨w.heap.size, 6, none⟩) hs0).trans (a0.out 6 _ rfl); have q7 := (hb1.cell (p := ⟨w.heap.size, 7, none⟩) hs0).trans (a0.out 7 _ rfl); have q8 := (hb1.cell (p := ⟨w.heap.size, 8, none⟩) hs0).trans (a0.out 8 _ rfl); have Hw1 := Lib.hid (hb0.out.trans (hb1.mono hb0.out.size)); clear hb1) | (go_at_call 101; refine (hwi.out _ (Hok.out _ Hw1.out)).mono ?_; rintro e w2 ⟨A, c, rfl, ho, hb2⟩; have HR := Lib.hid (ho.rd encInt_len); have Hw2 := Lib.hid (Hw1.out.trans (hb2.mono Hw1.out.size)); clear ho hb2 q0 q1 q2 q3 q4 q5 q6 q7 q8))
  skip
  go_loopw [4, 13] (fun v i wr => ∃ k : Nat, k ≤ l.length ∧ i = .int .i64 k ∧ Grow wr w2.heap.size 45 4 Act_.enc v (tellL (l.take k)) ∧ Below w2.heap.size w2 wr) (fun _ i _ => l.length - (intOf i).toNat)
  case atStart => exact ⟨0, by omega, by rfl, Grow.nil, Below.refl _ _⟩
  case round =>
    obtain ⟨k, hk, rfl, hg, hbl⟩ := hrel
    have Hg := Lib.hid hg
    have Hb := Lib.hid hbl
    have hz1 := hbl.size
    clear hg hbl
    by_cases hlt : k < l.length
    · obtain ⟨g, off, hA, hgl, hcell⟩ := HR.out.at hlt
      subst hA
      have r0 : wr.cell? ⟨g, off + k, none⟩ = some (.int .i64 l[k]) := (Hb.out.cell (p := ⟨g, off + k, none⟩) hgl).trans (by have := hcell 0 _ rfl; rw [Nat.mul_one] at this; exact this)
      have hlen : (tellL (l.take k)).length ≤ 1000 := by rw [tellL_len, List.length_take]; omega
      obtain ⟨x, hx⟩ : ∃ x, Hid (l[k] = x) := ⟨_, Lib.hid rfl⟩
      rw [hx.out] at r0
      clear hcell
      have hone : (∀ u ∈ [Value.int .i64 5, Value.int .i64 x, Value.int .i64 0, Value.string ⟨#[]⟩], u.oneCell' = true) := by simp [Value.oneCell']
      have Hone := Lib.hid hone
      clear hone
      go_wp2_with (at_builtin; refine wpList_push rfl (.tmp 17) (.tmp 20) 37 rfl w2.heap.size 45 _ 4 40 Act_.enc rfl RingAct_info rfl (by omega) u4 (tellL (l.take k)) [tellA x] 1 rfl rfl (by first | rfl | simp) Hg.out rfl Act__enc_len Hone.out (by simp only [List.length_singleton]; omega) (by omega) (by first | omega | (simp; omega)) ?_; intro v' w9 hg9 hb9 _)
      go_roundw
      case rel => exact ⟨k + 1, by omega, by go_num, by rw [tellL_succ l k hlt, hx.out]; exact hg9, Hb.out.trans hb9⟩
      case measure => simp [intOf]; omega
    · obtain rfl : k = l.length := by omega
      go_wp2
      have hg := Hg.out
      rw [List.take_length] at hg
      obtain ⟨A9, c9, hv, ho⟩ := hg.own Act__enc_len
      go_ret2
      exact ⟨A9, c9, by rw [hv]; rfl, ho.mono Hw2.out.size (Nat.le_refl _), Hw2.out.trans (Hb.out.mono Hw2.out.size)⟩
theorem sPutRight_f (b : Bnd) (w : World) (h : b.Ok w) (hp : ¬ bandP b) :
    Calls Tryz.prog 41 #[.agg #[.string b.m.name, .int .i64 b.m.stage, .slice b.m.A b.m.x.length b.m.c, .string b.bob, .string b.sing, .int .i64 b.step, .string b.call, .string b.tru, .slice b.RA b.rx.length b.rc]] w fun e w' => e = .returned (.tuple #[.slice none 0 0, .bool false]) ∧ Below w.heap.size w w' := by
  have e1 := B_f hp
  have hok : ∀ W, Below w.heap.size w W → b.Ok W := fun W hb => ⟨(h.ch.below hb (Nat.le_refl _)).more hb.size, (h.ri.below hb (Nat.le_refl _)).more hb.size, h.nm, h.cl, h.cs, h.bs, h.ss, h.ks, h.ts, h.rl⟩
  have Hok := Lib.hid hok
  have hb0 : Hid (Below w.heap.size w (w.alloc (.cells #[.string b.m.name, .int .i64 b.m.stage, .slice b.m.A b.m.x.length b.m.c, .string b.bob, .string b.sing, .int .i64 b.step, .string b.call, .string b.tru, .slice b.RA b.rx.length b.rc] 36))) := Lib.hid ((Below.refl _ _).alloc (Nat.le_refl _) _)
  clear hok h hp
  go_enter Tryz.func41, Tryz.ntmps41
  go_wp2_with (go_at_call 68; refine (calls_bool (l24Good_any b _ (Hok.out _ hb0.out)) e1).mono ?_; rintro e w1 ⟨rfl, hb1⟩)
  go_ret2
  exact ⟨rfl, hb0.out.trans (hb1.mono hb0.out.size)⟩
end Go.Proofs.YtkegbbndmfnolaaGreatDoor

/-
  Contracts: lead heads with a call (both sides).
-/
namespace Go.Proofs.YtkegbbndmfnolaaGreatDoor
open Go.RowKit
set_option linter.unusedVariables false
set_option linter.unusedSimpArgs false
set_option maxRecDepth 100000










end Go.Proofs.YtkegbbndmfnolaaGreatDoor

/-
  Contracts: the heads of a touch, whether it comes round (the reference's side).
-/
namespace Go.Proofs.YtkegbbndmfnolaaGreatDoor
open Go.RowKit
set_option linter.unusedVariables false
set_option linter.unusedSimpArgs false
set_option maxRecDepth 100000

theorem RdL.take {α : Type} {w : World} {b : Nat} {A : Option Addr} {size : Nat} {enc : α → List Value} {l : List α} (h : RdL w b A size enc l) (m : Nat) : RdL w b A size enc (l.take m) := by
  rcases h with h | ⟨g, off, hA, hg, hc⟩
  · exact .inl (by subst h; simp)
  · refine .inr ⟨g, off, hA, hg, fun i hi j u hu => hc i (by simp at hi; omega) j u ?_⟩
    rw [List.getElem_take] at hu; exact hu





end Go.Proofs.YtkegbbndmfnolaaGreatDoor

/-
  The rows of a touch (the reference's side), exactly.
-/
namespace Go.Proofs.YtkegbbndmfnolaaGreatDoor
open Go.RowKit
set_option linter.unusedVariables false
set_option linter.unusedSimpArgs false
set_option maxRecDepth 100000

/-- The rows of the first k leads of a touch. -/
noncomputable def rowsTo (n : Nat) (x : List ByteArray) (b s t : ByteArray) : Nat → List ByteArray
  | 0 => []
  | k + 1 => rowsTo n x b s t k ++ walkL (chF n) (headS n x b s t k) x x.length
/-- The rows of a touch. -/
noncomputable def rowsL9 (n : Nat) (x : List ByteArray) (b s t : ByteArray) : List ByteArray := rowsTo n x b s t t.size





end Go.Proofs.YtkegbbndmfnolaaGreatDoor
