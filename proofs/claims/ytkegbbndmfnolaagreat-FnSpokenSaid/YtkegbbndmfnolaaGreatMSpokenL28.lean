import Derived.Test.YtkegbbndmfnolaaGreatMSpokenL27
import Derived.Test.YtkegbbndmfnolaaGreatRep
/-
  Contracts: the touch that a list of spoken words tells, TouchSaid of both sides.
-/
namespace Go.Proofs.YtkegbbndmfnolaaGreat
open Go.RowKit
set_option linter.unusedVariables false
set_option linter.unusedSimpArgs false
set_option maxRecDepth 100000

/-- The touch that a list tells, as the reference reads it. -/
noncomputable def touchL (n first : Int) (l : List Spk) (L : Nat) : List Int := (List.range L).map fun i : Nat => l.foldl (pickW (sayRow n first i)) 112
theorem touchL_len (n first : Int) (l : List Spk) (L : Nat) : (touchL n first l L).length = L := by simp [touchL]
theorem pickW_y {r a : Int} {x : Spk} (h : x.row = r ∧ isBS x.word) : pickW r a x = w0 x := by unfold pickW; rw [if_pos h]
theorem pickW_n {r a : Int} {x : Spk} (h : ¬ (x.row = r ∧ isBS x.word)) : pickW r a x = a := by unfold pickW; rw [if_neg h]
theorem foldl_take_succ {α β : Type} (f : β → α → β) (b : β) (l : List α) (k : Nat) (hk : k < l.length) : (l.take (k + 1)).foldl f b = f ((l.take k).foldl f b) l[k] := by
  rw [List.take_succ_eq_append_getElem hk, List.foldl_append]; rfl
section
attribute [-go_sem] run_eql_struct run_neq_struct


set_option maxHeartbeats 3200000 in
theorem l26Same_any (a l : List Spk) (A A' : Option Addr) (c c' : Nat) (w : World) (ha : RdL w w.heap.size A 2 Spk.enc a) (hh : RdL w w.heap.size A' 2 Spk.enc l) (h1 : a.length ≤ 1048576) (h2 : l.length ≤ 1048576) :
    Calls Tryz.prog 73 #[.slice A a.length c, .slice A' l.length c'] w fun e w' => e = .returned (.bool (B (a = l))) ∧ Below w.heap.size w w' := by
  have Ha := Lib.hid ha
  have Hl := Lib.hid hh
  clear ha hh
  by_cases hlen : a.length = l.length
  rotate_left
  · have d1 : ((a.length : Int) != (l.length : Int)) = true := by simp; omega
    have d2 : ((a.length : Int) == (l.length : Int)) = false := by simp; omega
    have H := Lib.hid hlen
    clear hlen
    go_enter Tryz.func73, Tryz.ntmps73
    go_wp2
    go_ret
    exact ⟨ret_f (fun x => H.out (by rw [x])), Below.refl _ _⟩
  have d1 : ((a.length : Int) != (l.length : Int)) = false := by simp; omega
  have d2 : ((a.length : Int) == (l.length : Int)) = true := by simp; omega
  have H := Lib.hid hlen
  clear hlen
  go_enter Tryz.func73, Tryz.ntmps73
  go_wp2
  go_loopw [13] (fun j wr => ∃ k : Nat, k ≤ a.length ∧ j = .int .i64 k ∧ (∀ j, j < k → a[j]? = l[j]?) ∧ Below w.heap.size w wr) (fun j _ => a.length - (intOf j).toNat)
  case atStart => exact ⟨0, by omega, by rfl, fun j hj => by omega, Below.refl _ _⟩
  case round =>
    obtain ⟨k, hk, rfl, hq, hbl⟩ := hrel
    have Hq := Lib.hid hq
    have Hb0 := Lib.hid hbl
    have hg0 := hbl.size
    clear hq hbl
    by_cases hla : k < a.length
    rotate_left
    · have hE : Hid (a = l) := Lib.hid (by
        apply List.ext_getElem?
        intro j
        by_cases hj : j < a.length
        · exact Hq.out j (by omega)
        · rw [List.getElem?_eq_none (by omega), List.getElem?_eq_none (by have := H.out; omega)])
      go_wp2
      go_ret
      exact ⟨ret_t hE.out, Hb0.out⟩
    have hll : k < l.length := by have := H.out; omega
    obtain ⟨ga, oa, hAa, hga, hca⟩ := Ha.out.at hla
    subst hAa
    have a0 := (Hb0.out.cell (p := ⟨ga, oa + k * 2, none⟩) hga).trans (hca 0 _ rfl)
    have a1 := (Hb0.out.cell (p := ⟨ga, oa + k * 2 + 1, none⟩) hga).trans (hca 1 _ rfl)
    obtain ⟨x, hx⟩ : ∃ x, Hid (a[k] = x) := ⟨_, Lib.hid rfl⟩
    rw [hx.out] at a0 a1
    obtain ⟨gl, ol, hAl, hgl, hcl⟩ := Hl.out.at hll
    subst hAl
    have l0 := (Hb0.out.cell (p := ⟨gl, ol + k * 2, none⟩) hgl).trans (hcl 0 _ rfl)
    have l1 := (Hb0.out.cell (p := ⟨gl, ol + k * 2 + 1, none⟩) hgl).trans (hcl 1 _ rfl)
    obtain ⟨y, hy⟩ : ∃ y, Hid (l[k] = y) := ⟨_, Lib.hid rfl⟩
    rw [hy.out] at l0 l1
    clear hca hcl
    by_cases hxy : x = y
    · have hn := neSpk_f hxy
      have hk1 : Hid (∀ j, j < k + 1 → a[j]? = l[j]?) := Lib.hid (fun j hj => by
        rcases Nat.lt_or_eq_of_le (Nat.le_of_lt_succ hj) with h' | rfl
        · exact Hq.out j h'
        · rw [List.getElem?_eq_getElem hla, List.getElem?_eq_getElem hll, hx.out, hy.out, hxy])
      clear hxy
      go_wp2
      go_quiet (fail)
      go_wp2
      go_roundw
      case rel => exact ⟨k + 1, by omega, by go_num, hk1.out, below_drewN Hb0.out _⟩
      case measure => simp [intOf]; omega
    · have hn := neSpk_t hxy
      have hne : Hid (¬ a = l) := Lib.hid (fun e => by subst e; exact hxy (hx.out.symm.trans hy.out))
      clear hxy
      go_wp2
      go_quiet (fail)
      go_wp2
      go_ret
      exact ⟨ret_f hne.out, below_drewN Hb0.out _⟩
set_option maxHeartbeats 3200000 in
theorem eqSpkL_any (a l : List Spk) (A A' : Option Addr) (c c' : Nat) (w : World) (ha : RdL w w.heap.size A 2 Spk.enc a) (hh : RdL w w.heap.size A' 2 Spk.enc l) (h1 : a.length ≤ 1048576) (h2 : l.length ≤ 1048576) :
    Calls Tryz.prog 111 #[.slice A a.length c, .slice A' l.length c'] w fun e w' => e = .returned (.bool (B (a = l))) ∧ Below w.heap.size w w' := by
  have Ha := Lib.hid ha
  have Hl := Lib.hid hh
  clear ha hh
  by_cases hlen : a.length = l.length
  rotate_left
  · have d1 : ((a.length : Int) != (l.length : Int)) = true := by simp; omega
    have d2 : ((a.length : Int) == (l.length : Int)) = false := by simp; omega
    have H := Lib.hid hlen
    clear hlen
    go_enter Tryz.func111, Tryz.ntmps111
    go_wp2
    go_ret
    exact ⟨ret_f (fun x => H.out (by rw [x])), Below.refl _ _⟩
  have d1 : ((a.length : Int) != (l.length : Int)) = false := by simp; omega
  have d2 : ((a.length : Int) == (l.length : Int)) = true := by simp; omega
  have H := Lib.hid hlen
  clear hlen
  go_enter Tryz.func111, Tryz.ntmps111
  go_wp2
  go_loopw [13] (fun j wr => ∃ k : Nat, k ≤ a.length ∧ j = .int .i64 k ∧ (∀ j, j < k → a[j]? = l[j]?) ∧ Below w.heap.size w wr) (fun j _ => a.length - (intOf j).toNat)
  case atStart => exact ⟨0, by omega, by rfl, fun j hj => by omega, Below.refl _ _⟩
  case round =>
    obtain ⟨k, hk, rfl, hq, hbl⟩ := hrel
    have Hq := Lib.hid hq
    have Hb0 := Lib.hid hbl
    have hg0 := hbl.size
    clear hq hbl
    by_cases hla : k < a.length
    rotate_left
    · have hE : Hid (a = l) := Lib.hid (by
        apply List.ext_getElem?
        intro j
        by_cases hj : j < a.length
        · exact Hq.out j (by omega)
        · rw [List.getElem?_eq_none (by omega), List.getElem?_eq_none (by have := H.out; omega)])
      go_wp2
      go_ret
      exact ⟨ret_t hE.out, Hb0.out⟩
    have hll : k < l.length := by have := H.out; omega
    obtain ⟨ga, oa, hAa, hga, hca⟩ := Ha.out.at hla
    subst hAa
    have a0 := (Hb0.out.cell (p := ⟨ga, oa + k * 2, none⟩) hga).trans (hca 0 _ rfl)
    have a1 := (Hb0.out.cell (p := ⟨ga, oa + k * 2 + 1, none⟩) hga).trans (hca 1 _ rfl)
    obtain ⟨x, hx⟩ : ∃ x, Hid (a[k] = x) := ⟨_, Lib.hid rfl⟩
    rw [hx.out] at a0 a1
    obtain ⟨gl, ol, hAl, hgl, hcl⟩ := Hl.out.at hll
    subst hAl
    have l0 := (Hb0.out.cell (p := ⟨gl, ol + k * 2, none⟩) hgl).trans (hcl 0 _ rfl)
    have l1 := (Hb0.out.cell (p := ⟨gl, ol + k * 2 + 1, none⟩) hgl).trans (hcl 1 _ rfl)
    obtain ⟨y, hy⟩ : ∃ y, Hid (l[k] = y) := ⟨_, Lib.hid rfl⟩
    rw [hy.out] at l0 l1
    clear hca hcl
    by_cases hxy : x = y
    · have hn := neSpk_f hxy
      have hk1 : Hid (∀ j, j < k + 1 → a[j]? = l[j]?) := Lib.hid (fun j hj => by
        rcases Nat.lt_or_eq_of_le (Nat.le_of_lt_succ hj) with h' | rfl
        · exact Hq.out j h'
        · rw [List.getElem?_eq_getElem hla, List.getElem?_eq_getElem hll, hx.out, hy.out, hxy])
      clear hxy
      go_wp2
      go_quiet (fail)
      go_wp2
      go_roundw
      case rel => exact ⟨k + 1, by omega, by go_num, hk1.out, below_drewN Hb0.out _⟩
      case measure => simp [intOf]; omega
    · have hn := neSpk_t hxy
      have hne : Hid (¬ a = l) := Lib.hid (fun e => by subst e; exact hxy (hx.out.symm.trans hy.out))
      clear hxy
      go_wp2
      go_quiet (fail)
      go_wp2
      go_ret
      exact ⟨ret_f hne.out, below_drewN Hb0.out _⟩
end


theorem spokenP_size {s : ByteArray} (h : spokenP s) : 0 < s.size := by
  unfold spokenP spokenWords at h
  simp only [List.mem_cons, List.not_mem_nil, or_false] at h
  rcases h with rfl | rfl | rfl | rfl | rfl <;> decide
set_option maxHeartbeats 6400000 in
theorem l26Touch_any (m : Mth) (l : List Spk) (first : Int) (L : Nat) (A' : Option Addr) (c' : Nat) (w : World) (hx : m.x.length ≤ 40) (hl : l.length ≤ 63) (hf1 : 1 ≤ first) (hf2 : first ≤ 3001) (hL : L ≤ 60)
    (hsp : ∀ x ∈ l, spokenP x.word) (hrow : ∀ x ∈ l, inB x.row 0 3000) (hh : RdL w w.heap.size A' 2 Spk.enc l) :
    Calls Tryz.prog 72 #[.agg #[Value.string m.name, .int .i64 m.stage, .slice m.A m.x.length m.c], .slice A' l.length c', .int .i64 first, .int .i64 (L : Int)] w fun e w' => e = .returned (.string (mkS (touchL m.x.length first l L))) ∧ Below w.heap.size w w' := by
  have Hl := Lib.hid hh
  have Hsp := Lib.hid hsp
  have Hrow := Lib.hid hrow
  clear hh hsp hrow
  obtain ⟨N, hN⟩ : ∃ N, Hid (m.x.length = N) := ⟨_, Lib.hid rfl⟩
  have hN40 : N ≤ 40 := by rw [← hN.out]; exact hx
  rw [hN.out]
  clear hx
  have hW : ∃ W : World, Hid (w.alloc (.cells #[Value.string m.name, .int .i64 m.stage, .slice m.A N m.c] 45) = W) ∧ Hid (Below w.heap.size w W) ∧ w.heap.size + 1 ≤ W.heap.size ∧ Hid (Cells W w.heap.size 3 (fun i => (#[Value.string m.name, .int .i64 m.stage, .slice m.A N m.c] : Array Value).getD i undef)) :=
    ⟨_, Lib.hid rfl, Lib.hid ((Below.refl _ _).alloc (Nat.le_refl _) _), by simp, Lib.hid (Cells.newD _ #[Value.string m.name, .int .i64 m.stage, .slice m.A N m.c] _)⟩
  obtain ⟨W, hWe, hWb, hWs, hM⟩ := hW
  go_enter Tryz.func72, Tryz.ntmps72
  go_upto_region 1 with fail
  rw [hWe.out]
  clear hWe
  go_wp2_with (refine wpList_make_cells rfl 22 _ rfl 5 _ 1 rfl byte_info rfl .i64 L rfl (by omega) (by omega) ?_; intro w1 hc1 hb1 _)
  have Hc1 := Lib.hid hc1
  have Hb1 := Lib.hid hb1
  clear hc1 hb1
  go_loopw [18] (fun j wr => ∃ k : Nat, k ≤ L ∧ j = .int .i64 k ∧ Cells wr W.heap.size L (fun p => .int .u8 (if p < k then l.foldl (pickW (sayRow N first p)) 112 else 0)) ∧ Below W.heap.size W wr) (fun j _ => L - (intOf j).toNat)
  case atStart => exact ⟨0, by omega, by rfl, Hc1.out.congr (fun i _ => by simp), Hb1.out⟩
  case round =>
    obtain ⟨k, hk, rfl, hc, hbl⟩ := hrel
    have Hc := Lib.hid hc
    have Hb0 := Lib.hid hbl
    have hg0 := hbl.size
    clear hc hbl Hc1 Hb1
    by_cases hlt : k < L
    · have hcell := Hc.out.cell hlt
      have hfree := Hc.out.free hlt
      have m2 : wr.cell? ⟨w.heap.size, 2, none⟩ = some (.slice m.A N m.c) := (hM.out.below Hb0.out (by omega)).cell (i := 2) (by omega)
      obtain ⟨r, hr⟩ : ∃ r, Hid (sayRow N first k = r) := ⟨_, Lib.hid rfl⟩
      have hr' : Hid (first + (N : Int) * ((k : Int) + 1) - 2 = r) := Lib.hid (by rw [← hr.out]; rfl)
      have hmb := mul_bd1 hN40 (show k < 60 by omega)
      have hm0 := hmb.1
      have hm1 := hmb.2
      have hre := hr'.out
      clear hmb
      go_wp2
      go_loopw [35] (fun j wr2 => ∃ q : Nat, q ≤ l.length ∧ j = .int .i64 q ∧ Cells wr2 W.heap.size L (fun p => .int .u8 (if p = k then (l.take q).foldl (pickW r) 112 else if p < k then l.foldl (pickW (sayRow N first p)) 112 else 0)) ∧ Below W.heap.size W wr2) (fun j _ => l.length - (intOf j).toNat)
      case atStart =>
        refine ⟨0, by omega, by rfl, (Hc.out.set hlt _).congr fun j _ => ?_, Hb0.out.setCell (p := ⟨W.heap.size, k, none⟩) (Nat.le_refl _) _⟩
        by_cases e : j = k
        · subst e; rw [upd_same, if_pos rfl]; rfl
        · rw [upd_other _ _ _ _ e, if_neg e]
      case round =>
        obtain ⟨q, hq, rfl, hc2, hbl2⟩ := hrel
        have Hc2 := Lib.hid hc2
        have Hb2 := Lib.hid hbl2
        have hg2 := hbl2.size
        clear hc2 hbl2 hcell hfree m2 hre hm0 hm1
        by_cases hq2 : q < l.length
        · have hcell := Hc2.out.cell hlt
          have hfree := Hc2.out.free hlt
          simp only [if_true, if_pos rfl] at hcell
          obtain ⟨gl, ol, hAl, hgl, hcl⟩ := Hl.out.at hq2
          subst hAl
          have Bx := Lib.hid (hWb.out.trans (Hb2.out.mono hWb.out.size))
          have l0 := (Bx.out.cell (p := ⟨gl, ol + q * 2, none⟩) hgl).trans (hcl 0 _ rfl)
          have l1 := (Bx.out.cell (p := ⟨gl, ol + q * 2 + 1, none⟩) hgl).trans (hcl 1 _ rfl)
          have hfs := Lib.hid (foldl_take_succ (pickW r) 112 l q hq2)
          have hws : 0 < l[q].word.size := spokenP_size (Hsp.out _ (List.getElem_mem hq2))
          obtain ⟨x, hx⟩ : ∃ x, Hid (l[q] = x) := ⟨_, Lib.hid rfl⟩
          rw [hx.out] at l0 l1 hfs hws
          clear hcl
          obtain ⟨a, ha⟩ : ∃ a, Hid ((l.take q).foldl (pickW r) 112 = a) := ⟨_, Lib.hid rfl⟩
          rw [ha.out] at hcell hfs
          have hlo := bat_lo x.word 0
          have hgl2 := Hc2.out.lt
          have hhi := bat_hi x.word 0
          by_cases c1 : x.row = r
          rotate_left
          · have d1 : (x.row == r) = false := beq_eq_false_iff_ne.2 c1
            have hp := Lib.hid (hfs.out.trans (pickW_n (a := a) (fun h => c1 h.1)))
            clear c1 hfs
            go_wp2
            go_roundw
            case rel =>
              refine ⟨q + 1, by omega, by go_num, (Hc2.out.alloc _).congr fun j _ => ?_, Hb2.out.alloc hg2 _⟩
              by_cases e : j = k
              · rw [if_pos e, if_pos e, hp.out, ha.out]
              · rw [if_neg e, if_neg e]
            case measure => simp [intOf]; omega
          · have d1 : (x.row == r) = true := beq_iff_eq.2 c1
            by_cases c2 : x.word = bobW
            · have d2 : (x.word.toList == [98, 111, 98]) = true := by rw [c2, beq_iff_eq, ByteArray.toList_eq]; rfl
              have hp := Lib.hid (hfs.out.trans (pickW_y (a := a) ⟨c1, .inl c2⟩))
              clear c1 c2 hfs
              go_wp2
              go_roundw
              case rel =>
                refine ⟨q + 1, by omega, by go_num, (by first | exact (Hc2.out.set hlt _).alloc _ | exact (Hc2.out.alloc _).set hlt _ : Cells _ _ _ _).congr fun j _ => ?_, by first | exact (Hb2.out.setCell (p := ⟨W.heap.size, k, none⟩) (Nat.le_refl _) _).alloc (by simpa using hg2) _ | exact (Hb2.out.alloc hg2 _).setCell (p := ⟨W.heap.size, k, none⟩) (Nat.le_refl _) _⟩
                by_cases e : j = k
                · subst e; rw [upd_same, if_pos rfl, hp.out]; rfl
                · rw [upd_other _ _ _ _ e, if_neg e, if_neg e]
              case measure => simp [intOf]; omega
            · have d2 : (x.word.toList == [98, 111, 98]) = false := by rw [beq_eq_false_iff_ne]; intro e; exact c2 (toList_inj.1 (e.trans (by rw [ByteArray.toList_eq]; rfl)))
              by_cases c3 : x.word = singleW
              · have d3 : (x.word.toList == [115, 105, 110, 103, 108, 101]) = true := by rw [c3, beq_iff_eq, ByteArray.toList_eq]; rfl
                have hp := Lib.hid (hfs.out.trans (pickW_y (a := a) ⟨c1, .inr c3⟩))
                clear c1 c2 c3 hfs
                go_wp2
                go_roundw
                case rel =>
                  refine ⟨q + 1, by omega, by go_num, (by first | exact (Hc2.out.set hlt _).alloc _ | exact (Hc2.out.alloc _).set hlt _ : Cells _ _ _ _).congr fun j _ => ?_, by first | exact (Hb2.out.setCell (p := ⟨W.heap.size, k, none⟩) (Nat.le_refl _) _).alloc (by simpa using hg2) _ | exact (Hb2.out.alloc hg2 _).setCell (p := ⟨W.heap.size, k, none⟩) (Nat.le_refl _) _⟩
                  by_cases e : j = k
                  · subst e; rw [upd_same, if_pos rfl, hp.out]; rfl
                  · rw [upd_other _ _ _ _ e, if_neg e, if_neg e]
                case measure => simp [intOf]; omega
              · have d3 : (x.word.toList == [115, 105, 110, 103, 108, 101]) = false := by rw [beq_eq_false_iff_ne]; intro e; exact c3 (toList_inj.1 (e.trans (by rw [ByteArray.toList_eq]; rfl)))
                have hp := Lib.hid (hfs.out.trans (pickW_n (a := a) (fun h => h.2.elim c2 c3)))
                clear c1 c2 c3 hfs
                go_wp2
                go_roundw
                case rel =>
                  refine ⟨q + 1, by omega, by go_num, (Hc2.out.alloc _).congr fun j _ => ?_, Hb2.out.alloc hg2 _⟩
                  by_cases e : j = k
                  · rw [if_pos e, if_pos e, hp.out, ha.out]
                  · rw [if_neg e, if_neg e]
                case measure => simp [intOf]; omega
        · obtain rfl : q = l.length := by omega
          rw [List.take_length] at Hc2
          go_wp2
          go_roundw
          case rel =>
            refine ⟨k + 1, by omega, by go_num, Hc2.out.congr fun j _ => ?_, Hb2.out⟩
            by_cases e : j = k
            · subst e; rw [if_pos rfl, if_pos (by omega), hr.out]
            · rw [if_neg e]
              by_cases e2 : j < k
              · rw [if_pos e2, if_pos (by omega)]
              · rw [if_neg e2, if_neg (by omega)]
          case measure => simp [intOf]; omega
    · obtain rfl : k = L := by omega
      have hs := Hc.out.str (P := Tryz.prog) (touchL N first l k) (touchL_len _ _ _ _) (fun i hi => by rw [if_pos hi]; simp [touchL]) 22 5 9 k rfl rfl rfl
      go_wp2
      go_ret
      exact ⟨rfl, hWb.out.trans (Hb0.out.mono hWb.out.size)⟩





theorem repeat_p (L : Nat) : (⟨(Lib.repeatL (⟨#[112]⟩ : ByteArray).data.toList L).toArray⟩ : ByteArray) = mkS (List.replicate L 112) := by
  have : Lib.repeatL (⟨#[112]⟩ : ByteArray).data.toList L = List.replicate L (112 : UInt8) := by
    induction L with
    | zero => rfl
    | succ n ih => rw [List.replicate_succ]; show _ ++ _ = _; rw [ih]; rfl
  rw [this]
  unfold mkS
  rw [List.map_replicate]
  rfl
theorem putWord_len (n first : Int) : ∀ (l : List Spk) (F : List Int), (l.foldl (putWord n first) F).length = F.length
  | [], F => rfl
  | x :: l, F => by rw [List.foldl_cons, putWord_len n first l]; unfold putWord; simp
theorem saidP.ix {m : Mth} {b s t : ByteArray} {l : List Spk} {first : Int} (h : saidP m b s l t first) {x : Spk} (hx : x ∈ (l.drop 1).take (l.length - 3)) : ∃ i : Nat, i < t.size ∧ (x.row - first + 2).tdiv (m.x.length : Int) - 1 = (i : Int) := by
  rw [h.facts.2.2.2.2] at hx
  unfold sayMid at hx
  obtain ⟨i, hi, hx⟩ := List.mem_flatMap.1 hx
  refine ⟨i, List.mem_range.1 hi, ?_⟩
  rw [(sayAt_mem hx).1]
  exact sayRow_ix (by have := h.1.2.1; omega) i
/-- The touch is the one told; it may be none. -/
theorem saidR_end {m : Mth} {b s tt : ByteArray} {l : List Spk} {first : Int} (hT : ∀ t f, saidP m b s l t f → t = tt ∧ f = first) :
    (sayR m b s tt first = (l, true) → saidR m b s l = (tt, first, true)) ∧ (¬ sayR m b s tt first = (l, true) → saidR m b s l = (⟨#[]⟩, 0, false)) := by
  refine ⟨fun h => saidR_t ?_, fun h => saidR_f fun t f hp => ?_⟩
  · by_cases hs : sayP m b s tt first
    · rw [sayR_t hs] at h; exact ⟨hs, (Prod.mk.inj h).1⟩
    · rw [sayR_f hs] at h; cases (Prod.mk.inj h).2
  · obtain ⟨rfl, rfl⟩ := hT t f hp
    exact h (by rw [sayR_t hp.1, hp.2])
def SaidOut (r : ByteArray × Int × Bool) (w : World) (e : Ending) (w' : World) : Prop := e = .returned (.tuple #[.string r.1, .int .i64 r.2.1, .bool r.2.2]) ∧ Below w.heap.size w w'
set_option maxHeartbeats 6400000 in
theorem touchSaid_any (m : Mth) (b s : ByteArray) (l : List Spk) (A' : Option Addr) (c' : Nat) (w : World) (h : MkOk m b s w) (hc : condP m b s) (hsp : spokenLP l) (hh : RdL w w.heap.size A' 2 Spk.enc l) (hcap : l.length ≤ c') :
    Calls Tryz.prog 71 #[.agg #[Value.string m.name, .int .i64 m.stage, .slice m.A m.x.length m.c], .agg #[Value.string b, .string s], .slice A' l.length c'] w fun e w' => SaidOut (saidR m b s l) w e w' := by
  have Hl := Lib.hid hh
  have hg := hc.1.geo
  have hN40 := hg.l40
  have hN2 := hc.2
  have hl63 := hsp.1
  have Hc := Lib.hid hc
  have Hsp := Lib.hid hsp
  clear hh hc hsp hg
  by_cases c1 : l.length < 3
  · have hR : Hid (saidR m b s l = (⟨#[]⟩, 0, false)) := Lib.hid (saidR_f (fun t f hp => by have := hp.facts.2.1; omega))
    have hW : ∃ W : World, Hid ((w.alloc (.cells #[Value.string m.name, .int .i64 m.stage, .slice m.A m.x.length m.c] 45)).alloc (.cells #[Value.string b, .string s] 47) = W) ∧ Hid (Below w.heap.size w W) ∧ w.heap.size + 2 ≤ W.heap.size ∧ Hid (Cells W w.heap.size 3 (fun i => (#[Value.string m.name, .int .i64 m.stage, .slice m.A m.x.length m.c] : Array Value).getD i undef)) ∧ Hid (Cells W (w.heap.size + 1) 2 (fun i => (#[Value.string b, .string s] : Array Value).getD i undef)) := by
      have z1 : w.heap.size + 1 = (w.alloc (.cells #[Value.string m.name, .int .i64 m.stage, .slice m.A m.x.length m.c] 45)).heap.size := by simp
      refine ⟨_, Lib.hid rfl, Lib.hid (((Below.refl _ _).alloc (Nat.le_refl _) _).alloc (by simp) _), by simp, Lib.hid ?_, Lib.hid ?_⟩
      · exact (Cells.newD _ #[Value.string m.name, .int .i64 m.stage, .slice m.A m.x.length m.c] _).alloc _
      · rw [z1]; exact Cells.newD _ #[Value.string b, .string s] _
    obtain ⟨W, hWe, hWb, hWs, hM, hK⟩ := hW
    have H := Lib.hid (h.later hWb.out)
    clear h
    go_enter Tryz.func71, Tryz.ntmps71
    go_wp2_with fail
    rw [hWe.out]
    clear hWe
    go_wp2
    go_ret3
    rw [hR.out]
    exact ⟨rfl, hWb.out⟩
  obtain ⟨K, hK3⟩ : ∃ K, l.length = K + 3 := ⟨l.length - 3, by omega⟩
  have HK := Lib.hid hK3
  have h0l : 0 < l.length := by omega
  have h1l : K + 1 < l.length := by omega
  obtain ⟨gl, ol, hAl, hgl, hcl⟩ := Hl.out.at h0l
  obtain ⟨gl2, ol2, hAl2, _, hcl2⟩ := Hl.out.at h1l
  rw [hAl] at hAl2
  simp only [Option.some.injEq, Addr.mk.injEq, and_true] at hAl2
  obtain ⟨rfl, rfl⟩ := hAl2
  have l0 := hcl 0 _ rfl
  have l2 := hcl2 0 _ rfl
  simp only [Nat.zero_mul, Nat.add_zero] at l0 l2
  have b0 := (Hsp.out.2 0 h0l).1
  have b2 := (Hsp.out.2 (K + 1) h1l).1
  obtain ⟨r0, hr0⟩ : ∃ r, Hid ((l[0]'h0l).row = r) := ⟨_, Lib.hid rfl⟩
  obtain ⟨r2, hr2⟩ : ∃ r, Hid ((l[K + 1]'h1l).row = r) := ⟨_, Lib.hid rfl⟩
  rw [hr0.out] at l0 b0
  rw [hr2.out] at l2 b2
  subst hAl
  obtain ⟨b01, b02⟩ := b0
  obtain ⟨b21, b22⟩ := b2
  rw [hK3]
  rw [hK3] at hcap hl63
  clear hcl hcl2 c1 hK3
  have hW : ∃ W : World, Hid ((w.alloc (.cells #[Value.string m.name, .int .i64 m.stage, .slice m.A m.x.length m.c] 45)).alloc (.cells #[Value.string b, .string s] 47) = W) ∧ Hid (Below w.heap.size w W) ∧ w.heap.size + 2 ≤ W.heap.size ∧ Hid (Cells W w.heap.size 3 (fun i => (#[Value.string m.name, .int .i64 m.stage, .slice m.A m.x.length m.c] : Array Value).getD i undef)) ∧ Hid (Cells W (w.heap.size + 1) 2 (fun i => (#[Value.string b, .string s] : Array Value).getD i undef)) := by
    have z1 : w.heap.size + 1 = (w.alloc (.cells #[Value.string m.name, .int .i64 m.stage, .slice m.A m.x.length m.c] 45)).heap.size := by simp
    refine ⟨_, Lib.hid rfl, Lib.hid (((Below.refl _ _).alloc (Nat.le_refl _) _).alloc (by simp) _), by simp, Lib.hid ?_, Lib.hid ?_⟩
    · exact (Cells.newD _ #[Value.string m.name, .int .i64 m.stage, .slice m.A m.x.length m.c] _).alloc _
    · rw [z1]; exact Cells.newD _ #[Value.string b, .string s] _
  obtain ⟨W, hWe, hWb, hWs, hM, hK⟩ := hW
  have H := Lib.hid (h.later hWb.out)
  clear h
  have u0 : W.cell? ⟨w.heap.size, 0, none⟩ = some (.string m.name) := hM.out.cell (i := 0) (by omega)
  have u1 : W.cell? ⟨w.heap.size, 1, none⟩ = some (.int .i64 m.stage) := hM.out.cell (i := 1) (by omega)
  have u2 : W.cell? ⟨w.heap.size, 2, none⟩ = some (.slice m.A m.x.length m.c) := hM.out.cell (i := 2) (by omega)
  have u3 : W.cell? ⟨w.heap.size + 1, 0, none⟩ = some (.string b) := hK.out.cell (i := 0) (by omega)
  have u4 : W.cell? ⟨w.heap.size + 1, 1, none⟩ = some (.string s) := hK.out.cell (i := 1) (by omega)
  obtain ⟨N, hN⟩ : ∃ N, Hid (m.x.length = N) := ⟨_, Lib.hid rfl⟩
  rw [hN.out] at hN40 hN2 u2
  have L0 := (hWb.out.cell (p := ⟨gl, ol, none⟩) hgl).trans l0
  have L2 := (hWb.out.cell (p := ⟨gl, ol + (K + 1) * 2, none⟩) hgl).trans l2
  clear l0 l2
  have hNi : (2 : Int) ≤ (N : Int) := by omega
  obtain ⟨L, hL⟩ : ∃ L, Hid ((r2 - (r0 + 1)).tdiv (N : Int) = L) := ⟨_, Lib.hid rfl⟩
  have hLb : -3002 ≤ L ∧ L ≤ 3002 := by
    have := Int.natAbs_tdiv_le_natAbs (r2 - (r0 + 1)) (N : Int)
    rw [hL.out] at this
    omega
  obtain ⟨hLb1, hLb2⟩ := hLb
  have hS : Hid (∀ t f, saidP m b s l t f → f = r0 + 1 ∧ (t.size : Int) = L ∧ 1 ≤ t.size ∧ t.size ≤ 60) := Lib.hid (fun t f hp => by
    have hf := hp.facts
    have e1 := hf.2.2.1 h0l
    rw [hr0.out] at e1
    have hlen := HK.out
    have e2 := hf.2.2.2.1 (by omega)
    have e3 : (l[l.length - 2]'(by omega)).row = r2 := by rw [← hr2.out]; congr 2; omega
    rw [e3, hN.out, show f = r0 + 1 by omega, hL.out] at e2
    have ht := hp.1.2.2.1
    exact ⟨by omega, e2.symm, by have := ht.2.1; omega, ht.2.2⟩)
  have hLe := hL.out
  have hLw : IntKind.i64.wrap L = L := IntWalk.i64_in _ (by omega)
  by_cases c2 : L < 1 ∨ 60 < L
  · have hR : Hid (saidR m b s l = (⟨#[]⟩, 0, false)) := Lib.hid (saidR_f (fun t f hp => by have := hS.out t f hp; omega))
    have d1 : decide (L < 1) = true ∨ (decide (L < 1) = false ∧ decide (60 < L) = true) := by simp; omega
    rcases d1 with d1 | ⟨d1, d2⟩
    all_goals
      clear c2
      go_enter Tryz.func71, Tryz.ntmps71
      go_wp2_with fail
      rw [hWe.out]
      clear hWe
      go_wp2
      go_quiet (fail)
      go_wp2
      go_ret3
      rw [hR.out]
      exact ⟨rfl, below_drewN hWb.out _⟩
  have d1 : decide (L < 1) = false := by simp; omega
  have d2 : decide (60 < L) = false := by simp; omega
  obtain ⟨Ln, hLn⟩ : ∃ Ln : Nat, L = (Ln : Int) := ⟨L.toNat, by omega⟩
  subst hLn
  have hLn1 : 1 ≤ Ln := by omega
  have hLn60 : Ln ≤ 60 := by omega
  clear c2 hLb1 hLb2
  have hrep : Hid (∀ w1 : World, Calls Tryz.prog 110 #[.string ⟨#[112]⟩, .int .i64 (Ln : Int)] w1 fun e w' => e = .returned (.string (mkS (List.replicate Ln 112))) ∧ Below w1.heap.size w1 w') := Lib.hid (fun w1 => by
    have := Tryz.strings_Repeat ⟨#[112]⟩ Ln w1 (by omega) (by show 1 * Ln ≤ _; omega)
    rw [repeat_p] at this
    exact this)
  obtain ⟨T0, hT0⟩ : ∃ T0, Hid (mkS (List.replicate Ln 112) = T0) := ⟨_, Lib.hid rfl⟩
  have hT0s : Hid (T0.size = Ln) := Lib.hid (by rw [← hT0.out, size_mkS]; simp)
  have hT0b : Hid (∀ p : Nat, p < Ln → bat T0 p = 112) := Lib.hid (fun p hp => by rw [← hT0.out, bat_mkS _ p (by simpa using hp) (by simp) (by simp)]; simp)
  rw [hT0.out] at hrep
  obtain ⟨mid, hmid⟩ : ∃ mid, Hid ((l.drop 1).take (l.length - 3) = mid) := ⟨_, Lib.hid rfl⟩
  have hmidl : Hid (mid.length = K) := Lib.hid (by rw [← hmid.out]; simp; have := HK.out; omega)
  have hmide : Hid (∀ (k : Nat) (hk : k < K) (h1 : k < mid.length) (h2 : k + 1 < l.length), mid[k] = l[k + 1]) := Lib.hid (fun k hk h1 h2 => by have e := hmid.out; subst e; simp [Nat.add_comm])
  have hFlen : Hid (∀ k, ((mid.take k).foldl (putWord N (r0 + 1)) (List.replicate Ln 112)).length = Ln) := Lib.hid (fun k => by rw [putWord_len]; simp)
  go_enter Tryz.func71, Tryz.ntmps71
  go_wp2_with fail
  rw [hWe.out]
  clear hWe
  go_wp2
  go_quiet (fail)
  go_wp2_with (first | (go_at_call 110; refine (hrep.out _).mono ?_; rintro e w1 ⟨rfl, hb1⟩) | (refine wpList_bytes rfl _ 9 22 5 rfl rfl rfl rfl T0 rfl ?_; intro c w2 hc2 hb2; rw [hT0s.out] at hc2 ⊢))
  have Hb1 := Lib.hid hb1
  have Hb2 := Lib.hid hb2
  have Hc2 := Lib.hid (hc2.congr (f' := fun p => .int .u8 (((mid.take 0).foldl (putWord N (r0 + 1)) (List.replicate Ln 112)).getD p 0)) (fun p hp => by rw [hT0b.out p hp]; simp [hp]))
  have hz1 := hb1.size
  have hz2 := hb2.size
  have hz3 : W.heap.size ≤ w1.heap.size := hz1
  clear hb1 hb2 hc2
  rw [show K + 3 - 2 - 1 = K by omega]
  go_loopw [55] (fun j wr => ∃ k : Nat, k ≤ K ∧ j = .int .i64 k ∧ Cells wr w1.heap.size Ln (fun p => .int .u8 (((mid.take k).foldl (putWord N (r0 + 1)) (List.replicate Ln 112)).getD p 0)) ∧ Below w1.heap.size w1 wr) (fun j _ => K - (intOf j).toNat)
  case atStart => exact ⟨0, by omega, by rfl, Hc2.out, Hb2.out⟩
  case round =>
    obtain ⟨k, hk, rfl, hc, hbl⟩ := hrel
    have Hc' := Lib.hid hc
    have Hb0 := Lib.hid hbl
    have hg0 := hbl.size
    have hlt1 := hc.lt
    clear hc hbl Hc2 Hb2
    have Bx : Hid (Below w.heap.size w wr) := Lib.hid (((below_drewN hWb.out nq).trans (Hb1.out.mono hWb.out.size)).trans (Hb0.out.mono (Nat.le_trans hWb.out.size hz1)))
    by_cases hkK : k < K
    · have hkm : k < mid.length := by have := hmidl.out; omega
      have hkl : k + 1 < l.length := by have := HK.out; omega
      have hmk := hmide.out k hkK hkm hkl
      obtain ⟨gl3, ol3, hAl3, _, hcl3⟩ := Hl.out.at hkl
      simp only [Option.some.injEq, Addr.mk.injEq, and_true] at hAl3
      obtain ⟨rfl, rfl⟩ := hAl3
      have x0 := (Bx.out.cell (p := ⟨gl, ol + (k + 1) * 2, none⟩) hgl).trans (hcl3 0 _ rfl)
      have x1 := (Bx.out.cell (p := ⟨gl, ol + (k + 1) * 2 + 1, none⟩) hgl).trans (hcl3 1 _ rfl)
      rw [show ol + (k + 1) * 2 = ol + 2 + k * 2 by omega] at x0 x1
      have hfs := Lib.hid (foldl_take_succ (putWord N (r0 + 1)) (List.replicate Ln 112) mid k hkm)
      have hxs := Hsp.out.2 (k + 1) hkl
      have hws : 0 < l[k + 1].word.size := spokenP_size hxs.2.1
      have hxr := hxs.1
      have hmm : mid[k] ∈ mid := List.getElem_mem hkm
      obtain ⟨x, hx⟩ : ∃ x, Hid (l[k + 1] = x) := ⟨_, Lib.hid rfl⟩
      rw [hx.out] at x0 x1 hws hxr hmk
      rw [hmk] at hfs hmm
      obtain ⟨hx1, hx2⟩ := hxr
      clear hcl3 hxs hmk
      obtain ⟨J, hJ⟩ : ∃ J, Hid ((x.row - (r0 + 1) + 2).tdiv (N : Int) = J) := ⟨_, Lib.hid rfl⟩
      have hJb : -3004 ≤ J ∧ J ≤ 3004 := by
        have := Int.natAbs_tdiv_le_natAbs (x.row - (r0 + 1) + 2) (N : Int)
        rw [hJ.out] at this
        omega
      obtain ⟨hJb1, hJb2⟩ := hJb
      have hJe := hJ.out
      have hJw : IntKind.i64.wrap J = J := IntWalk.i64_in _ (by omega)
      have hIx : Hid (∀ t f, saidP m b s l t f → ∃ i : Nat, i < Ln ∧ J - 1 = (i : Int)) := Lib.hid (fun t f hp => by
        obtain ⟨i, hi, e⟩ := hp.ix (x := x) (by rw [hmid.out]; exact hmm)
        have := hS.out t f hp
        rw [this.1, hN.out, hJ.out] at e
        exact ⟨i, by omega, e⟩)
      by_cases c3 : J - 1 < 0 ∨ (Ln : Int) ≤ J - 1
      · have hR : Hid (saidR m b s l = (⟨#[]⟩, 0, false)) := Lib.hid (saidR_f (fun t f hp => by obtain ⟨i, hi, e⟩ := hIx.out t f hp; omega))
        have d3 : decide (J - 1 < 0) = true ∨ (decide (J - 1 < 0) = false ∧ decide ((Ln : Int) ≤ J - 1) = true) := by simp; omega
        clear hfs hmm hIx
        rcases d3 with d3 | ⟨d3, d4⟩
        all_goals
          clear c3
          go_wp2
          go_ret3
          rw [hR.out]
          exact ⟨rfl, Bx.out.alloc (Nat.le_trans Bx.out.size (Nat.le_refl _)) _⟩
      · have d3 : decide (J - 1 < 0) = false := by simp; omega
        have d4 : decide ((Ln : Int) ≤ J - 1) = false := by simp; omega
        obtain ⟨p, hp⟩ : ∃ p : Nat, J = (p : Int) + 1 := ⟨(J - 1).toNat, by omega⟩
        subst hp
        have hpL : p < Ln := by omega
        have hpi : (p : Int) < (Ln : Int) := by omega
        have hcell := Hc'.out.cell hpL
        have hfree := Hc'.out.free hpL
        obtain ⟨F, hF⟩ : ∃ F, Hid ((mid.take k).foldl (putWord N (r0 + 1)) (List.replicate Ln 112) = F) := ⟨_, Lib.hid rfl⟩
        rw [hF.out] at hfs hcell
        have hpp : (p : Int) + 1 - 1 = (p : Int) := by omega
        clear c3 hIx hmm
        have hFl := hFlen.out k
        rw [hF.out] at hFl
        go_wp2
        go_roundw
        case rel =>
          refine ⟨k + 1, by omega, by go_num, (by first | exact (Hc'.out.set hpL _).alloc _ | exact (Hc'.out.alloc _).set hpL _ : Cells _ _ _ _).congr fun q hq => ?_, by first | exact (Hb0.out.setCell (p := ⟨w1.heap.size, p, none⟩) (Nat.le_refl _) _).alloc (by simpa using hg0) _ | exact (Hb0.out.alloc hg0 _).setCell (p := ⟨w1.heap.size, p, none⟩) (Nat.le_refl _) _⟩
          rw [hfs.out, hF.out]
          unfold putWord
          rw [hJ.out, show ((p : Int) + 1 - 1).toNat = p by omega]
          by_cases e : q = p
          · subst e; rw [upd_same, List.getD_eq_getElem?_getD, List.getElem?_set_self (by omega)]; rfl
          · rw [upd_other _ _ _ _ e]; simp only [List.getD_eq_getElem?_getD]; rw [List.getElem?_set_ne (fun h => e h.symm)]
        case measure => simp [intOf]; omega
    · obtain rfl : k = K := by omega
      obtain ⟨F, hF⟩ : ∃ F, Hid (mid.foldl (putWord N (r0 + 1)) (List.replicate Ln 112) = F) := ⟨_, Lib.hid rfl⟩
      have hFl : Hid (F.length = Ln) := Lib.hid (by
        have := hFlen.out mid.length
        rw [List.take_length, hF.out] at this
        exact this)
      have Hc'' : Hid (Cells wr w1.heap.size Ln (fun p => .int .u8 (F.getD p 0))) := Lib.hid (Hc'.out.congr fun p hp => by rw [← hmidl.out, List.take_length, hF.out])
      have hstr : Hid (∀ w3 : World, Below wr.heap.size wr w3 → (convert 22 9 (.slice (some ⟨w1.heap.size, 0, none⟩) Ln c)).run Tryz.prog w3 = .ok (.string (mkS F)) w3) := Lib.hid (fun w3 hb3 => (Hc''.out.later hb3).str (P := Tryz.prog) F hFl.out (fun i hi => by have := hFl.out; rw [List.getD_eq_getElem?_getD, List.getElem?_eq_getElem (by omega)]; rfl) 22 5 9 c rfl rfl rfl)
      have hT : Hid (∀ t f, saidP m b s l t f → t = mkS F ∧ f = r0 + 1) := Lib.hid (fun t f hp => by
        have h1 := hS.out t f hp
        refine ⟨?_, h1.1⟩
        have := hp.prog
        rw [hmid.out, h1.1, hN.out, show t.size = Ln by omega, hF.out] at this
        exact this.symm)
      have hts : Hid ((mkS F).size ≤ 1048576) := Lib.hid (by rw [size_mkS, hFl.out]; omega)
      obtain ⟨tt, htt⟩ : ∃ tt, Hid (mkS F = tt) := ⟨_, Lib.hid rfl⟩
      rw [htt.out] at hstr hT hts
      have hE := Lib.hid (saidR_end hT.out)
      have hsl := sayR_len (m := m) (b := b) (s := s) (t := tt) (first := r0 + 1)
      obtain ⟨R, hR0⟩ : ∃ R, Hid (sayR m b s tt (r0 + 1) = R) := ⟨_, Lib.hid rfl⟩
      obtain ⟨a, ok⟩ := R
      rw [hR0.out] at hE hsl
      simp only at hsl
      have BW : Hid (Below W.heap.size W wr) := Lib.hid (((below_drewN (Below.refl W.heap.size W) nq).trans Hb1.out).trans (Hb0.out.mono hz3))
      have hws2 := BW.out.size
      have q0 := (BW.out.cell (p := ⟨w.heap.size, 0, none⟩) (show w.heap.size < W.heap.size by omega)).trans u0
      have q1 := (BW.out.cell (p := ⟨w.heap.size, 1, none⟩) (show w.heap.size < W.heap.size by omega)).trans u1
      have q2 := (BW.out.cell (p := ⟨w.heap.size, 2, none⟩) (show w.heap.size < W.heap.size by omega)).trans u2
      have q3 := (BW.out.cell (p := ⟨w.heap.size + 1, 0, none⟩) (show w.heap.size + 1 < W.heap.size by omega)).trans u3
      have q4 := (BW.out.cell (p := ⟨w.heap.size + 1, 1, none⟩) (show w.heap.size + 1 < W.heap.size by omega)).trans u4
      have hs1 := hstr.out wr (Below.refl _ _)
      have hcall : Hid (Calls Tryz.prog 63 #[.agg #[.string m.name, .int .i64 m.stage, .slice m.A N m.c], .agg #[Value.string b, .string s], .string tt, .int .i64 (r0 + 1)] wr fun e w' => SayOut (a, ok) wr e w') := Lib.hid (by
        have := spokenFor_any m b s tt (r0 + 1) wr (H.out.later BW.out) Hc.out hts.out
        rw [hR0.out, hN.out] at this
        exact this)
      have heq : Hid (∀ (A1 : Option Addr) (c1 : Nat) (w3 : World), Below wr.heap.size wr w3 → RdL w3 w3.heap.size A1 2 Spk.enc a → Calls Tryz.prog 111 #[.slice A1 a.length c1, .slice (some ⟨gl, ol, none⟩) (k + 3) c'] w3 fun e w' => e = .returned (.bool (B (a = l))) ∧ Below w3.heap.size w3 w') := Lib.hid (fun A1 c1 w3 hb3 ha => by
        have := eqSpkL_any a l A1 (some ⟨gl, ol, none⟩) c1 c' w3 ha ((Hl.out.below (Bx.out.trans (hb3.mono Bx.out.size)) (Nat.le_refl _)).more (Nat.le_trans Bx.out.size hb3.size)) (by omega) (by have := HK.out; omega)
        rw [HK.out] at this
        exact this)
      clear u0 u1 u2 u3 u4 hrep hS hLe hLw L0 L2
      by_cases c5 : ok = true
      rotate_left
      · have hok : ok = false := by cases ok <;> simp_all
        subst hok
        have hRR := Lib.hid (hE.out.2 (by simp))
        clear c5
        go_wp2_with (go_at_call 63; refine hcall.out.mono ?_; rintro e w3 ⟨A1, c1, rfl, ho1, hb3⟩)
        go_ret3
        rw [hRR.out]
        exact ⟨rfl, Bx.out.trans (hb3.mono Bx.out.size)⟩
      subst c5
      by_cases c6 : a = l
      · have e6 := B_t c6
        have hRR := Lib.hid (hE.out.1 (by rw [c6]))
        clear c6
        go_wp2_with (first | (go_at_call 63; refine hcall.out.mono ?_; rintro e w3 ⟨A1, c1, rfl, ho1, hb3⟩; have Hb3 := Lib.hid hb3; have Ho1 := Lib.hid ho1; clear ho1 hb3) | (go_at_call 111; refine (heq.out _ _ _ Hb3.out (Ho1.out.rd Spk_enc_len)).mono ?_; rintro e w4 ⟨rfl, hb4⟩; have Hb4 := Lib.hid hb4; have hs2 := hstr.out w4 (Hb3.out.trans (hb4.mono Hb3.out.size)); clear hb4))
        go_ret3
        rw [hRR.out]
        exact ⟨rfl, Bx.out.trans ((Hb3.out.trans (Hb4.out.mono Hb3.out.size)).mono Bx.out.size)⟩
      · have e6 := B_f c6
        have hRR := Lib.hid (hE.out.2 (fun e => c6 (Prod.mk.inj e).1))
        clear c6
        go_wp2_with (first | (go_at_call 63; refine hcall.out.mono ?_; rintro e w3 ⟨A1, c1, rfl, ho1, hb3⟩; have Hb3 := Lib.hid hb3; have Ho1 := Lib.hid ho1; clear ho1 hb3) | (go_at_call 111; refine (heq.out _ _ _ Hb3.out (Ho1.out.rd Spk_enc_len)).mono ?_; rintro e w4 ⟨rfl, hb4⟩; have Hb4 := Lib.hid hb4; clear hb4))
        go_ret3
        rw [hRR.out]
        exact ⟨rfl, Bx.out.trans ((Hb3.out.trans (Hb4.out.mono Hb3.out.size)).mono Bx.out.size)⟩

theorem saidP.asked {m : Mth} {b s t : ByteArray} {l : List Spk} {first : Int} (h : saidP m b s l t first) : condP m b s ∧ spokenLP l ∧ 3 ≤ l.length := ⟨⟨h.1.1, h.1.2.1⟩, h.facts.1, h.facts.2.1⟩
theorem saidP.ref {m : Mth} {b s t : ByteArray} {l : List Spk} {first : Int} (h : saidP m b s l t first) : mkS (touchL m.x.length first l t.size) = t := by
  refine mkS_ext (touchL_len _ _ _ _) fun i hi => ?_
  have hi' : i < t.size := by rw [touchL_len] at hi; exact hi
  have e : (touchL m.x.length first l t.size)[i] = l.foldl (pickW (sayRow m.x.length first i)) 112 := by simp [touchL]
  rw [e, ← h.2]
  exact pick_all (by have := h.1.2.1; omega) h.1.2.2.1 hi'




set_option maxHeartbeats 1600000 in
theorem iTouchSaid_any (m : Mth) (b s : ByteArray) (l : List Spk) (A' : Option Addr) (c' : Nat) (w : World) (h : MkOk m b s w) (hh : RdL w w.heap.size A' 2 Spk.enc l) (hl : l.length ≤ 1048576) (hcap : l.length ≤ c') :
    Calls Tryz.prog 20 #[.agg #[Value.string m.name, .int .i64 m.stage, .slice m.A m.x.length m.c], .agg #[Value.string b, .string s], .slice A' l.length c'] w fun e w' => SaidOut (saidR m b s l) w e w' := by
  by_cases c1 : condP m b s
  rotate_left
  · have e1 := B_f c1
    have hR : Hid (saidR m b s l = (⟨#[]⟩, 0, false)) := Lib.hid (saidR_f (fun t f hp => c1 hp.asked.1))
    clear c1
    have hW : ∃ W : World, Hid ((w.alloc (.cells #[Value.string m.name, .int .i64 m.stage, .slice m.A m.x.length m.c] 45)).alloc (.cells #[Value.string b, .string s] 47) = W) ∧ Hid (Below w.heap.size w W) ∧ w.heap.size + 2 ≤ W.heap.size ∧ Hid (Cells W w.heap.size 3 (fun i => (#[Value.string m.name, .int .i64 m.stage, .slice m.A m.x.length m.c] : Array Value).getD i undef)) ∧ Hid (Cells W (w.heap.size + 1) 2 (fun i => (#[Value.string b, .string s] : Array Value).getD i undef)) := by
      have z1 : w.heap.size + 1 = (w.alloc (.cells #[Value.string m.name, .int .i64 m.stage, .slice m.A m.x.length m.c] 45)).heap.size := by simp
      refine ⟨_, Lib.hid rfl, Lib.hid (((Below.refl _ _).alloc (Nat.le_refl _) _).alloc (by simp) _), by simp, Lib.hid ?_, Lib.hid ?_⟩
      · exact (Cells.newD _ #[Value.string m.name, .int .i64 m.stage, .slice m.A m.x.length m.c] _).alloc _
      · rw [z1]; exact Cells.newD _ #[Value.string b, .string s] _
    obtain ⟨W, hWe, hWb, hWs, hM, hK⟩ := hW
    have H := Lib.hid (h.later hWb.out)
    have Hl := Lib.hid ((hh.below hWb.out (Nat.le_refl _)).more hWb.out.size)
    clear h hh
    have u0 : W.cell? ⟨w.heap.size, 0, none⟩ = some (.string m.name) := hM.out.cell (i := 0) (by omega); have u1 : W.cell? ⟨w.heap.size, 1, none⟩ = some (.int .i64 m.stage) := hM.out.cell (i := 1) (by omega); have u2 : W.cell? ⟨w.heap.size, 2, none⟩ = some (.slice m.A m.x.length m.c) := hM.out.cell (i := 2) (by omega); have u3 : W.cell? ⟨w.heap.size + 1, 0, none⟩ = some (.string b) := hK.out.cell (i := 0) (by omega); have u4 : W.cell? ⟨w.heap.size + 1, 1, none⟩ = some (.string s) := hK.out.cell (i := 1) (by omega)
    go_enter Tryz.func20, Tryz.ntmps20
    go_wp2_with fail
    rw [hWe.out]
    clear hWe
    go_wp2_with (go_at_call 62; refine (goodConductor_any m b s _ H.out).mono ?_; rintro e w1 ⟨rfl, hb1⟩; have Hb1 := Lib.hid hb1; clear hb1)
    go_ret3
    rw [hR.out]
    exact ⟨rfl, hWb.out.trans (Hb1.out.mono hWb.out.size)⟩
  have e1 := B_t c1
  have C1 := Lib.hid c1
  clear c1
  by_cases c2 : spokenLP l
  rotate_left
  · have e2 := B_f c2
    have hR : Hid (saidR m b s l = (⟨#[]⟩, 0, false)) := Lib.hid (saidR_f (fun t f hp => c2 hp.asked.2.1))
    clear c2
    have hW : ∃ W : World, Hid ((w.alloc (.cells #[Value.string m.name, .int .i64 m.stage, .slice m.A m.x.length m.c] 45)).alloc (.cells #[Value.string b, .string s] 47) = W) ∧ Hid (Below w.heap.size w W) ∧ w.heap.size + 2 ≤ W.heap.size ∧ Hid (Cells W w.heap.size 3 (fun i => (#[Value.string m.name, .int .i64 m.stage, .slice m.A m.x.length m.c] : Array Value).getD i undef)) ∧ Hid (Cells W (w.heap.size + 1) 2 (fun i => (#[Value.string b, .string s] : Array Value).getD i undef)) := by
      have z1 : w.heap.size + 1 = (w.alloc (.cells #[Value.string m.name, .int .i64 m.stage, .slice m.A m.x.length m.c] 45)).heap.size := by simp
      refine ⟨_, Lib.hid rfl, Lib.hid (((Below.refl _ _).alloc (Nat.le_refl _) _).alloc (by simp) _), by simp, Lib.hid ?_, Lib.hid ?_⟩
      · exact (Cells.newD _ #[Value.string m.name, .int .i64 m.stage, .slice m.A m.x.length m.c] _).alloc _
      · rw [z1]; exact Cells.newD _ #[Value.string b, .string s] _
    obtain ⟨W, hWe, hWb, hWs, hM, hK⟩ := hW
    have H := Lib.hid (h.later hWb.out)
    have Hl := Lib.hid ((hh.below hWb.out (Nat.le_refl _)).more hWb.out.size)
    clear h hh
    have u0 : W.cell? ⟨w.heap.size, 0, none⟩ = some (.string m.name) := hM.out.cell (i := 0) (by omega); have u1 : W.cell? ⟨w.heap.size, 1, none⟩ = some (.int .i64 m.stage) := hM.out.cell (i := 1) (by omega); have u2 : W.cell? ⟨w.heap.size, 2, none⟩ = some (.slice m.A m.x.length m.c) := hM.out.cell (i := 2) (by omega); have u3 : W.cell? ⟨w.heap.size + 1, 0, none⟩ = some (.string b) := hK.out.cell (i := 0) (by omega); have u4 : W.cell? ⟨w.heap.size + 1, 1, none⟩ = some (.string s) := hK.out.cell (i := 1) (by omega)
    go_enter Tryz.func20, Tryz.ntmps20
    go_wp2_with fail
    rw [hWe.out]
    clear hWe
    go_wp2_with (first | (go_at_call 62; refine (goodConductor_any m b s _ H.out).mono ?_; rintro e w1 ⟨rfl, hb1⟩; have Hb1 := Lib.hid hb1; clear hb1) | (go_at_call 26; refine (goodSpoken_any l A' c' _ ((Hl.out.below Hb1.out (Nat.le_refl _)).more Hb1.out.size) hl).mono ?_; rintro e w2 ⟨rfl, hb2⟩; have Hb2 := Lib.hid (Hb1.out.trans (hb2.mono Hb1.out.size)); clear hb2))
    go_ret3
    rw [hR.out]
    exact ⟨rfl, hWb.out.trans (Hb2.out.mono hWb.out.size)⟩
  have e2 := B_t c2
  have C2 := Lib.hid c2
  clear c2
  have hW : ∃ W : World, Hid ((w.alloc (.cells #[Value.string m.name, .int .i64 m.stage, .slice m.A m.x.length m.c] 45)).alloc (.cells #[Value.string b, .string s] 47) = W) ∧ Hid (Below w.heap.size w W) ∧ w.heap.size + 2 ≤ W.heap.size ∧ Hid (Cells W w.heap.size 3 (fun i => (#[Value.string m.name, .int .i64 m.stage, .slice m.A m.x.length m.c] : Array Value).getD i undef)) ∧ Hid (Cells W (w.heap.size + 1) 2 (fun i => (#[Value.string b, .string s] : Array Value).getD i undef)) := by
    have z1 : w.heap.size + 1 = (w.alloc (.cells #[Value.string m.name, .int .i64 m.stage, .slice m.A m.x.length m.c] 45)).heap.size := by simp
    refine ⟨_, Lib.hid rfl, Lib.hid (((Below.refl _ _).alloc (Nat.le_refl _) _).alloc (by simp) _), by simp, Lib.hid ?_, Lib.hid ?_⟩
    · exact (Cells.newD _ #[Value.string m.name, .int .i64 m.stage, .slice m.A m.x.length m.c] _).alloc _
    · rw [z1]; exact Cells.newD _ #[Value.string b, .string s] _
  obtain ⟨W, hWe, hWb, hWs, hM, hK⟩ := hW
  have H := Lib.hid (h.later hWb.out)
  have Hl := Lib.hid ((hh.below hWb.out (Nat.le_refl _)).more hWb.out.size)
  clear h hh
  have u0 : W.cell? ⟨w.heap.size, 0, none⟩ = some (.string m.name) := hM.out.cell (i := 0) (by omega); have u1 : W.cell? ⟨w.heap.size, 1, none⟩ = some (.int .i64 m.stage) := hM.out.cell (i := 1) (by omega); have u2 : W.cell? ⟨w.heap.size, 2, none⟩ = some (.slice m.A m.x.length m.c) := hM.out.cell (i := 2) (by omega); have u3 : W.cell? ⟨w.heap.size + 1, 0, none⟩ = some (.string b) := hK.out.cell (i := 0) (by omega); have u4 : W.cell? ⟨w.heap.size + 1, 1, none⟩ = some (.string s) := hK.out.cell (i := 1) (by omega)
  obtain ⟨R, hR⟩ : ∃ R, Hid (saidR m b s l = R) := ⟨_, Lib.hid rfl⟩
  go_enter Tryz.func20, Tryz.ntmps20
  go_wp2_with fail
  rw [hWe.out]
  clear hWe
  go_wp2_with (first | (go_at_call 62; refine (goodConductor_any m b s _ H.out).mono ?_; rintro e w1 ⟨rfl, hb1⟩; have Hb1 := Lib.hid hb1; clear hb1) | (go_at_call 26; refine (goodSpoken_any l A' c' _ ((Hl.out.below Hb1.out (Nat.le_refl _)).more Hb1.out.size) hl).mono ?_; rintro e w2 ⟨rfl, hb2⟩; have Hb2 := Lib.hid (Hb1.out.trans (hb2.mono Hb1.out.size)); clear hb2 u0 u1 u2 u3 u4; have u0 : w2.cell? ⟨w.heap.size, 0, none⟩ = some (.string m.name) := (hM.out.later Hb2.out).cell (i := 0) (by omega); have u1 : w2.cell? ⟨w.heap.size, 1, none⟩ = some (.int .i64 m.stage) := (hM.out.later Hb2.out).cell (i := 1) (by omega); have u2 : w2.cell? ⟨w.heap.size, 2, none⟩ = some (.slice m.A m.x.length m.c) := (hM.out.later Hb2.out).cell (i := 2) (by omega); have u3 : w2.cell? ⟨w.heap.size + 1, 0, none⟩ = some (.string b) := (hK.out.later Hb2.out).cell (i := 0) (by omega); have u4 : w2.cell? ⟨w.heap.size + 1, 1, none⟩ = some (.string s) := (hK.out.later Hb2.out).cell (i := 1) (by omega)) | (go_at_call 71; refine (touchSaid_any m b s l A' c' _ (H.out.later Hb2.out) C1.out C2.out ((Hl.out.below Hb2.out (Nat.le_refl _)).more Hb2.out.size) hcap).mono ?_; rw [hR.out]; rintro e w3 ⟨rfl, hb3⟩; have Hb3 := Lib.hid (Hb2.out.trans (hb3.mono Hb2.out.size)); clear hb3))
  go_ret3
  rw [hR.out]
  exact ⟨rfl, hWb.out.trans (Hb3.out.mono hWb.out.size)⟩


set_option maxHeartbeats 6400000 in
theorem sTouchSaid_any (m : Mth) (b s : ByteArray) (l : List Spk) (A' : Option Addr) (c' : Nat) (w : World) (h : MkOk m b s w) (hh : RdL w w.heap.size A' 2 Spk.enc l) (hl : l.length ≤ 1048576) :
    Calls Tryz.prog 21 #[.agg #[Value.string m.name, .int .i64 m.stage, .slice m.A m.x.length m.c], .agg #[Value.string b, .string s], .slice A' l.length c'] w fun e w' => SaidOut (saidR m b s l) w e w' := by
  by_cases c1 : condP m b s
  rotate_left
  · have e1 := B_f c1
    have hR : Hid (saidR m b s l = (⟨#[]⟩, 0, false)) := Lib.hid (saidR_f (fun t f hp => c1 hp.asked.1))
    clear c1
    have hW : ∃ W : World, Hid ((w.alloc (.cells #[Value.string m.name, .int .i64 m.stage, .slice m.A m.x.length m.c] 45)).alloc (.cells #[Value.string b, .string s] 47) = W) ∧ Hid (Below w.heap.size w W) ∧ w.heap.size + 2 ≤ W.heap.size ∧ Hid (Cells W w.heap.size 3 (fun i => (#[Value.string m.name, .int .i64 m.stage, .slice m.A m.x.length m.c] : Array Value).getD i undef)) ∧ Hid (Cells W (w.heap.size + 1) 2 (fun i => (#[Value.string b, .string s] : Array Value).getD i undef)) := by
      have z1 : w.heap.size + 1 = (w.alloc (.cells #[Value.string m.name, .int .i64 m.stage, .slice m.A m.x.length m.c] 45)).heap.size := by simp
      refine ⟨_, Lib.hid rfl, Lib.hid (((Below.refl _ _).alloc (Nat.le_refl _) _).alloc (by simp) _), by simp, Lib.hid ?_, Lib.hid ?_⟩
      · exact (Cells.newD _ #[Value.string m.name, .int .i64 m.stage, .slice m.A m.x.length m.c] _).alloc _
      · rw [z1]; exact Cells.newD _ #[Value.string b, .string s] _
    obtain ⟨W, hWe, hWb, hWs, hM, hK⟩ := hW
    have H := Lib.hid (h.later hWb.out)
    have Hl := Lib.hid ((hh.below hWb.out (Nat.le_refl _)).more hWb.out.size)
    clear h hh
    have u0 : W.cell? ⟨w.heap.size, 0, none⟩ = some (.string m.name) := hM.out.cell (i := 0) (by omega); have u1 : W.cell? ⟨w.heap.size, 1, none⟩ = some (.int .i64 m.stage) := hM.out.cell (i := 1) (by omega); have u2 : W.cell? ⟨w.heap.size, 2, none⟩ = some (.slice m.A m.x.length m.c) := hM.out.cell (i := 2) (by omega); have u3 : W.cell? ⟨w.heap.size + 1, 0, none⟩ = some (.string b) := hK.out.cell (i := 0) (by omega); have u4 : W.cell? ⟨w.heap.size + 1, 1, none⟩ = some (.string s) := hK.out.cell (i := 1) (by omega)
    go_enter Tryz.func21, Tryz.ntmps21
    go_wp2_with fail
    rw [hWe.out]
    clear hWe
    go_wp2_with (go_at_call 64; refine (l26Asked_any m b s _ H.out).mono ?_; rintro e w1 ⟨rfl, hb1⟩; have Hb1 := Lib.hid hb1; clear hb1)
    go_ret3
    rw [hR.out]
    exact ⟨rfl, hWb.out.trans (Hb1.out.mono hWb.out.size)⟩
  have e1 := B_t c1
  have hg := c1.1.geo
  have hN40 := hg.l40
  have hN2 := c1.2
  have C1 := Lib.hid c1
  clear c1 hg
  by_cases c2 : spokenLP l
  rotate_left
  · have e2 := B_f c2
    have hR : Hid (saidR m b s l = (⟨#[]⟩, 0, false)) := Lib.hid (saidR_f (fun t f hp => c2 hp.asked.2.1))
    clear c2
    have hW : ∃ W : World, Hid ((w.alloc (.cells #[Value.string m.name, .int .i64 m.stage, .slice m.A m.x.length m.c] 45)).alloc (.cells #[Value.string b, .string s] 47) = W) ∧ Hid (Below w.heap.size w W) ∧ w.heap.size + 2 ≤ W.heap.size ∧ Hid (Cells W w.heap.size 3 (fun i => (#[Value.string m.name, .int .i64 m.stage, .slice m.A m.x.length m.c] : Array Value).getD i undef)) ∧ Hid (Cells W (w.heap.size + 1) 2 (fun i => (#[Value.string b, .string s] : Array Value).getD i undef)) := by
      have z1 : w.heap.size + 1 = (w.alloc (.cells #[Value.string m.name, .int .i64 m.stage, .slice m.A m.x.length m.c] 45)).heap.size := by simp
      refine ⟨_, Lib.hid rfl, Lib.hid (((Below.refl _ _).alloc (Nat.le_refl _) _).alloc (by simp) _), by simp, Lib.hid ?_, Lib.hid ?_⟩
      · exact (Cells.newD _ #[Value.string m.name, .int .i64 m.stage, .slice m.A m.x.length m.c] _).alloc _
      · rw [z1]; exact Cells.newD _ #[Value.string b, .string s] _
    obtain ⟨W, hWe, hWb, hWs, hM, hK⟩ := hW
    have H := Lib.hid (h.later hWb.out)
    have Hl := Lib.hid ((hh.below hWb.out (Nat.le_refl _)).more hWb.out.size)
    clear h hh
    have u0 : W.cell? ⟨w.heap.size, 0, none⟩ = some (.string m.name) := hM.out.cell (i := 0) (by omega); have u1 : W.cell? ⟨w.heap.size, 1, none⟩ = some (.int .i64 m.stage) := hM.out.cell (i := 1) (by omega); have u2 : W.cell? ⟨w.heap.size, 2, none⟩ = some (.slice m.A m.x.length m.c) := hM.out.cell (i := 2) (by omega); have u3 : W.cell? ⟨w.heap.size + 1, 0, none⟩ = some (.string b) := hK.out.cell (i := 0) (by omega); have u4 : W.cell? ⟨w.heap.size + 1, 1, none⟩ = some (.string s) := hK.out.cell (i := 1) (by omega)
    go_enter Tryz.func21, Tryz.ntmps21
    go_wp2_with fail
    rw [hWe.out]
    clear hWe
    go_wp2_with (first | (go_at_call 64; refine (l26Asked_any m b s _ H.out).mono ?_; rintro e w1 ⟨rfl, hb1⟩; have Hb1 := Lib.hid hb1; clear hb1) | (go_at_call 67; refine (l26Good_any l A' c' _ ((Hl.out.below Hb1.out (Nat.le_refl _)).more Hb1.out.size) hl).mono ?_; rintro e w2 ⟨rfl, hb2⟩; have Hb2 := Lib.hid (Hb1.out.trans (hb2.mono Hb1.out.size)); clear hb2))
    go_ret3
    rw [hR.out]
    exact ⟨rfl, hWb.out.trans (Hb2.out.mono hWb.out.size)⟩
  have e2 := B_t c2
  have hl63 := c2.1
  have Hsp := Lib.hid c2
  clear c2
  by_cases c3 : l.length < 3
  · have hR : Hid (saidR m b s l = (⟨#[]⟩, 0, false)) := Lib.hid (saidR_f (fun t f hp => by have := hp.asked.2.2; omega))
    have d3 : decide ((l.length : Int) < 3) = true := by simp; omega
    have hW : ∃ W : World, Hid ((w.alloc (.cells #[Value.string m.name, .int .i64 m.stage, .slice m.A m.x.length m.c] 45)).alloc (.cells #[Value.string b, .string s] 47) = W) ∧ Hid (Below w.heap.size w W) ∧ w.heap.size + 2 ≤ W.heap.size ∧ Hid (Cells W w.heap.size 3 (fun i => (#[Value.string m.name, .int .i64 m.stage, .slice m.A m.x.length m.c] : Array Value).getD i undef)) ∧ Hid (Cells W (w.heap.size + 1) 2 (fun i => (#[Value.string b, .string s] : Array Value).getD i undef)) := by
      have z1 : w.heap.size + 1 = (w.alloc (.cells #[Value.string m.name, .int .i64 m.stage, .slice m.A m.x.length m.c] 45)).heap.size := by simp
      refine ⟨_, Lib.hid rfl, Lib.hid (((Below.refl _ _).alloc (Nat.le_refl _) _).alloc (by simp) _), by simp, Lib.hid ?_, Lib.hid ?_⟩
      · exact (Cells.newD _ #[Value.string m.name, .int .i64 m.stage, .slice m.A m.x.length m.c] _).alloc _
      · rw [z1]; exact Cells.newD _ #[Value.string b, .string s] _
    obtain ⟨W, hWe, hWb, hWs, hM, hK⟩ := hW
    have H := Lib.hid (h.later hWb.out)
    have Hl := Lib.hid ((hh.below hWb.out (Nat.le_refl _)).more hWb.out.size)
    clear h hh
    have u0 : W.cell? ⟨w.heap.size, 0, none⟩ = some (.string m.name) := hM.out.cell (i := 0) (by omega); have u1 : W.cell? ⟨w.heap.size, 1, none⟩ = some (.int .i64 m.stage) := hM.out.cell (i := 1) (by omega); have u2 : W.cell? ⟨w.heap.size, 2, none⟩ = some (.slice m.A m.x.length m.c) := hM.out.cell (i := 2) (by omega); have u3 : W.cell? ⟨w.heap.size + 1, 0, none⟩ = some (.string b) := hK.out.cell (i := 0) (by omega); have u4 : W.cell? ⟨w.heap.size + 1, 1, none⟩ = some (.string s) := hK.out.cell (i := 1) (by omega)
    go_enter Tryz.func21, Tryz.ntmps21
    go_wp2_with fail
    rw [hWe.out]
    clear hWe
    go_wp2_with (first | (go_at_call 64; refine (l26Asked_any m b s _ H.out).mono ?_; rintro e w1 ⟨rfl, hb1⟩; have Hb1 := Lib.hid hb1; clear hb1) | (go_at_call 67; refine (l26Good_any l A' c' _ ((Hl.out.below Hb1.out (Nat.le_refl _)).more Hb1.out.size) hl).mono ?_; rintro e w2 ⟨rfl, hb2⟩; have Hb2 := Lib.hid (Hb1.out.trans (hb2.mono Hb1.out.size)); clear hb2))
    go_ret3
    rw [hR.out]
    exact ⟨rfl, hWb.out.trans (Hb2.out.mono hWb.out.size)⟩
  obtain ⟨K, hK3⟩ : ∃ K, l.length = K + 3 := ⟨l.length - 3, by omega⟩
  have HK := Lib.hid hK3
  have h0l : 0 < l.length := by omega
  have h1l : K + 1 < l.length := by omega
  obtain ⟨gl, ol, hAl, hgl, hcl⟩ := hh.at h0l
  obtain ⟨gl2, ol2, hAl2, _, hcl2⟩ := hh.at h1l
  rw [hAl] at hAl2
  simp only [Option.some.injEq, Addr.mk.injEq, and_true] at hAl2
  obtain ⟨rfl, rfl⟩ := hAl2
  have l0 := hcl 0 _ rfl
  have l2 := hcl2 0 _ rfl
  simp only [Nat.zero_mul, Nat.add_zero] at l0 l2
  have b0 := (Hsp.out.2 0 h0l).1
  have b2 := (Hsp.out.2 (K + 1) h1l).1
  obtain ⟨r0, hr0⟩ : ∃ r, Hid ((l[0]'h0l).row = r) := ⟨_, Lib.hid rfl⟩
  obtain ⟨r2, hr2⟩ : ∃ r, Hid ((l[K + 1]'h1l).row = r) := ⟨_, Lib.hid rfl⟩
  rw [hr0.out] at l0 b0
  rw [hr2.out] at l2 b2
  subst hAl
  obtain ⟨b01, b02⟩ := b0
  obtain ⟨b21, b22⟩ := b2
  rw [hK3]
  rw [hK3] at hl63
  clear hcl hcl2 c3 hK3
  have hW : ∃ W : World, Hid ((w.alloc (.cells #[Value.string m.name, .int .i64 m.stage, .slice m.A m.x.length m.c] 45)).alloc (.cells #[Value.string b, .string s] 47) = W) ∧ Hid (Below w.heap.size w W) ∧ w.heap.size + 2 ≤ W.heap.size ∧ Hid (Cells W w.heap.size 3 (fun i => (#[Value.string m.name, .int .i64 m.stage, .slice m.A m.x.length m.c] : Array Value).getD i undef)) ∧ Hid (Cells W (w.heap.size + 1) 2 (fun i => (#[Value.string b, .string s] : Array Value).getD i undef)) := by
    have z1 : w.heap.size + 1 = (w.alloc (.cells #[Value.string m.name, .int .i64 m.stage, .slice m.A m.x.length m.c] 45)).heap.size := by simp
    refine ⟨_, Lib.hid rfl, Lib.hid (((Below.refl _ _).alloc (Nat.le_refl _) _).alloc (by simp) _), by simp, Lib.hid ?_, Lib.hid ?_⟩
    · exact (Cells.newD _ #[Value.string m.name, .int .i64 m.stage, .slice m.A m.x.length m.c] _).alloc _
    · rw [z1]; exact Cells.newD _ #[Value.string b, .string s] _
  obtain ⟨W, hWe, hWb, hWs, hM, hK⟩ := hW
  have H := Lib.hid (h.later hWb.out)
  have Hl := Lib.hid ((hh.below hWb.out (Nat.le_refl _)).more hWb.out.size)
  clear h hh
  have u0 : W.cell? ⟨w.heap.size, 0, none⟩ = some (.string m.name) := hM.out.cell (i := 0) (by omega); have u1 : W.cell? ⟨w.heap.size, 1, none⟩ = some (.int .i64 m.stage) := hM.out.cell (i := 1) (by omega); have u2 : W.cell? ⟨w.heap.size, 2, none⟩ = some (.slice m.A m.x.length m.c) := hM.out.cell (i := 2) (by omega); have u3 : W.cell? ⟨w.heap.size + 1, 0, none⟩ = some (.string b) := hK.out.cell (i := 0) (by omega); have u4 : W.cell? ⟨w.heap.size + 1, 1, none⟩ = some (.string s) := hK.out.cell (i := 1) (by omega)
  have L0 := (hWb.out.cell (p := ⟨gl, ol, none⟩) hgl).trans l0
  have L2 := (hWb.out.cell (p := ⟨gl, ol + (K + 1) * 2, none⟩) hgl).trans l2
  clear l0 l2
  obtain ⟨N, hN⟩ : ∃ N, Hid (m.x.length = N) := ⟨_, Lib.hid rfl⟩
  rw [hN.out] at hN40 hN2 u2
  have hNi : (2 : Int) ≤ (N : Int) := by omega
  obtain ⟨L, hL⟩ : ∃ L, Hid ((r2 - (r0 + 1)).tdiv (N : Int) = L) := ⟨_, Lib.hid rfl⟩
  have hLb : -3002 ≤ L ∧ L ≤ 3002 := by
    have := Int.natAbs_tdiv_le_natAbs (r2 - (r0 + 1)) (N : Int)
    rw [hL.out] at this
    omega
  obtain ⟨hLb1, hLb2⟩ := hLb
  have hS : Hid (∀ t f, saidP m b s l t f → f = r0 + 1 ∧ (t.size : Int) = L ∧ 1 ≤ t.size ∧ t.size ≤ 60) := Lib.hid (fun t f hp => by
    have hf := hp.facts
    have e1 := hf.2.2.1 h0l
    rw [hr0.out] at e1
    have hlen := HK.out
    have e2 := hf.2.2.2.1 (by omega)
    have e3 : (l[l.length - 2]'(by omega)).row = r2 := by rw [← hr2.out]; congr 2; omega
    rw [e3, hN.out, show f = r0 + 1 by omega, hL.out] at e2
    have ht := hp.1.2.2.1
    exact ⟨by omega, e2.symm, by have := ht.2.1; omega, ht.2.2⟩)
  have hLe := hL.out
  have hLw : IntKind.i64.wrap L = L := IntWalk.i64_in _ (by omega)
  have d3 : decide ((K : Int) + 3 < 3) = false := by simp; omega
  have hask : Hid (Calls Tryz.prog 64 #[.agg #[Value.string m.name, .int .i64 m.stage, .slice m.A m.x.length m.c], .agg #[Value.string b, .string s]] W fun e w' => e = .returned (.bool true) ∧ Below W.heap.size W w') := Lib.hid (by have := l26Asked_any m b s _ H.out; rw [e1] at this; exact this)
  have hgood : Hid (∀ w1, Below W.heap.size W w1 → Calls Tryz.prog 67 #[.slice (some ⟨gl, ol, none⟩) (K + 3) c'] w1 fun e w' => e = .returned (.bool true) ∧ Below w1.heap.size w1 w') := Lib.hid (fun w1 hb1 => by have := l26Good_any l (some ⟨gl, ol, none⟩) c' w1 ((Hl.out.below hb1 (Nat.le_refl _)).more hb1.size) hl; rw [e2, HK.out] at this; exact this)
  clear hl e1 e2 u0 u1 u3 u4
  have u0 : W.cell? ⟨w.heap.size, 0, none⟩ = some (.string m.name) := hM.out.cell (i := 0) (by omega)
  have u1 : W.cell? ⟨w.heap.size, 1, none⟩ = some (.int .i64 m.stage) := hM.out.cell (i := 1) (by omega)
  have u3 : W.cell? ⟨w.heap.size + 1, 0, none⟩ = some (.string b) := hK.out.cell (i := 0) (by omega)
  have u4 : W.cell? ⟨w.heap.size + 1, 1, none⟩ = some (.string s) := hK.out.cell (i := 1) (by omega)
  go_enter Tryz.func21, Tryz.ntmps21
  go_wp2_with fail
  rw [hWe.out]
  clear hWe
  go_upto_region 3 with (first | (go_at_call 64; refine hask.out.mono ?_; rintro e w1 ⟨rfl, hb1⟩; have Hb1 := Lib.hid hb1; clear hb1) | (go_at_call 67; refine (hgood.out _ Hb1.out).mono ?_; rintro e w2 ⟨rfl, hb2⟩; have Hb2 := Lib.hid (Hb1.out.trans (hb2.mono Hb1.out.size)); clear hb2))
  have hs2 := Hb2.out.size
  have q0 := (Hb2.out.cell (p := ⟨w.heap.size, 0, none⟩) (show w.heap.size < W.heap.size by omega)).trans u0
  have q1 := (Hb2.out.cell (p := ⟨w.heap.size, 1, none⟩) (show w.heap.size < W.heap.size by omega)).trans u1
  have q2 := (Hb2.out.cell (p := ⟨w.heap.size, 2, none⟩) (show w.heap.size < W.heap.size by omega)).trans u2
  have q3 := (Hb2.out.cell (p := ⟨w.heap.size + 1, 0, none⟩) (show w.heap.size + 1 < W.heap.size by omega)).trans u3
  have q4 := (Hb2.out.cell (p := ⟨w.heap.size + 1, 1, none⟩) (show w.heap.size + 1 < W.heap.size by omega)).trans u4
  have hglW : gl < W.heap.size := Nat.lt_of_lt_of_le hgl hWb.out.size
  have k0 := (Hb2.out.cell (p := ⟨gl, ol, none⟩) hglW).trans L0
  have k2 := (Hb2.out.cell (p := ⟨gl, ol + (K + 1) * 2, none⟩) hglW).trans L2
  clear u0 u1 u2 u3 u4 L0 L2 hask hgood
  by_cases c4 : inB L 1 60
  rotate_left
  · have e4 := B_f c4
    have hR : Hid (saidR m b s l = (⟨#[]⟩, 0, false)) := Lib.hid (saidR_f (fun t f hp => c4 (by have := hS.out t f hp; exact ⟨by omega, by omega⟩)))
    clear c4
    go_wp2
    go_quiet (fail)
    go_wp2_with (go_at_call 66; refine (l1In_any _ _ _ _).mono ?_; rintro e w' ⟨rfl, rfl⟩)
    go_ret3
    rw [hR.out]
    exact ⟨rfl, below_drewN (hWb.out.trans (Hb2.out.mono hWb.out.size)) _⟩
  have e4 := B_t c4
  have hLn1' := c4.1
  have hLn2' := c4.2
  clear c4
  obtain ⟨Ln, hLn⟩ : ∃ Ln : Nat, L = (Ln : Int) := ⟨L.toNat, by omega⟩
  subst hLn
  have hT : Hid (∀ t f, saidP m b s l t f → t = mkS (touchL N (r0 + 1) l Ln) ∧ f = r0 + 1) := Lib.hid (fun t f hp => by
    have h1 := hS.out t f hp
    refine ⟨?_, h1.1⟩
    have := hp.ref
    rw [h1.1, hN.out, show t.size = Ln by omega] at this
    exact this.symm)
  have hts : Hid ((mkS (touchL N (r0 + 1) l Ln)).size ≤ 1048576) := Lib.hid (by rw [size_mkS, touchL_len]; omega)
  have htl : Hid (∀ w3 : World, Below W.heap.size W w3 → Calls Tryz.prog 72 #[.agg #[.string m.name, .int .i64 m.stage, .slice m.A N m.c], .slice (some ⟨gl, ol, none⟩) (K + 3) c', .int .i64 (r0 + 1), .int .i64 (Ln : Int)] w3 fun e w' => e = .returned (.string (mkS (touchL N (r0 + 1) l Ln))) ∧ Below w3.heap.size w3 w') := Lib.hid (fun w3 hb3 => by
    have := l26Touch_any m l (r0 + 1) Ln (some ⟨gl, ol, none⟩) c' w3 (by rw [hN.out]; exact hN40) (by have := HK.out; omega) (by omega) (by omega) (by omega) (fun x hx => by obtain ⟨i, hi, rfl⟩ := List.mem_iff_getElem.1 hx; exact (Hsp.out.2 i hi).2.1) (fun x hx => by obtain ⟨i, hi, rfl⟩ := List.mem_iff_getElem.1 hx; exact (Hsp.out.2 i hi).1) ((Hl.out.below hb3 (Nat.le_refl _)).more hb3.size)
    rw [hN.out, HK.out] at this
    exact this)
  obtain ⟨tt, htt⟩ : ∃ tt, Hid (mkS (touchL N (r0 + 1) l Ln) = tt) := ⟨_, Lib.hid rfl⟩
  rw [htt.out] at hT hts htl
  have hE := Lib.hid (saidR_end hT.out)
  have hsl := sayR_len (m := m) (b := b) (s := s) (t := tt) (first := r0 + 1)
  obtain ⟨R, hR0⟩ : ∃ R, Hid (sayR m b s tt (r0 + 1) = R) := ⟨_, Lib.hid rfl⟩
  obtain ⟨a, ok⟩ := R
  rw [hR0.out] at hE hsl
  simp only at hsl
  have hcall : Hid (∀ w3, Below W.heap.size W w3 → Calls Tryz.prog 18 #[.agg #[.string m.name, .int .i64 m.stage, .slice m.A N m.c], .agg #[Value.string b, .string s], .string tt, .int .i64 (r0 + 1)] w3 fun e w' => SayOut (a, ok) w3 e w') := Lib.hid (fun w3 hb3 => by
    have := sSpokenFor_any m b s tt (r0 + 1) w3 (H.out.later hb3) hts.out
    rw [hR0.out, hN.out] at this
    exact this)
  have heq : Hid (∀ (A1 : Option Addr) (c1 : Nat) (w3 : World), Below W.heap.size W w3 → RdL w3 w3.heap.size A1 2 Spk.enc a → Calls Tryz.prog 73 #[.slice A1 a.length c1, .slice (some ⟨gl, ol, none⟩) (K + 3) c'] w3 fun e w' => e = .returned (.bool (B (a = l))) ∧ Below w3.heap.size w3 w') := Lib.hid (fun A1 c1 w3 hb3 ha => by
    have := l26Same_any a l A1 (some ⟨gl, ol, none⟩) c1 c' w3 ha ((Hl.out.below hb3 (Nat.le_refl _)).more hb3.size) (by omega) (by have := HK.out; omega)
    rw [HK.out] at this
    exact this)
  go_wp2
  go_quiet (fail)
  have BQ : Hid (Below W.heap.size W (w2.drewN nq)) := Lib.hid (below_drewN Hb2.out nq)
  go_upto_region 7 with (go_at_call 66; refine (l1In_any _ _ _ _).mono ?_; rintro e w' ⟨rfl, rfl⟩)
  go_upto_region 8 with (go_at_call 72; refine (htl.out _ BQ.out).mono ?_; rintro e w3 ⟨rfl, hb3⟩; have Hb3 := Lib.hid (BQ.out.trans (hb3.mono BQ.out.size)); clear hb3)
  have hs3 := Hb3.out.size
  have p0 := (Hb3.out.cell (p := ⟨w.heap.size, 0, none⟩) (show w.heap.size < W.heap.size by omega)).trans (hM.out.cell (i := 0) (by omega) : W.cell? ⟨w.heap.size, 0, none⟩ = some (.string m.name))
  have p1 := (Hb3.out.cell (p := ⟨w.heap.size, 1, none⟩) (show w.heap.size < W.heap.size by omega)).trans (hM.out.cell (i := 1) (by omega) : W.cell? ⟨w.heap.size, 1, none⟩ = some (.int .i64 m.stage))
  have p2 := (Hb3.out.cell (p := ⟨w.heap.size, 2, none⟩) (show w.heap.size < W.heap.size by omega)).trans (hM.out.cell (i := 2) (by omega) : W.cell? ⟨w.heap.size, 2, none⟩ = some (.slice m.A m.x.length m.c))
  rw [hN.out] at p2
  have p3 := (Hb3.out.cell (p := ⟨w.heap.size + 1, 0, none⟩) (show w.heap.size + 1 < W.heap.size by omega)).trans (hK.out.cell (i := 0) (by omega) : W.cell? ⟨w.heap.size + 1, 0, none⟩ = some (.string b))
  have p4 := (Hb3.out.cell (p := ⟨w.heap.size + 1, 1, none⟩) (show w.heap.size + 1 < W.heap.size by omega)).trans (hK.out.cell (i := 1) (by omega) : W.cell? ⟨w.heap.size + 1, 1, none⟩ = some (.string s))
  clear q0 q1 q2 q3 q4 k0 k2 hS hLe hLw htl
  by_cases c5 : ok = true
  rotate_left
  · have hok : ok = false := by cases ok <;> simp_all
    subst hok
    have hRR := Lib.hid (hE.out.2 (by simp))
    clear c5
    go_wp2_with (go_at_call 18; refine (hcall.out _ Hb3.out).mono ?_; rintro e w4 ⟨A1, c1, rfl, ho1, hb4⟩)
    go_ret3
    rw [hRR.out]
    exact ⟨rfl, hWb.out.trans ((Hb3.out.trans (hb4.mono Hb3.out.size)).mono hWb.out.size)⟩
  subst c5
  by_cases c6 : a = l
  · have e6 := B_t c6
    have hRR := Lib.hid (hE.out.1 (by rw [c6]))
    clear c6
    go_wp2_with (first | (go_at_call 18; refine (hcall.out _ Hb3.out).mono ?_; rintro e w4 ⟨A1, c1, rfl, ho1, hb4⟩; have Hb4 := Lib.hid (Hb3.out.trans (hb4.mono Hb3.out.size)); have Ho1 := Lib.hid ho1; clear ho1 hb4) | (go_at_call 73; refine (heq.out _ _ _ Hb4.out (Ho1.out.rd Spk_enc_len)).mono ?_; rintro e w5 ⟨rfl, hb5⟩; have Hb5 := Lib.hid (Hb4.out.trans (hb5.mono Hb4.out.size)); clear hb5))
    go_ret3
    rw [hRR.out]
    exact ⟨rfl, hWb.out.trans (Hb5.out.mono hWb.out.size)⟩
  · have e6 := B_f c6
    have hRR := Lib.hid (hE.out.2 (fun e => c6 (Prod.mk.inj e).1))
    clear c6
    go_wp2_with (first | (go_at_call 18; refine (hcall.out _ Hb3.out).mono ?_; rintro e w4 ⟨A1, c1, rfl, ho1, hb4⟩; have Hb4 := Lib.hid (Hb3.out.trans (hb4.mono Hb3.out.size)); have Ho1 := Lib.hid ho1; clear ho1 hb4) | (go_at_call 73; refine (heq.out _ _ _ Hb4.out (Ho1.out.rd Spk_enc_len)).mono ?_; rintro e w5 ⟨rfl, hb5⟩; have Hb5 := Lib.hid (Hb4.out.trans (hb5.mono Hb4.out.size)); clear hb5))
    go_ret3
    rw [hRR.out]
    exact ⟨rfl, hWb.out.trans (Hb5.out.mono hWb.out.size)⟩
end Go.Proofs.YtkegbbndmfnolaaGreat
