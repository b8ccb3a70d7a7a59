import Derived.Test.YtkegbbndmfnolaaGreatMSpokenL06
import Derived.Test.YtkegbbndmfnolaaGreatMSpokenL29
import Derived.Test.YtkegbbndmfnolaaGreatMSpokenL12
import Derived.Laws.CopyOwn
import Derived.Lib.AppendZeros
import Derived.Lib.SliceRun
/-
  The library's bits.Mul, slices.Repeat, slices.Grow, slices.Concat at lists of strings: contracts for short lists.
-/
namespace Go.Proofs.YtkegbbndmfnolaaGreat
open Go.RowKit
set_option linter.unusedVariables false
set_option linter.unusedSimpArgs false
set_option maxRecDepth 100000

def fillR (r : ByteArray) (n k : Nat) : List Value := List.replicate k (.string r) ++ List.replicate (n - k) (.string ⟨#[]⟩)
theorem fillR_len {r : ByteArray} {n k : Nat} (h : k ≤ n) : (fillR r n k).length = n := by simp [fillR]; omega
theorem fillR_splice {r : ByteArray} {n k m : Nat} (h : k + m ≤ n) : splice (fillR r n k) k (List.replicate m (.string r)) = fillR r n (k + m) := by
  unfold splice fillR
  rw [List.take_append_of_le_length (by simp), List.take_of_length_le (by simp), List.drop_append]
  simp only [List.length_replicate, List.drop_replicate]
  rw [show k - (k + m) = 0 by omega, show k + m - k = m by omega, show n - k - m = n - (k + m) by omega, ← List.append_assoc, List.replicate_append_replicate]
  simp
theorem fillR_zero (r : ByteArray) (n : Nat) : fillR r n 0 = List.replicate n (.string ⟨#[]⟩) := by simp [fillR]
theorem flat_str (l : List ByteArray) : flat encString l = l.map Value.string := by
  induction l with
  | nil => simp [flat]
  | cons x l ih => simp [flat, encString, ih]
theorem OwnL.ofRow {l : List ByteArray} {w : World} {g : Nat} {e : TypeId} (h : w.heap[g]? = some (.cells (l.map Value.string).toArray e (0, 0))) (hl : l.length ≤ maxLen) : OwnL w g (g + 1) (some ⟨g, 0, none⟩) 1 encString l := by
  have hg : g < w.heap.size := by
    rcases Nat.lt_or_ge g w.heap.size with h' | h'
    · exact h'
    · rw [Array.getElem?_eq_none h'] at h; cases h
  have hG : Grow w g e 1 encString (.slice (some ⟨g, 0, none⟩) l.length l.length) l := by
    refine ⟨by rw [flat_str]; simp, .inr ⟨g, l.length, (l.map Value.string).toArray, rfl, Nat.le_refl _, h, Nat.le_refl _, hl, by simp, ?_⟩⟩
    rw [flat_str]; exact List.take_of_length_le (by simp)
  by_cases h0 : 0 < l.length
  · obtain ⟨g', A, c, k1, k2, k3, k4, k5⟩ := hG.ownB encString_len h0
    injection k4 with k4 _ _
    have : g = g' := by simpa [Value.ownBlock] using k1
    subst this
    rw [k4]; exact k5
  · have : l = [] := List.eq_nil_of_length_eq_zero (by omega)
    subst this
    exact OwnL.nil
theorem lt_of_row {w : World} {g : Nat} {o : Obj} (h : w.heap[g]? = some o) : g < w.heap.size := by
  rcases Nat.lt_or_ge g w.heap.size with h' | h'
  · exact h'
  · rw [Array.getElem?_eq_none h'] at h; cases h
theorem row_of_own {b n : Nat} {e : TypeId} (r : ByteArray) {w w1 : World} (hb : w.heap.size = b) (h : w1.ownsRow w.heap.size e 1 (.slice (some ⟨w.heap.size, 0, none⟩) n n) n (List.replicate n (.string ⟨#[]⟩))) : w1.heap[b]? = some (.cells (fillR r n 0).toArray e (0, 0)) ∧ b < w1.heap.size := by
  rcases h.2 with ⟨hv, _⟩ | ⟨g, cap, cur, hv, hg, hh, h1, h2, h3, h4⟩
  · simp at hv
  · injection hv with e1 e2 e3
    have e1 : w.heap.size = g := by simpa using e1
    subst e3
    have hc : cur.toList = List.replicate n (.string ⟨#[]⟩) := by
      rw [← h4, List.take_of_length_le (by simp [h3])]
    have hcur : cur = (fillR r n 0).toArray := by rw [fillR_zero, ← hc]
    rw [← hb, e1, ← hcur]
    refine ⟨hh, ?_⟩
    rcases Nat.lt_or_ge g w1.heap.size with h' | h'
    · exact h'
    · rw [Array.getElem?_eq_none h'] at hh; cases hh
theorem src_one {W : World} {g : Nat} {r : ByteArray} (h : W.cell? ⟨g, 0, none⟩ = some (.string r)) : ∀ (j : Nat) (v : Value), [Value.string r][j]? = some v → W.cell? ((⟨g, 0, none⟩ : Addr).add j) = some v := by
  intro j v hj
  rcases j with _ | j
  · simp at hj
    subst hj
    have e : (⟨g, 0, none⟩ : Addr).add 0 = ⟨g, 0, none⟩ := by simp [Addr.add]
    rw [e]; exact h
  · simp at hj
theorem src_rep {W : World} {b n k m : Nat} {t : TypeId} {r : ByteArray} (hrow : W.heap[b]? = some (.cells (fillR r n k).toArray t (0, 0))) (hm : m ≤ k) : ∀ (j : Nat) (v : Value), (List.replicate m (Value.string r))[j]? = some v → W.cell? ((⟨b, 0, none⟩ : Addr).add j) = some v := by
  intro j v hj
  have hjm : j < m := by
    rcases Nat.lt_or_ge j m with h' | h'
    · exact h'
    · rw [List.getElem?_eq_none (by simpa using h')] at hj; cases hj
  have hv : v = .string r := by
    rw [List.getElem?_replicate, if_pos hjm] at hj
    exact (Option.some.inj hj).symm
  subst hv
  have hj2 : (fillR r n k)[j]? = some (.string r) := by
    unfold fillR
    rw [List.getElem?_append_left (by rw [List.length_replicate]; omega), List.getElem?_replicate, if_pos (by omega)]
  have e : (⟨b, 0, none⟩ : Addr).add j = ⟨b, j, none⟩ := by unfold Addr.add; split <;> simp_all
  rw [e, cell_of_row W b j _ _ _ hrow]
  simpa using hj2
set_option maxHeartbeats 3200000 in
theorem repeat_any (r : ByteArray) (n : Nat) (h1 : 1 ≤ n) (h2 : n ≤ 24) (g c : Nat) (w : World) (hx : w.cell? ⟨g, 0, none⟩ = some (.string r)) (hg : g < w.heap.size) :
    Calls Tryz.prog 77 #[.slice (some ⟨g, 0, none⟩) 1 c, .int .i64 (n : Int)] w fun e w' => ∃ A, e = .returned (.slice A n n) ∧ OwnL w' w.heap.size w'.heap.size A 1 encString (List.replicate n r) ∧ Below w.heap.size w w' := by
  have HX := Lib.hid hx
  have hz : ¬ ((n : Int) < 0) := by omega
  have hmx : decide ((9223372036854775807 : Int) < (n : Int)) = false := decide_eq_false (by omega)
  clear hx
  obtain ⟨b, hb⟩ : ∃ b, Hid (w.heap.size = b) := ⟨_, Lib.hid rfl⟩
  have hbe := hb.out
  go_enter Tryz.func77, Tryz.ntmps77
  go_upto_region 7 with (first
    | (go_at_call 115; refine (mul_any n (by omega) _).mono ?_; rintro e w1 ⟨rfl, rfl⟩)
    | (refine wpList_make_cells rfl 25 _ rfl 9 _ 16 rfl String_info rfl _ n rfl (by omega) (by omega) ?_; intro w1 hc1 hb1 ho1; have HB1 := Lib.hid hb1; have hz1 := hb1.size; have HR1 : Hid (w1.heap[b]? = some (.cells (fillR r n 0).toArray 9 (0, 0)) ∧ b < w1.heap.size) := Lib.hid (row_of_own r hb.out ho1); clear hc1 hb1 ho1))
  go_upto_region 8 with (first | (refine wpList_copy_splice (o := ⟨some 33, _, _, _, _, _⟩) rfl (.tmp 31) (.tmp 32) 25 25 rfl 9 rfl rfl (some ⟨b, 0, none⟩) (some ⟨g, 0, none⟩) n n 1 c (by first | rfl | (rw [← hb.out]; rfl)) rfl b 0 (fillR r n 0) 9 HR1.out.1 [.string r] (show 1 = Nat.min 1 n from (Nat.min_eq_left h1).symm) (fun _ => ⟨rfl, _, rfl, src_one ((HB1.out.cell (p := ⟨g, 0, none⟩) hg).trans HX.out)⟩) (by rw [fillR_len (by omega)]; simp; omega) (by simp [Value.oneCell']) b w (by rw [← hb.out]; exact HB1.out) (Nat.le_refl _) ?_); intro w2 HR2 hB2; have HB2 := Lib.hid hB2; clear hB2)
  have hzf := fillR_splice (r := r) (n := n) (k := 0) (m := 1) (by omega)
  have HRa : Hid (w2.heap[b]? = some (.cells (fillR r n 1).toArray 9 (0, 0))) := Lib.hid (by have := HR2.out; rw [show ([Value.string r] : List Value) = List.replicate 1 (.string r) from rfl, hzf, Nat.zero_add] at this; exact this)
  clear hzf HR2
  go_loopw [8] (fun i wr => ∃ k : Nat, 1 ≤ k ∧ k ≤ n ∧ i = .int .i64 (k : Int) ∧ Hid (wr.heap[b]? = some (.cells (fillR r n k).toArray 9 (0, 0))) ∧ Below b w wr) (fun i _ => n - (intOf i).toNat)
  case atStart => exact ⟨1, Nat.le_refl _, h1, rfl, HRa, HB2.out⟩
  case round =>
    obtain ⟨k, hk1, hk, rfl, hrow, hbl⟩ := hrel
    have HB := Lib.hid hbl
    have hzr := hbl.size
    clear hbl
    by_cases hlt : k < n
    · obtain ⟨m, hm⟩ : ∃ m, Hid (Nat.min k (n - k) = m) := ⟨_, Lib.hid rfl⟩
      have hm1 : 1 ≤ m := by rw [← hm.out]; exact Nat.le_min.2 ⟨hk1, by omega⟩
      have hmk : k + m ≤ n := by have : m ≤ n - k := by rw [← hm.out]; exact Nat.min_le_right _ _
                                 omega
      have hmk2 : m ≤ k := by rw [← hm.out]; exact Nat.min_le_left _ _
      have hsp := Lib.hid (fillR_splice (r := r) hmk)
      have hcl : Hid ((List.replicate m (Value.string r)).length = m) := Lib.hid (by simp)
      have hsrc : Hid (∀ (j : Nat) (v : Value), (List.replicate m (Value.string r))[j]? = some v → wr.drew.cell? ((⟨b, 0, none⟩ : Addr).add j) = some v) := Lib.hid (src_rep (W := wr.drew) hrow.out hmk2)
      obtain ⟨CS, hCS⟩ : ∃ CS, Hid (List.replicate m (Value.string r) = CS) := ⟨_, Lib.hid rfl⟩
      rw [hCS.out] at hsp hcl hsrc
      have hone : Hid (∀ v ∈ CS, v.oneCell' = true) := Lib.hid (fun v hv => by rw [← hCS.out] at hv; rw [List.eq_of_mem_replicate hv]; rfl)
      have w3 : IntKind.i64.wrap ((k : Int) + (m : Int)) = (k : Int) + (m : Int) := IntWalk.i64_in _ (by omega)
      go_upto_region 9 with fail
      go_region_law (first
        | (refine step_copy_splice rfl (.tmp 41) (.tmp 44) 25 25 rfl 9 rfl rfl (some ⟨b, k, none⟩) (some ⟨b, 0, none⟩) (n - k) (n - k) k n (by first | (go_simp; done) | (go_simp; omega)) (by first | (go_simp; done) | (go_simp; omega)) b k (fillR r n k) 9 hrow.out CS (by rw [hcl.out, ← hm.out]) (fun _ => ⟨rfl, _, rfl, hsrc.out⟩) (by rw [hcl.out, fillR_len (by omega)]; exact hmk) hone.out b w (Below.drew HB.out) (Nat.le_refl _) ?_; intro w4 hg4 hb4; have HR4 : Hid (w4.heap[b]? = some (.cells (fillR r n (k + m)).toArray 9 (0, 0))) := (Lib.hid (by have := hg4.out; rw [hsp.out] at this; exact this)); have HB4 := Lib.hid hb4; rw [hcl.out]; clear hg4 hb4))
      all_goals
        go_wp2
        go_roundw
        case rel => exact ⟨k + m, by omega, hmk, by go_num, HR4, HB4.out⟩
        case measure => simp [intOf]; omega
    · obtain rfl : k = n := by omega
      have hfin : Hid (wr.heap[b]? = some (.cells ((List.replicate k r).map Value.string).toArray 9 (0, 0))) := Lib.hid (by have := hrow.out; unfold fillR at this; simpa using this)
      go_wp2
      go_ret
      have ho := OwnL.ofRow hfin.out (by simp [maxLen]; omega)
      exact ⟨some ⟨b, 0, none⟩, rfl, ho.mono (by omega) (lt_of_row hfin.out), by rw [hb.out]; exact HB.out⟩
set_option maxHeartbeats 1600000 in
theorem growNil_any (n : Nat) (h1 : 1 ≤ n) (h2 : n ≤ 100000) (w : World) : Calls Tryz.prog 114 #[.slice none 0 0, .int .i64 (n : Int)] w fun e w' => ∃ g cap, e = .returned (.slice (some ⟨g, 0, none⟩) 0 cap) ∧ Grow w' w.heap.size 9 1 encString (.slice (some ⟨g, 0, none⟩) 0 cap) [] ∧ Below w.heap.size w w' := by
  obtain ⟨i, hi, hii⟩ := Option.map_eq_some_iff.1 String_info
  simp only [Prod.mk.injEq] at hii
  obtain ⟨hz, hs, hb⟩ := hii
  obtain ⟨G, hG⟩ : ∃ G, Hid (grownCap w n 0 9 = G) := ⟨_, Lib.hid rfl⟩
  have hG1 : n ≤ G := by rw [← hG.out]; exact grownCap_ge w n 0 _
  have hG2 : G ≤ maxLen := by rw [← hG.out]; exact grownCap_le_maxLen w n 0 _ (by unfold maxLen; omega)
  have hG3 : G ≤ 9223372036854775807 := by unfold maxLen at hG2; omega
  obtain ⟨C, hC⟩ : ∃ C, Hid (Builtin.zeroCells (Value.string ⟨#[]⟩).cells n ++ Builtin.zeroCells (Value.string ⟨#[]⟩).cells (G - n) = C) := ⟨_, Lib.hid rfl⟩
  have hCs : C.size = G := by
    rw [← hC.out, Array.size_append, size_zeroCells, size_zeroCells]
    have : (Value.string ⟨#[]⟩).cells.size = 1 := rfl
    rw [this]; omega
  have hrun := fun ty => Lib.run_append_nil_zeros (P := Tryz.prog) w 25 3 ty 9 i (.string ⟨#[]⟩) .i64 .i64 rfl rfl hi hz n (by omega) (by omega) (by omega) (by rw [hb]; omega)
  rw [hG.out, hC.out] at hrun
  have HRun := Lib.hid hrun
  have hGr : Hid (Grow (w.drew.alloc (.cells C 9)) w.heap.size 9 1 encString (.slice (some ⟨w.heap.size, 0, none⟩) 0 G) ([] : List ByteArray)) := Lib.hid ⟨rfl, .inr ⟨w.heap.size, G, C, rfl, Nat.le_refl _, heap_alloc_new w.drew _, Nat.zero_le _, hG2, by rw [hCs]; omega, by simp [flat]⟩⟩
  have hBl : Hid (Below w.heap.size w (w.drew.alloc (.cells C 9))) := Lib.hid ((Below.refl _ _).drew.alloc (Nat.le_refl _) _)
  have hn0 : ¬ ((n : Int) < 0) := by omega
  have hn1 : (0 : Int) < (n : Int) := by omega
  clear hrun
  go_enter Tryz.func114, Tryz.ntmps114
  go_wp2_with (first | (at_builtin; refine Lib.wpList_append_run _ rfl _ _ _ _ rfl _ _ rfl rfl _ _ (HRun.out _) ?_))
  go_ret
  exact ⟨_, _, rfl, hGr.out, hBl.out⟩
def sums3 (a b c : Nat) (k : Nat) : Nat := if k = 0 then 0 else if k = 1 then a else if k = 2 then a + b else a + b + c
def accs3 (l1 l2 l3 : List ByteArray) (k : Nat) : List ByteArray := if k = 0 then [] else if k = 1 then l1 else if k = 2 then l1 ++ l2 else l1 ++ l2 ++ l3
set_option maxHeartbeats 3200000 in
theorem concat3C_any (l1 l2 l3 : List ByteArray) (A1 A2 A3 : Option Addr) (c1 c2 c3 gs c : Nat) (w : World) (hg : gs < w.heap.size) (h0 : w.cell? ⟨gs, 0, none⟩ = some (.slice A1 l1.length c1)) (h1 : w.cell? ⟨gs, 1, none⟩ = some (.slice A2 l2.length c2)) (h2 : w.cell? ⟨gs, 2, none⟩ = some (.slice A3 l3.length c3))
    (r1 : RdL w w.heap.size A1 1 encString l1) (r2 : RdL w w.heap.size A2 1 encString l2) (r3 : RdL w w.heap.size A3 1 encString l3) (p1 : 0 < l1.length) (p2 : 0 < l2.length) (p3 : 0 < l3.length) (hs : l1.length + l2.length + l3.length ≤ 100000) :
    Calls Tryz.prog 76 #[.slice (some ⟨gs, 0, none⟩) 3 c] w fun e w' => ∃ A c', e = .returned (.slice A (l1 ++ l2 ++ l3).length c') ∧ (l1 ++ l2 ++ l3).length ≤ c' ∧ OwnL w' w.heap.size w'.heap.size A 1 encString (l1 ++ l2 ++ l3) ∧ Below w.heap.size w w' := by
  have R1 := Lib.hid r1
  have R2 := Lib.hid r2
  have R3 := Lib.hid r3
  clear r1 r2 r3
  go_enter Tryz.func76, Tryz.ntmps76
  go_upto_region 3 with fail
  go_loopw [3, 5, 11] (fun sz u i wr => ∃ k : Nat, k ≤ 3 ∧ i = .int .i64 (k : Int) ∧ sz = .int .i64 (sums3 l1.length l2.length l3.length k : Int) ∧ w = wr) (fun _ _ i _ => 3 - (intOf i).toNat)
  case atStart => exact ⟨0, by omega, rfl, rfl, rfl⟩
  case round =>
    obtain ⟨k, hk, rfl, rfl, rfl⟩ := hrel
    rcases (show k = 0 ∨ k = 1 ∨ k = 2 ∨ k = 3 by omega) with rfl | rfl | rfl | rfl
    · have e1 : sums3 l1.length l2.length l3.length 0 = 0 := rfl
      have e2 : sums3 l1.length l2.length l3.length 1 = l1.length := rfl
      rw [e1]
      go_wp2
      go_roundw
      case rel => exact ⟨1, by omega, by go_num, by first | (rw [e2]; done) | (rw [e2]; simp), trivial⟩
      case measure => simp [intOf]
    · have e1 : sums3 l1.length l2.length l3.length 1 = l1.length := rfl
      have e2 : sums3 l1.length l2.length l3.length 2 = l1.length + l2.length := rfl
      have ww : IntKind.i64.wrap ((l1.length : Int) + (l2.length : Int)) = (l1.length : Int) + (l2.length : Int) := IntWalk.i64_in _ (by omega)
      have hn : ¬ ((l1.length : Int) + (l2.length : Int) < 0) := by omega
      rw [e1]
      go_wp2
      go_roundw
      case rel => exact ⟨2, by omega, by go_num, by first | (rw [e2]; done) | (rw [e2]; push_cast; rfl), trivial⟩
      case measure => simp [intOf]
    · have e1 : sums3 l1.length l2.length l3.length 2 = l1.length + l2.length := rfl
      have e2 : sums3 l1.length l2.length l3.length 3 = l1.length + l2.length + l3.length := rfl
      obtain ⟨q, hq⟩ : ∃ q, Hid (l1.length + l2.length = q) := ⟨_, Lib.hid rfl⟩
      have ww : IntKind.i64.wrap ((q : Int) + (l3.length : Int)) = (q : Int) + (l3.length : Int) := IntWalk.i64_in _ (by have := hq.out; omega)
      have hn : ¬ ((q : Int) + (l3.length : Int) < 0) := by omega
      rw [e1, hq.out]
      go_wp2
      go_roundw
      case rel => exact ⟨3, by omega, by go_num, by first | (rw [e2, hq.out]; done) | (rw [e2, hq.out]; push_cast; rfl), trivial⟩
      case measure => simp [intOf]
    · have e1 : sums3 l1.length l2.length l3.length 3 = l1.length + l2.length + l3.length := rfl
      obtain ⟨q, hq⟩ : ∃ q, Hid (l1.length + l2.length + l3.length = q) := ⟨_, Lib.hid rfl⟩
      have hq1 : 1 ≤ q := by have := hq.out; omega
      have hq2 : q ≤ 100000 := by have := hq.out; omega
      rw [e1, hq.out]
      go_upto_region 11 with (go_at_call 114; refine (growNil_any q hq1 hq2 _).mono ?_; rintro e w1 ⟨g1, cap1, rfl, hg1, hb1⟩; have HG1 := Lib.hid hg1; have HB1 := Lib.hid hb1; clear hg1 hb1)
      have hz1 := HB1.out.size
      go_loopw [6, 8, 27] (fun v u i wr => ∃ k : Nat, k ≤ 3 ∧ i = .int .i64 (k : Int) ∧ Grow wr w.heap.size 9 1 encString v (accs3 l1 l2 l3 k) ∧ Below w.heap.size w wr) (fun _ _ i _ => 3 - (intOf i).toNat)
      case atStart => exact ⟨0, by omega, rfl, HG1.out, HB1.out⟩
      case round =>
        obtain ⟨k, hk, rfl, hgr, hbl⟩ := hrel
        have HG := Lib.hid hgr
        have HB := Lib.hid hbl
        have hzr := hbl.size
        have s0 := (hbl.cell (p := ⟨gs, 0, none⟩) hg).trans h0
        have s1 := (hbl.cell (p := ⟨gs, 1, none⟩) hg).trans h1
        have s2 := (hbl.cell (p := ⟨gs, 2, none⟩) hg).trans h2
        have Q1 := Lib.hid ((R1.out.below hbl (Nat.le_refl _)).more hbl.size)
        have Q2 := Lib.hid ((R2.out.below hbl (Nat.le_refl _)).more hbl.size)
        have Q3 := Lib.hid ((R3.out.below hbl (Nat.le_refl _)).more hbl.size)
        clear hgr hbl
        rcases (show k = 0 ∨ k = 1 ∨ k = 2 ∨ k = 3 by omega) with rfl | rfl | rfl | rfl
        · have HG0 : Hid (Grow wr w.heap.size 9 1 encString u6 ([] : List ByteArray)) := HG
          go_wp2_with (at_builtin; refine wpList_pushAllA rfl (.tmp 31) (.tmp 32) 25 rfl w.heap.size 9 _ 1 16 encString rfl String_info rfl (by omega) _ [] l1 A1 c1 _ rfl rfl Q1.out p1 HG0.out encString_len (by simp [encString, Value.oneCell']) (by simp; omega) (by omega) hzr ?_; intro v5 w5 g5 b5 gb5 k5; have HG5 := Lib.hid g5; have HB5 := Lib.hid (HB.out.trans b5); clear g5 b5 gb5 k5)
          go_roundw
          case rel => exact ⟨1, by omega, by go_num, HG5.out, HB5.out⟩
          case measure => simp [intOf]
        · have HG0 : Hid (Grow wr w.heap.size 9 1 encString u6 l1) := HG
          go_wp2_with (at_builtin; refine wpList_pushAllA rfl (.tmp 31) (.tmp 32) 25 rfl w.heap.size 9 _ 1 16 encString rfl String_info rfl (by omega) _ l1 l2 A2 c2 _ rfl rfl Q2.out p2 HG0.out encString_len (by simp [encString, Value.oneCell']) (by omega) (by omega) hzr ?_; intro v5 w5 g5 b5 gb5 k5; have HG5 := Lib.hid g5; have HB5 := Lib.hid (HB.out.trans b5); clear g5 b5 gb5 k5)
          go_roundw
          case rel => exact ⟨2, by omega, by go_num, HG5.out, HB5.out⟩
          case measure => simp [intOf]
        · have HG0 : Hid (Grow wr w.heap.size 9 1 encString u6 (l1 ++ l2)) := HG
          go_wp2_with (at_builtin; refine wpList_pushAllA rfl (.tmp 31) (.tmp 32) 25 rfl w.heap.size 9 _ 1 16 encString rfl String_info rfl (by omega) _ (l1 ++ l2) l3 A3 c3 _ rfl rfl Q3.out p3 HG0.out encString_len (by simp [encString, Value.oneCell']) (by simp; omega) (by omega) hzr ?_; intro v5 w5 g5 b5 gb5 k5; have HG5 := Lib.hid g5; have HB5 := Lib.hid (HB.out.trans b5); clear g5 b5 gb5 k5)
          go_roundw
          case rel => exact ⟨3, by omega, by go_num, HG5.out, HB5.out⟩
          case measure => simp [intOf]
        · have HG0 : Hid (Grow wr w.heap.size 9 1 encString u6 (l1 ++ l2 ++ l3)) := HG
          obtain ⟨A5, c5, rfl, ho5⟩ := HG0.out.own encString_len
          have HCP := Lib.hid (HG0.out.capN)
          have HO5 := Lib.hid ho5
          clear ho5
          go_wp2
          go_ret
          exact ⟨A5, c5, rfl, HCP.out, HO5.out, HB.out⟩
end Go.Proofs.YtkegbbndmfnolaaGreat
