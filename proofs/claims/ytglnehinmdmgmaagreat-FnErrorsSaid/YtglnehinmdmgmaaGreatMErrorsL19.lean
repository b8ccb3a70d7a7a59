import Derived.Test.YtglnehinmdmgmaaGreatMErrorsL17
import Derived.Test.YtglnehinmdmgmaaGreatMErrorsL15
import Derived.Test.YtglnehinmdmgmaaGreatMErrorsL18
import Derived.Test.YtglnehinmdmgmaaGreatMErrorsL09
import Derived.Deep.Cut
import Derived.StillTailTactics
import Derived.Test.YtglnehinmdmgmaaGreatMErrorsL04
/-
  The suffix costs: the reference's table.
-/
namespace Go.Proofs.YtglnehinmdmgmaaGreat
open Go.RowKit
set_option linter.unusedVariables false
set_option linter.unusedSimpArgs false
set_option maxRecDepth 100000

theorem farM_abs (a b : Int) : farM a b = absV (a - b) := by unfold farM absV; split <;> omega
theorem step_same {P : Program} {o : Oper} {ops : Array Oper} {a : Act} {K : Act → World → Prop} {Q : Exit → Act → World → Prop} {E : Prop} {w : World} (hg : o.guard = none) (f : FuncId) {xs : Array Operand} {ts : Array TypeId} (ho : o.op = .call { callee := .value (.func f), args := xs, argTypes := ts }) (vals : Array Value) (v : Value) (henter : (execOp a.eval o).run P w = .ok (.enter f vals) w)
    (h : Calls P f vals w fun e w' => e = .returned v ∧ w = w') (hK : K (a.put o.dst v) w) : if Region.wanted o (yielded ops a.tmps) = true then Oper.wp P o a w K Q else E := by
  rw [if_pos (by simp [Region.wanted, hg])]
  unfold Oper.wp
  rw [henter, Oper.upon_enter]
  exact h.mono fun e w' ⟨he, hw⟩ => by subst he; subst hw; exact hK
theorem l1LeastM_any (x y : Int) (w : World) : Calls Tryz.prog 108 #[.int .i64 x, .int .i64 y] w fun e w' => e = .returned (.int .i64 (min x y)) ∧ w = w' := by
  by_cases h : x < y
  · have e : min x y = x := by omega
    rw [e]
    go_enter Tryz.func108, Tryz.ntmps108
    go_wp2
    go_ret
    exact ⟨rfl, rfl⟩
  · have e : min x y = y := by omega
    rw [e]
    go_enter Tryz.func108, Tryz.ntmps108
    go_wp2
    go_ret
    exact ⟨rfl, rfl⟩
/-- The arguments of a matching. -/
def askP (a b : List Int) (s : Int) : Prop := timesP a ∧ timesP b ∧ inB s 0 10000
theorem askP.bd {a b : List Int} {s : Int} (h : askP a b s) (i j : Nat) : 0 ≤ pM s a b i j ∧ pM s a b i j ≤ 1200000 := by
  have h1 := pM_bd (s := s) (a := a) (b := b) h.2.2.1 i j
  have h2 : s * ((a.length + b.length : Nat) : Int) ≤ 10000 * 120 := Int.mul_le_mul h.2.2.2 (by have := h.1.1; have := h.2.1.1; omega) (by omega) (by omega)
  omega
theorem askP.far {a b : List Int} {s : Int} (h : askP a b s) {i j : Nat} (hi : i < a.length) (hj : j < b.length) : 0 ≤ a[i] ∧ a[i] ≤ 1000000 ∧ 0 ≤ b[j] ∧ b[j] ≤ 1000000 ∧ 0 ≤ absV (a[i] - b[j]) ∧ absV (a[i] - b[j]) ≤ 1000000 := by
  have h1 := (h.1.2 i hi).1
  have h2 := (h.2.1.2 j hj).1
  unfold inB at h1 h2
  refine ⟨h1.1, h1.2, h2.1, h2.2, ?_, ?_⟩ <;> unfold absV <;> split <;> omega



set_option maxHeartbeats 6400000 in
theorem l22Prices_any (a b : List Int) (s : Int) (A B_ : Option Addr) (c c' : Nat) (w : World) (ha : RdL w w.heap.size A 1 encInt a) (hb : RdL w w.heap.size B_ 1 encInt b) (hp : askP a b s) : Calls Tryz.prog 101 #[.slice A a.length c, .slice B_ b.length c', .int .i64 s] w fun e w' => ∃ (g : Nat) (h : Nat → Nat), e = .returned (.slice (some ⟨g, 0, none⟩) (a.length + 1) (a.length + 1)) ∧ w.heap.size ≤ g ∧ TabW w' g a.length b.length 0 h (pM s a b) ∧ Below w.heap.size w w' := by
  have Ha := Lib.hid ha
  have Hb := Lib.hid hb
  have HP := Lib.hid hp
  have hla := hp.1.1
  have hlb := hp.2.1.1
  obtain ⟨hs0, hs1⟩ := hp.2.2
  have HF := Lib.hid (fun i j => hp.bd i j)
  clear ha hb hp
  obtain ⟨F, hF⟩ : ∃ F, Hid (pM s a b = F) := ⟨_, Lib.hid rfl⟩
  rw [hF.out] at HF ⊢
  obtain ⟨m, hm⟩ : ∃ m, Hid (a.length = m) := ⟨_, Lib.hid rfl⟩
  obtain ⟨n, hn⟩ : ∃ n, Hid (b.length = n) := ⟨_, Lib.hid rfl⟩
  rw [hm.out] at hla ⊢
  rw [hn.out] at hlb ⊢
  have hw1 : IntKind.i64.wrap ((m : Int) + 1) = ((m + 1 : Nat) : Int) := by rw [IntWalk.i64_in _ (by omega)]; omega
  have hw2 : IntKind.i64.wrap ((n : Int) + 1) = ((n + 1 : Nat) : Int) := by rw [IntWalk.i64_in _ (by omega)]; omega
  go_enter Tryz.func101, Tryz.ntmps101
  go_upto_region 3 with (first | (refine wpList_make_cells rfl 116 _ rfl 24 _ 24 rfl IntS_info rfl .i64 (m + 1) (show Value.int .i64 ((m : Int) + 1) = Value.int .i64 ((m + 1 : Nat) : Int) from congrArg _ (by omega)) (by omega) (by omega) ?_; intro w1 hc1 hb1 _; have HC1 := Lib.hid hc1; have HB1 := Lib.hid hb1; clear hc1 hb1) | fail)
  obtain ⟨g, hg⟩ : ∃ g, Hid (w.heap.size = g) := ⟨_, Lib.hid rfl⟩
  have hTS : Hid (TabW w1 g m n (m + 1) (fun k => k) F) := Lib.hid (by rw [hg.out] at HC1; exact TabW.start HC1.out _)
  have hgg := hg.out
  rw [hg.out] at HB1 HC1 ⊢
  clear HC1
  go_loopw [8] (fun i wr => ∃ (lo : Nat) (h : Nat → Nat), lo ≤ m + 1 ∧ i = .int .i64 ((lo : Int) - 1) ∧ Hid (TabW wr g m n lo h F) ∧ Hid (Below g w wr)) (fun i _ => (intOf i + 1).toNat)
  case atStart => exact ⟨m + 1, _, by omega, (by refine congrArg _ ?_; omega), hTS, HB1⟩
  case round =>
    obtain ⟨lo, h, hlo, rfl, HT, HB⟩ := hrel
    clear hTS HB1
    cases lo with
    | zero =>
      go_wp2
      go_ret
      exact ⟨g, h, rfl, by omega, HT.out, by rw [hgg]; exact HB.out⟩
    | succ i =>
      rw [show ((i + 1 : Nat) : Int) - 1 = (i : Int) by omega]
      have hi : i ≤ m := by omega
      go_upto_region 7 with (first | (refine wpList_make_cells rfl 24 _ rfl 3 _ 8 rfl Int_info rfl .i64 (n + 1) (show Value.int .i64 ((n : Int) + 1) = Value.int .i64 ((n + 1 : Nat) : Int) from congrArg _ (by omega)) (by omega) (by omega) ?_; intro w2 hc2 hb2 _; have o0 := (HT.out.1.later hb2).cell (i := i) (by omega); have o1 := (HT.out.1.later hb2).free (i := i) (by omega); have HC2 := Lib.hid hc2; have HB2 := Lib.hid hb2; clear hc2 hb2) | fail)
      obtain ⟨h', V, hVe, HR, HBV⟩ : ∃ (h' : Nat → Nat) (V : World), Hid (w2.setCell ⟨g, i, none⟩ (.slice (some ⟨wr.heap.size, 0, none⟩) (n + 1) (n + 1)) = V) ∧ Hid (RowW V g m n i h' F (n + 1)) ∧ Hid (Below g w V) :=
        ⟨_, _, Lib.hid rfl, Lib.hid (HT.out.row hi HC2.out HB2.out), Lib.hid ((HB.out.trans (HB2.out.mono (Nat.le_of_lt HT.out.1.lt))).setCell (p := ⟨g, i, none⟩) (Nat.le_refl _) _)⟩
      rw [hVe.out]
      clear hVe o0 o1 HC2 HB2 HT HB
      go_loopw [9] (fun v wr2 => ∃ jlo : Nat, jlo ≤ n + 1 ∧ v = .int .i64 ((jlo : Int) - 1) ∧ Hid (RowW wr2 g m n i h' F jlo) ∧ Hid (Below g w wr2)) (fun v _ => (intOf v + 1).toNat)
      case atStart => exact ⟨n + 1, by omega, (by refine congrArg _ ?_; omega), HR, HBV⟩
      case round =>
        obtain ⟨jlo, hjlo, rfl, HR2, HB2⟩ := hrel
        clear HR HBV
        cases jlo with
        | zero =>
          go_wp2
          go_roundw
          case rel => exact ⟨i, h', by omega, (by refine congrArg _ ?_; omega), Lib.hid HR2.out.close, HB2⟩
          case measure => first | (simp [intOf]; done) | (simp [intOf]; omega)
        | succ j =>
          rw [show ((j + 1 : Nat) : Int) - 1 = (j : Int) by omega]
          have hj : j ≤ n := by omega
          have p3 := HR2.out.outer (k := i) (Nat.le_refl _) hi
          have z0 := HR2.out.zero (j := j) (by omega) hj
          have z1 := HR2.out.free (j := j) hj
          by_cases e1 : i = m
          · subst e1
            have d1 : ((i : Int) == (i : Int)) = true := beq_self_eq_true _
            have hv : Hid (s * ((n : Int) - (j : Int)) = F i j) := Lib.hid (by rw [← hF.out, pM_end j i (by rw [hm.out]; omega), hn.out]; congr 1; omega)
            obtain ⟨b1, b2⟩ := HF.out i j
            rw [← hv.out] at b1 b2
            have hwa : IntKind.i64.wrap ((n : Int) - (j : Int)) = (n : Int) - (j : Int) := IntWalk.i64_in _ (by omega)
            have hwb : IntKind.i64.wrap (s * ((n : Int) - (j : Int))) = s * ((n : Int) - (j : Int)) := IntWalk.i64_in _ (by omega)
            go_wp2
            go_roundw
            case rel => exact ⟨j, by omega, rfl, Lib.hid (HR2.out.store hj hv.out), Lib.hid (HB2.out.setCell (p := ⟨h' i, j, none⟩) (Nat.le_of_lt HR2.out.2.1) _)⟩
            case measure => first | (simp [intOf]; done) | (simp [intOf]; omega)
          by_cases e2 : j = n
          · subst e2
            have d1 : ((i : Int) == (m : Int)) = false := beq_eq_false_iff_ne.2 (by omega)
            have hv : Hid (s * ((m : Int) - (i : Int)) = F i j) := Lib.hid (by rw [← hF.out, pM_edge i j (by rw [hn.out]; omega), hm.out]; congr 1; omega)
            obtain ⟨b1, b2⟩ := HF.out i j
            rw [← hv.out] at b1 b2
            have hwa : IntKind.i64.wrap ((m : Int) - (i : Int)) = (m : Int) - (i : Int) := IntWalk.i64_in _ (by omega)
            have hwb : IntKind.i64.wrap (s * ((m : Int) - (i : Int))) = s * ((m : Int) - (i : Int)) := IntWalk.i64_in _ (by omega)
            go_wp2
            go_roundw
            case rel => exact ⟨j, by omega, rfl, Lib.hid (HR2.out.store hj hv.out), Lib.hid (HB2.out.setCell (p := ⟨h' i, j, none⟩) (Nat.le_of_lt HR2.out.2.1) _)⟩
            case measure => first | (simp [intOf]; done) | (simp [intOf]; omega)
          have him : i < m := by omega
          have hjn : j < n := by omega
          have d1 : ((i : Int) == (m : Int)) = false := beq_eq_false_iff_ne.2 (by omega)
          have d2 : ((j : Int) == (n : Int)) = false := beq_eq_false_iff_ne.2 (by omega)
          obtain ⟨ga, oa, hA, hga, hca⟩ := Ha.out.at (k := i) (by rw [hm.out]; exact him)
          obtain ⟨gb, ob, hB, hgb, hcb⟩ := Hb.out.at (k := j) (by rw [hn.out]; exact hjn)
          have hfr := HP.out.far (i := i) (j := j) (by rw [hm.out]; exact him) (by rw [hn.out]; exact hjn)
          have hmid : Hid (F i j = min (min (s + F (i + 1) j) (s + F i (j + 1))) (absV (a[i]'(by rw [hm.out]; exact him) - b[j]'(by rw [hn.out]; exact hjn)) + F (i + 1) (j + 1))) := Lib.hid (by rw [← hF.out, pM_mid (by rw [hm.out]; exact him) (by rw [hn.out]; exact hjn), farM_abs, getD_get (by rw [hm.out]; exact him), getD_get (by rw [hn.out]; exact hjn)])
          have ra : wr.cell? ⟨ga, oa + i, none⟩ = some (.int .i64 (a[i]'(by rw [hm.out]; exact him))) := by have := (HB2.out.cell (p := ⟨ga, oa + i * 1 + 0, none⟩) (show ga < g by omega)).trans (hca 0 _ rfl); simpa using this
          have rb : wr.cell? ⟨gb, ob + j, none⟩ = some (.int .i64 (b[j]'(by rw [hn.out]; exact hjn))) := by have := (HB2.out.cell (p := ⟨gb, ob + j * 1 + 0, none⟩) (show gb < g by omega)).trans (hcb 0 _ rfl); simpa using this
          subst hA hB
          clear hca hcb
          have p4 := HR2.out.outer (k := i + 1) (by omega) (by omega)
          have q1 := HR2.out.old (k := i + 1) (j := j) (by omega) (by omega) hj
          have q2 := HR2.out.now (j := j + 1) (Nat.le_refl _) (by omega)
          have q3 := HR2.out.old (k := i + 1) (j := j + 1) (by omega) (by omega) (by omega)
          obtain ⟨f1a, f1b⟩ := HF.out (i + 1) j
          obtain ⟨f2a, f2b⟩ := HF.out i (j + 1)
          obtain ⟨f3a, f3b⟩ := HF.out (i + 1) (j + 1)
          generalize a[i]'(by rw [hm.out]; exact him) = xa at *
          generalize b[j]'(by rw [hn.out]; exact hjn) = xb at *
          obtain ⟨x1, x2, y1, y2, u1, u2⟩ := hfr
          obtain ⟨f1, hf1⟩ : ∃ f1, Hid (F (i + 1) j = f1) := ⟨_, Lib.hid rfl⟩
          obtain ⟨f2, hf2⟩ : ∃ f2, Hid (F i (j + 1) = f2) := ⟨_, Lib.hid rfl⟩
          obtain ⟨f3, hf3⟩ : ∃ f3, Hid (F (i + 1) (j + 1) = f3) := ⟨_, Lib.hid rfl⟩
          rw [hf1.out] at q1 f1a f1b hmid
          rw [hf2.out] at q2 f2a f2b hmid
          rw [hf3.out] at q3 f3a f3b hmid
          obtain ⟨u, hu⟩ : ∃ u, Hid (absV (xa - xb) = u) := ⟨_, Lib.hid rfl⟩
          rw [hu.out] at u1 u2 hmid
          have hFar : Hid (∀ W, Calls Tryz.prog 26 #[.int .i64 xa, .int .i64 xb] W fun e w' => e = .returned (.int .i64 u) ∧ W = w') := Lib.hid fun W => by
            have := l22FarV_any xa xb W (by unfold inB; omega) (by unfold inB; omega)
            rw [hu.out] at this; exact this
          go_upto_region 9 with fail
          go_quiet ((go_at_call 108; exact Calls.quiet_of_same ((l1LeastM_any _ _ _).mono fun _ _ h => ⟨h.1, h.2.symm⟩)))
          have hv : Hid (min (s + min f1 f2) (u + f3) = F i j) := Lib.hid (by rw [hmid.out]; omega)
          have hwi : IntKind.i64.wrap ((i : Int) + 1) = (i : Int) + 1 := IntWalk.i64_in _ (by omega)
          have hwj : IntKind.i64.wrap ((j : Int) + 1) = (j : Int) + 1 := IntWalk.i64_in _ (by omega)
          have hwu : IntKind.i64.wrap (u + f3) = u + f3 := IntWalk.i64_in _ (by omega)
          have ci0 : (0 : Int) ≤ (i : Int) + 1 := by omega
          have cj0 : (0 : Int) ≤ (j : Int) + 1 := by omega
          have ti : ((i : Int) + 1).toNat = i + 1 := by omega
          have tj : ((j : Int) + 1).toNat = j + 1 := by omega
          have hjn1 : j < n + 1 := by omega
          have cjn : (j : Int) < (n : Int) + 1 := by omega
          have cim : (i : Int) < (m : Int) + 1 := by omega
          have him1 : i < m + 1 := by omega
          go_upto_region 10 with fail
          have HR3 : Hid (RowW (wr.drewN nq) g m n i h' F (j + 1)) := Lib.hid HR2.out
          have HB3 : Hid (Below g w (wr.drewN nq)) := Lib.hid (below_drewN HB2.out nq)
          have ra' : (wr.drewN nq).cell? ⟨ga, oa + i, none⟩ = some (.int .i64 xa) := ra
          have rb' : (wr.drewN nq).cell? ⟨gb, ob + j, none⟩ = some (.int .i64 xb) := rb
          clear ra rb p3 p4 q1 q2 q3 z0 z1 HR2 HB2
          generalize wr.drewN nq = wQ at HR3 HB3 ra' rb' ⊢
          have p3 := HR3.out.outer (k := i) (Nat.le_refl _) hi
          have p4 := HR3.out.outer (k := i + 1) (by omega) (by omega)
          have q3 := HR3.out.old (k := i + 1) (j := j + 1) (by omega) (by omega) (by omega)
          rw [hf3.out] at q3
          go_still_tail 26, (by kernel_rfl)
          still_call ((hFar.out _).mono fun _ _ h => ⟨h.1, h.2.symm⟩)
          repeat still_step
          still_call ((l1LeastM_any (s + min f1 f2) (u + f3) _).mono fun _ _ h => ⟨h.1, h.2.symm⟩)
          repeat still_step
          refine wpStill_nil ?_
          change wpList _ _ _ _ _ wQ.drew
          have HR4 : Hid (RowW wQ.drew g m n i h' F (j + 1)) := Lib.hid (HR3.out.later (Below.refl _ _).drew)
          have HB4 : Hid (Below g w wQ.drew) := Lib.hid HB3.out.drew
          clear p3 p4 q3 ra' rb' HR3 HB3
          generalize wQ.drew = w5 at HR4 HB4 ⊢
          have z0 := HR4.out.zero (j := j) (by omega) hj
          have z1 := HR4.out.free (j := j) hj
          go_wp2
          go_roundw
          case rel => exact ⟨j, by omega, rfl, Lib.hid (HR4.out.store hj hv.out), Lib.hid (HB4.out.setCell (p := ⟨h' i, j, none⟩) (Nat.le_of_lt HR4.out.2.1) _)⟩
          case measure => first | (simp [intOf]; done) | (simp [intOf]; omega)
end Go.Proofs.YtglnehinmdmgmaaGreat
