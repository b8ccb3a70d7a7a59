import Derived.Test.YtglnehinmdmgmaaGreatMErrorsL28
import Derived.Test.YtglnehinmdmgmaaGreatMErrorsL29
import Derived.Test.YtglnehinmdmgmaaGreatMErrorsL19
/-
  The least alignment of least cost: the program's.
-/
namespace Go.Proofs.YtglnehinmdmgmaaGreat
open Go.RowKit
set_option linter.unusedVariables false
set_option linter.unusedSimpArgs false
set_option maxRecDepth 100000

/-- What holds while the alignment is made: the table, the list so far, the result's box. -/
def BestI (w0 w : World) (g m n : Nat) (h : Nat → Nat) (F : Nat → Nat → Int) (gr b : Nat) (v : Value) (L : List Int) : Prop :=
  TabW w g m n 0 h F ∧ Grow w b 3 1 encInt v L ∧ Cells w gr 2 (bxM (.slice none 0 0) 0) ∧ Below w0.heap.size w0 w ∧ b ≤ w.heap.size
section
variable {w0 w w' : World} {g m n gr b : Nat} {h : Nat → Nat} {F : Nat → Nat → Int} {v v' : Value} {L L' : List Int}
theorem BestI.drewN (x : BestI w0 w g m n h F gr b v L) (k : Nat) : BestI w0 (w.drewN k) g m n h F gr b v L :=
  ⟨x.1, x.2.1, x.2.2.1, below_drewN x.2.2.2.1 k, x.2.2.2.2⟩
theorem BestI.push (x : BestI w0 w g m n h F gr b v L) (hh : ∀ i, i ≤ m → h i < b) (hg : g < b) (hr : gr < b) (h0 : w0.heap.size ≤ gr) (hG : Grow w' b 3 1 encInt v' L') (hB : Below b w w') :
    BestI w0 w' g m n h F gr b v' L' :=
  ⟨x.1.keep hB hg hh, hG, x.2.2.1.below hB hr, x.2.2.2.1.trans (hB.mono (by omega)), Nat.le_trans x.2.2.2.2 hB.size⟩
end




set_option maxHeartbeats 6400000 in
theorem bestMatch_any (a b : List Int) (s : Int) (A B_ : Option Addr) (c c' : Nat) (w : World) (ha : RdL w w.heap.size A 1 encInt a) (hb : RdL w w.heap.size B_ 1 encInt b) (hp : askP a b s) : Calls Tryz.prog 71 #[.slice A a.length c, .slice B_ b.length c', .int .i64 s] w fun e w' => ∃ (A' : Option Addr) (c' : Nat), e = .returned (.agg #[.slice A' a.length c', .int .i64 (pM s a b 0 0)]) ∧ OwnL w' w.heap.size w'.heap.size A' 1 encInt (ofM s a b a.length).1 ∧ Below w.heap.size w w' := by
  have Ha := Lib.hid ha
  have Hb := Lib.hid hb
  have HP := Lib.hid hp
  have hla := hp.1.1
  have hlb := hp.2.1.1
  obtain ⟨hs0, hs1⟩ := hp.2.2
  have HF := Lib.hid (fun i j => hp.bd i j)
  clear ha hb hp
  obtain ⟨m, hm⟩ : ∃ m, Hid (a.length = m) := ⟨_, Lib.hid rfl⟩
  obtain ⟨n, hn⟩ : ∃ n, Hid (b.length = n) := ⟨_, Lib.hid rfl⟩
  obtain ⟨F, hF⟩ : ∃ F, Hid (pM s a b = F) := ⟨_, Lib.hid rfl⟩
  have hcall : Hid (∀ W, Below w.heap.size w W → Calls Tryz.prog 94 #[.slice A m c, .slice B_ n c', .int .i64 s] W fun e w' => ∃ (g : Nat) (h : Nat → Nat), e = .returned (.slice (some ⟨g, 0, none⟩) (m + 1) (m + 1)) ∧ W.heap.size ≤ g ∧ TabW w' g m n 0 h F ∧ Below W.heap.size W w') := Lib.hid fun W hW => by
    have := prices_any a b s A B_ c c' W ((Ha.out.below hW (Nat.le_refl _)).more hW.size) ((Hb.out.below hW (Nat.le_refl _)).more hW.size) HP.out
    rw [hm.out, hn.out, hF.out] at this; exact this
  rw [hF.out] at HF ⊢
  rw [hm.out] at hla ⊢
  rw [hn.out] at hlb ⊢
  go_enter Tryz.func71, Tryz.ntmps71
  go_upto_region 2 with (first | (go_at_call 94; refine (hcall.out _ ((Below.refl _ _).alloc (Nat.le_refl _) _)).mono ?_; rintro e w1 ⟨g, h, rfl, hg, ht, hb1⟩; have HT1 := Lib.hid ht; have HB1 := Lib.hid hb1; clear ht hb1) | fail)
  obtain ⟨gr, hgr⟩ : ∃ gr, Hid (w.heap.size = gr) := ⟨_, Lib.hid rfl⟩
  obtain ⟨gx, hgx⟩ : ∃ gx, Hid (w1.heap.size = gx) := ⟨_, Lib.hid rfl⟩
  have hgs : w.heap.size + 1 ≤ g := by simpa using hg
  have hglt : g < gx := by rw [← hgx.out]; exact HT1.out.1.lt
  have hhlt : Hid (∀ i, i ≤ m → h i < gx) := Lib.hid (fun i hi => by rw [← hgx.out]; exact (HT1.out.2 i (Nat.zero_le _) hi).2.lt)
  have hrx : gr < gx := by have := hgr.out; omega
  have hr0 : w.heap.size ≤ gr := by rw [hgr.out]; exact Nat.le_refl _
  go_upto_region 4 with fail
  obtain ⟨V, hVe, hBW⟩ : ∃ V : World, Hid (w1.alloc (.cells #[] 3) = V) ∧ Hid (BestI w V g m n h F gr gx (.slice (some ⟨w1.heap.size, 0, none⟩) 0 0) []) := by
    refine ⟨_, Lib.hid rfl, Lib.hid ⟨HT1.out.later ((Below.refl _ _).alloc (Nat.le_refl _) _), ?_, ?_, ?_, ?_⟩⟩
    · rw [← hgx.out]; exact Grow.empty (Nat.le_refl _)
    · have h1 := (bxM_new w 66 (.slice none 0 0) 0).later HB1.out
      rw [hgr.out] at h1
      exact h1.later ((Below.refl _ _).alloc (Nat.le_refl _) _)
    · exact (((Below.refl _ _).alloc (Nat.le_refl _) _).trans (HB1.out.mono (by simp))).alloc (by have := hgr.out; have := hgx.out; omega) _
    · simp [hgx.out]
  rw [hVe.out, hgr.out]
  clear hVe HT1 HB1 hcall
  go_upto_region 5 with fail
  go_loopw [8, 9, 19] (fun v jv iv wr => ∃ (k : Nat), k ≤ m ∧ iv = .int .i64 k ∧ jv = .int .i64 ((ofM s a b k).2 : Nat) ∧ Hid (BestI w wr g m n h F gr gx v (ofM s a b k).1)) (fun _ _ i _ => m - (intOf i).toNat)
  case atStart => exact ⟨0, by omega, rfl, rfl, hBW⟩
  case round =>
    obtain ⟨k, hk, rfl, rfl, HW⟩ := hrel
    clear hBW
    obtain ⟨v, hv⟩ : ∃ v, u8 = v := ⟨_, rfl⟩
    rw [hv] at HW ⊢
    clear hv
    obtain ⟨i1, i2, _⟩ := ofM_inv (s := s) (a := a) (b := b) k (by rw [hm.out]; exact hk)
    have hmi := Lib.hid (@ofM_miss s a b k)
    have hhi := Lib.hid (fun y => @ofM_hit s a b k y)
    have hso := Lib.hid (fun hx => @hit_some s a b k hx (b.length - (ofM s a b k).2) (ofM s a b k).2 (Nat.le_refl _) i1)
    rw [hF.out] at hmi hhi hso
    rw [hn.out] at i1
    by_cases hlt : k < m
    · obtain ⟨J, hJ⟩ : ∃ J, Hid ((ofM s a b k).2 = J) := ⟨_, Lib.hid rfl⟩
      obtain ⟨L0, hL0⟩ : ∃ L0, Hid ((ofM s a b k).1 = L0) := ⟨_, Lib.hid rfl⟩
      rw [hJ.out] at hmi hhi hso i1
      rw [hL0.out] at hmi hhi HW i2
      rw [hJ.out]
      have p0 := HW.out.1.outer (k := k) (Nat.zero_le _) (by omega)
      have p1 := HW.out.1.outer (k := k + 1) (Nat.zero_le _) (by omega)
      have q0 := HW.out.1.at (k := k) (j := J) (Nat.zero_le _) (by omega) i1
      have q1 := HW.out.1.at (k := k + 1) (j := J) (Nat.zero_le _) (by omega) i1
      obtain ⟨f0a, f0b⟩ := HF.out k J
      obtain ⟨f1a, f1b⟩ := HF.out (k + 1) J
      obtain ⟨e0, he0⟩ : ∃ e, Hid (F k J = e) := ⟨_, Lib.hid rfl⟩
      obtain ⟨e1, he1⟩ : ∃ e, Hid (F (k + 1) J = e) := ⟨_, Lib.hid rfl⟩
      by_cases hc : F k J = s + F (k + 1) J
      · have hst := Lib.hid (hmi.out hc)
        rw [he0.out, he1.out] at hc
        rw [he0.out] at q0 f0a f0b
        rw [he1.out] at q1 f1a f1b
        have d1 : (s + e1 == e0) = true := beq_iff_eq.2 hc.symm
        go_upto_region 7 with fail
        go_quiet (fail)
        have HWd : Hid (BestI w (wr.drewN nq) g m n h F gr gx v L0) := Lib.hid (HW.out.drewN nq)
        go_upto_region 8 with fail
        clear p0 p1 q0 q1 HW
        generalize wr.drewN nq = wQ at HWd ⊢
        have hzb : gx ≤ wQ.heap.size := HWd.out.2.2.2.2
        go_wp2_with (first | (at_builtin; refine wpList_pushA rfl (.tmp 40) (.tmp 41) 24 rfl gx 3 _ 1 8 encInt rfl Int_info rfl (by omega) v L0 [-1] 1 rfl rfl rfl HWd.out.2.1 rfl encInt_len (by simp [encInt, Value.oneCell']) (by simp only [List.length_singleton]; omega) (by omega) (by omega) ?_; intro v8 w8 g8 b8 _ _; have HW8 : Hid (BestI w w8 g m n h F gr gx v8 (L0 ++ [-1])) := Lib.hid (HWd.out.push hhlt.out hglt hrx hr0 g8 b8); clear g8 b8) | fail)
        go_roundw
        case rel => exact ⟨k + 1, by omega, by go_num, (by rw [hst.out]), Lib.hid (by rw [hst.out]; exact HW8.out)⟩
        case measure => first | (simp [intOf]; done) | (simp [intOf]; omega)
      · obtain ⟨z, hz1, hz2, hz3⟩ := hso.out (by rw [hm.out]; exact hlt) hc
        obtain ⟨y, hy1, hy2, hy3, hy4⟩ := hit_first (p := hitM s a b k J) (b.length + 1) J z (by omega) hz1 hz3
        have hst := Lib.hid (hhi.out y hc hy1 (by omega) hy3 hy4)
        have hyn : y < n := by rw [← hn.out]; omega
        have Hy3 := Lib.hid hy3
        have Hy4 := Lib.hid hy4
        clear hz1 hz2 hz3 hy3 hy4 hmi hhi hso
        rw [he0.out, he1.out] at hc
        rw [he0.out] at q0 f0a f0b
        rw [he1.out] at q1 f1a f1b
        have d1 : (s + e1 == e0) = false := beq_eq_false_iff_ne.2 (fun x => hc x.symm)
        go_upto_region 7 with fail
        go_quiet (fail)
        have HWd : Hid (BestI w (wr.drewN nq) g m n h F gr gx v L0) := Lib.hid (HW.out.drewN nq)
        clear p0 p1 q0 q1 HW
        generalize wr.drewN nq = wQ at HWd ⊢
        go_upto_region 10 with fail
        go_loopw [11] (fun xv wr2 => ∃ x : Nat, J ≤ x ∧ x ≤ y ∧ xv = .int .i64 x ∧ Hid (BestI w wr2 g m n h F gr gx v L0)) (fun xv _ => n - (intOf xv).toNat)
        case atStart => exact ⟨J, Nat.le_refl _, hy1, rfl, HWd⟩
        case round =>
          obtain ⟨x, hx1, hx2, rfl, HW⟩ := hrel
          clear HWd
          have hxn : x < n := by omega
          have hfr := HP.out.far (i := k) (j := x) (by rw [hm.out]; exact hlt) (by rw [hn.out]; exact hxn)
          obtain ⟨ga, oa, hA, hga, hca⟩ := Ha.out.at (k := k) (by rw [hm.out]; exact hlt)
          obtain ⟨gb, ob, hB, hgb, hcb⟩ := Hb.out.at (k := x) (by rw [hn.out]; exact hxn)
          have ra : wr.cell? ⟨ga, oa + k, none⟩ = some (.int .i64 (a[k]'(by rw [hm.out]; exact hlt))) := by have := (HW.out.2.2.2.1.cell (p := ⟨ga, oa + k * 1 + 0, none⟩) (show ga < w.heap.size by omega)).trans (hca 0 _ rfl); simpa using this
          have rb : wr.cell? ⟨gb, ob + x, none⟩ = some (.int .i64 (b[x]'(by rw [hn.out]; exact hxn))) := by have := (HW.out.2.2.2.1.cell (p := ⟨gb, ob + x * 1 + 0, none⟩) (show gb < w.heap.size by omega)).trans (hcb 0 _ rfl); simpa using this
          have hhit : Hid (hitM s a b k J x ↔ e0 = s * ((x : Int) - (J : Int)) + absV (a[k]'(by rw [hm.out]; exact hlt) - b[x]'(by rw [hn.out]; exact hxn)) + F (k + 1) (x + 1)) := Lib.hid (by
            unfold hitM
            rw [hF.out, he0.out, farM_abs, getD_get (by rw [hm.out]; exact hlt), getD_get (by rw [hn.out]; exact hxn)])
          subst hA hB
          clear hca hcb
          obtain ⟨xa, hxa⟩ : ∃ xa, Hid (a[k]'(by rw [hm.out]; exact hlt) = xa) := ⟨_, Lib.hid rfl⟩
          obtain ⟨xb, hxb⟩ : ∃ xb, Hid (b[x]'(by rw [hn.out]; exact hxn) = xb) := ⟨_, Lib.hid rfl⟩
          rw [hxa.out] at ra hfr hhit
          rw [hxb.out] at rb hfr hhit
          obtain ⟨xa1, xa2, xb1, xb2, u1, u2⟩ := hfr
          obtain ⟨u, hu⟩ : ∃ u, Hid (absV (xa - xb) = u) := ⟨_, Lib.hid rfl⟩
          rw [hu.out] at u1 u2 hhit
          have hFar : Hid (∀ W, Calls Tryz.prog 21 #[.int .i64 (xa - xb)] W fun e w' => e = .returned (.int .i64 u) ∧ W = w') := Lib.hid fun W => by
            have := absF_any (xa - xb) W (by unfold inB; omega)
            rw [hu.out] at this; exact this
          have hws : IntKind.i64.wrap (xa - xb) = xa - xb := IntWalk.i64_in _ (by omega)
          have p0 := HW.out.1.outer (k := k) (Nat.zero_le _) (by omega)
          have p1 := HW.out.1.outer (k := k + 1) (Nat.zero_le _) (by omega)
          have q0 := HW.out.1.at (k := k) (j := J) (Nat.zero_le _) (by omega) i1
          have q3 := HW.out.1.at (k := k + 1) (j := x + 1) (Nat.zero_le _) (by omega) (by omega)
          obtain ⟨f3a, f3b⟩ := HF.out (k + 1) (x + 1)
          obtain ⟨f3, hf3⟩ : ∃ e, Hid (F (k + 1) (x + 1) = e) := ⟨_, Lib.hid rfl⟩
          rw [he0.out] at q0
          rw [hf3.out] at q3 f3a f3b hhit
          have hml : s * ((x : Int) - (J : Int)) ≤ 10000 * 60 := Int.mul_le_mul hs1 (by omega) (by omega) (by omega)
          have hmn : 0 ≤ s * ((x : Int) - (J : Int)) := Int.mul_nonneg hs0 (by omega)
          have hwm : IntKind.i64.wrap (s * ((x : Int) - (J : Int))) = s * ((x : Int) - (J : Int)) := IntWalk.i64_in _ (by omega)
          have hwi : IntKind.i64.wrap ((k : Int) + 1) = (k : Int) + 1 := IntWalk.i64_in _ (by omega)
          have hwj : IntKind.i64.wrap ((x : Int) + 1) = (x : Int) + 1 := IntWalk.i64_in _ (by omega)
          have hwx : IntKind.i64.wrap ((x : Int) - (J : Int)) = (x : Int) - (J : Int) := IntWalk.i64_in _ (by omega)
          have hwt : IntKind.i64.wrap (s * ((x : Int) - (J : Int)) + u) = s * ((x : Int) - (J : Int)) + u := IntWalk.i64_in _ (by omega)
          have hwu : IntKind.i64.wrap (s * ((x : Int) - (J : Int)) + u + f3) = s * ((x : Int) - (J : Int)) + u + f3 := IntWalk.i64_in _ (by omega)
          have ci0 : (0 : Int) ≤ (k : Int) + 1 := by omega
          have cj0 : (0 : Int) ≤ (x : Int) + 1 := by omega
          have ti : ((k : Int) + 1).toNat = k + 1 := by omega
          have tj : ((x : Int) + 1).toNat = x + 1 := by omega
          have cjn : (J : Int) < (n : Int) + 1 := by omega
          have cim : (k : Int) < (m : Int) + 1 := by omega
          by_cases hxy : x = y
          · subst hxy
            have d2 : (s * ((x : Int) - (J : Int)) + u + f3 != e0) = false := by rw [bne_eq_false_iff_eq]; exact (hhit.out.1 Hy3.out).symm
            go_upto_region 10 with fail
            go_quiet ((go_at_call 21; exact Calls.quiet_of_same ((hFar.out _).mono fun _ _ h => ⟨h.1, h.2.symm⟩)))
            have HWd : Hid (BestI w (wr.drewN nq) g m n h F gr gx v L0) := Lib.hid (HW.out.drewN nq)
            clear p0 p1 q0 q3 ra rb HW
            generalize wr.drewN nq = wQ at HWd ⊢
            have hzb : gx ≤ wQ.heap.size := HWd.out.2.2.2.2
            go_wp2_with (first | (at_builtin; refine wpList_pushA rfl (.tmp 80) (.tmp 82) 24 rfl gx 3 _ 1 8 encInt rfl Int_info rfl (by omega) v L0 [(x : Int)] 1 rfl rfl rfl HWd.out.2.1 rfl encInt_len (by simp [encInt, Value.oneCell']) (by simp only [List.length_singleton]; omega) (by omega) (by omega) ?_; intro v8 w8 g8 b8 _ _; have HW8 : Hid (BestI w w8 g m n h F gr gx v8 (L0 ++ [(x : Int)])) := Lib.hid (HWd.out.push hhlt.out hglt hrx hr0 g8 b8); clear g8 b8) | fail)
            go_roundw
            case rel => exact ⟨k + 1, by omega, by go_num, (by rw [hst.out]; refine congrArg _ ?_; simp), Lib.hid (by rw [hst.out]; exact HW8.out)⟩
            case measure => first | (simp [intOf]; done) | (simp [intOf]; omega)
          · have d2 : (s * ((x : Int) - (J : Int)) + u + f3 != e0) = true := by rw [bne_iff_ne]; exact fun e => Hy4.out x hx1 (by omega) (hhit.out.2 e.symm)
            go_upto_region 10 with fail
            go_quiet ((go_at_call 21; exact Calls.quiet_of_same ((hFar.out _).mono fun _ _ h => ⟨h.1, h.2.symm⟩)))
            go_wp2
            go_roundw
            case rel => exact ⟨x + 1, by omega, by omega, by go_num, Lib.hid (HW.out.drewN _)⟩
            case measure => first | (simp [intOf]; done) | (simp [intOf]; omega)
    · obtain rfl : k = m := by omega
      obtain ⟨A', c', hv, ho⟩ := HW.out.2.1.own encInt_len
      rw [i2] at hv
      subst hv
      have p0 := HW.out.1.outer (k := 0) (Nat.le_refl _) (by omega)
      have p1 := HW.out.1.at (k := 0) (j := 0) (Nat.le_refl _) (by omega) (by omega)
      obtain ⟨f0, hf0⟩ : ∃ f, Hid (F 0 0 = f) := ⟨_, Lib.hid rfl⟩
      rw [hf0.out] at p1
      have y0 : wr.cell? ⟨gr, 0, none⟩ = some (.slice none 0 0) := HW.out.2.2.1.cell (i := 0) (by omega)
      have y1 : wr.cell? ⟨gr, 1, none⟩ = some (.int .i64 0) := HW.out.2.2.1.cell (i := 1) (by omega)
      have z0 := HW.out.2.2.1.free (i := 0) (by omega)
      have z1 := HW.out.2.2.1.free (i := 1) (by omega)
      clear hmi hhi hso
      go_wp2
      have hG := (HW.out.2.1.set (p := ⟨gr, 0, none⟩) (show gr < gx by omega) (.slice A' k c')).set (p := ⟨gr, 1, none⟩) (show gr < gx by omega) (.int .i64 f0)
      obtain ⟨A2, c2, hv2, ho2⟩ := hG.own encInt_len
      injection hv2 with hv2 _ _
      subst hv2
      refine bodyPost_ret (v := .agg #[.slice A' k c', .int .i64 f0]) (by simp [results, Tryz.results71, go_sem, y0, y1, z0, z1]) rfl ⟨A', c', by rw [hf0.out], ho2.mono (by omega) (Nat.le_refl _), ?_⟩
      exact (HW.out.2.2.2.1.setCell (p := ⟨gr, 0, none⟩) hr0 _).setCell (p := ⟨gr, 1, none⟩) hr0 _
end Go.Proofs.YtglnehinmdmgmaaGreat

/-
  The arguments of a matching: the contracts of both sides' tests.
-/
namespace Go.Proofs.YtglnehinmdmgmaaGreat
open Go.RowKit
set_option linter.unusedVariables false
set_option linter.unusedSimpArgs false
set_option maxRecDepth 100000




set_option maxHeartbeats 1600000 in
theorem goodMatching_any (a b : List Int) (s : Int) (A B_ : Option Addr) (c c' : Nat) (w : World) (ha : RdL w w.heap.size A 1 encInt a) (hb : RdL w w.heap.size B_ 1 encInt b) (hla : a.length ≤ 1048576) (hlb : b.length ≤ 1048576) : Calls Tryz.prog 70 #[.slice A a.length c, .slice B_ b.length c', .int .i64 s] w fun e w' => e = .returned (.bool (B (askP a b s))) ∧ Below w.heap.size w w' := by
  have Ha := Lib.hid ha
  have Hb := Lib.hid hb
  clear ha hb
  by_cases h_0 : timesP a
  rotate_left
  · have H := Lib.hid h_0
    have e_0 := B_f h_0
    clear h_0
    go_enter Tryz.func70, Tryz.ntmps70
    go_wp2_with (first | (go_at_call 93; with_reducible show Calls _ _ #[Value.slice A a.length c] _ _; refine (iTimes_any a A c w Ha.out hla).mono ?_; rintro e w1 ⟨rfl, hb1⟩) | (go_at_call 93; with_reducible show Calls _ _ #[Value.slice B_ b.length c'] _ _; refine (iTimes_any b B_ c' w1 ((Hb.out.below hb1 (Nat.le_refl _)).more hb1.size) hlb).mono ?_; rintro e w2 ⟨rfl, hb2⟩) | (go_at_call 20; refine (within_any _ _ _ _).mono ?_; rintro e w' ⟨rfl, rfl⟩))
    go_ret
    exact ⟨ret_f (fun x => H.out x.1), (by first | exact hb1.trans (hb2.mono hb1.size) | exact hb1)⟩
  have H_0 := Lib.hid h_0
  have e_0 := B_t h_0
  clear h_0
  by_cases h_1 : timesP b
  rotate_left
  · have H := Lib.hid h_1
    have e_1 := B_f h_1
    clear h_1
    go_enter Tryz.func70, Tryz.ntmps70
    go_wp2_with (first | (go_at_call 93; with_reducible show Calls _ _ #[Value.slice A a.length c] _ _; refine (iTimes_any a A c w Ha.out hla).mono ?_; rintro e w1 ⟨rfl, hb1⟩) | (go_at_call 93; with_reducible show Calls _ _ #[Value.slice B_ b.length c'] _ _; refine (iTimes_any b B_ c' w1 ((Hb.out.below hb1 (Nat.le_refl _)).more hb1.size) hlb).mono ?_; rintro e w2 ⟨rfl, hb2⟩) | (go_at_call 20; refine (within_any _ _ _ _).mono ?_; rintro e w' ⟨rfl, rfl⟩))
    go_ret
    exact ⟨ret_f (fun x => H.out x.2.1), (by first | exact hb1.trans (hb2.mono hb1.size) | exact hb1)⟩
  have H_1 := Lib.hid h_1
  have e_1 := B_t h_1
  clear h_1
  by_cases h_2 : inB s 0 10000
  rotate_left
  · have H := Lib.hid h_2
    have e_2 := B_f h_2
    clear h_2
    go_enter Tryz.func70, Tryz.ntmps70
    go_wp2_with (first | (go_at_call 93; with_reducible show Calls _ _ #[Value.slice A a.length c] _ _; refine (iTimes_any a A c w Ha.out hla).mono ?_; rintro e w1 ⟨rfl, hb1⟩) | (go_at_call 93; with_reducible show Calls _ _ #[Value.slice B_ b.length c'] _ _; refine (iTimes_any b B_ c' w1 ((Hb.out.below hb1 (Nat.le_refl _)).more hb1.size) hlb).mono ?_; rintro e w2 ⟨rfl, hb2⟩) | (go_at_call 20; refine (within_any _ _ _ _).mono ?_; rintro e w' ⟨rfl, rfl⟩))
    go_ret
    exact ⟨ret_f (fun x => H.out x.2.2), (by first | exact hb1.trans (hb2.mono hb1.size) | exact hb1)⟩
  have H_2 := Lib.hid h_2
  have e_2 := B_t h_2
  clear h_2
  go_enter Tryz.func70, Tryz.ntmps70
  go_wp2_with (first | (go_at_call 93; with_reducible show Calls _ _ #[Value.slice A a.length c] _ _; refine (iTimes_any a A c w Ha.out hla).mono ?_; rintro e w1 ⟨rfl, hb1⟩) | (go_at_call 93; with_reducible show Calls _ _ #[Value.slice B_ b.length c'] _ _; refine (iTimes_any b B_ c' w1 ((Hb.out.below hb1 (Nat.le_refl _)).more hb1.size) hlb).mono ?_; rintro e w2 ⟨rfl, hb2⟩) | (go_at_call 20; refine (within_any _ _ _ _).mono ?_; rintro e w' ⟨rfl, rfl⟩))
  go_ret
  exact ⟨ret_t ⟨H_0.out, H_1.out, H_2.out⟩, (by first | exact hb1.trans (hb2.mono hb1.size) | exact hb1)⟩
set_option maxHeartbeats 1600000 in
theorem l22Asked_any (a b : List Int) (s : Int) (A B_ : Option Addr) (c c' : Nat) (w : World) (ha : RdL w w.heap.size A 1 encInt a) (hb : RdL w w.heap.size B_ 1 encInt b) (hla : a.length ≤ 1048576) (hlb : b.length ≤ 1048576) : Calls Tryz.prog 82 #[.slice A a.length c, .slice B_ b.length c', .int .i64 s] w fun e w' => e = .returned (.bool (B (askP a b s))) ∧ Below w.heap.size w w' := by
  have Ha := Lib.hid ha
  have Hb := Lib.hid hb
  clear ha hb
  by_cases h_0 : timesP a
  rotate_left
  · have H := Lib.hid h_0
    have e_0 := B_f h_0
    clear h_0
    go_enter Tryz.func82, Tryz.ntmps82
    go_wp2_with (first | (go_at_call 100; with_reducible show Calls _ _ #[Value.slice A a.length c] _ _; refine (l22Times_any a A c w Ha.out hla).mono ?_; rintro e w1 ⟨rfl, hb1⟩) | (go_at_call 100; with_reducible show Calls _ _ #[Value.slice B_ b.length c'] _ _; refine (l22Times_any b B_ c' w1 ((Hb.out.below hb1 (Nat.le_refl _)).more hb1.size) hlb).mono ?_; rintro e w2 ⟨rfl, hb2⟩) | (go_at_call 53; refine (l1In_any _ _ _ _).mono ?_; rintro e w' ⟨rfl, rfl⟩))
    go_ret
    exact ⟨ret_f (fun x => H.out x.1), (by first | exact hb1.trans (hb2.mono hb1.size) | exact hb1)⟩
  have H_0 := Lib.hid h_0
  have e_0 := B_t h_0
  clear h_0
  by_cases h_1 : timesP b
  rotate_left
  · have H := Lib.hid h_1
    have e_1 := B_f h_1
    clear h_1
    go_enter Tryz.func82, Tryz.ntmps82
    go_wp2_with (first | (go_at_call 100; with_reducible show Calls _ _ #[Value.slice A a.length c] _ _; refine (l22Times_any a A c w Ha.out hla).mono ?_; rintro e w1 ⟨rfl, hb1⟩) | (go_at_call 100; with_reducible show Calls _ _ #[Value.slice B_ b.length c'] _ _; refine (l22Times_any b B_ c' w1 ((Hb.out.below hb1 (Nat.le_refl _)).more hb1.size) hlb).mono ?_; rintro e w2 ⟨rfl, hb2⟩) | (go_at_call 53; refine (l1In_any _ _ _ _).mono ?_; rintro e w' ⟨rfl, rfl⟩))
    go_ret
    exact ⟨ret_f (fun x => H.out x.2.1), (by first | exact hb1.trans (hb2.mono hb1.size) | exact hb1)⟩
  have H_1 := Lib.hid h_1
  have e_1 := B_t h_1
  clear h_1
  by_cases h_2 : inB s 0 10000
  rotate_left
  · have H := Lib.hid h_2
    have e_2 := B_f h_2
    clear h_2
    go_enter Tryz.func82, Tryz.ntmps82
    go_wp2_with (first | (go_at_call 100; with_reducible show Calls _ _ #[Value.slice A a.length c] _ _; refine (l22Times_any a A c w Ha.out hla).mono ?_; rintro e w1 ⟨rfl, hb1⟩) | (go_at_call 100; with_reducible show Calls _ _ #[Value.slice B_ b.length c'] _ _; refine (l22Times_any b B_ c' w1 ((Hb.out.below hb1 (Nat.le_refl _)).more hb1.size) hlb).mono ?_; rintro e w2 ⟨rfl, hb2⟩) | (go_at_call 53; refine (l1In_any _ _ _ _).mono ?_; rintro e w' ⟨rfl, rfl⟩))
    go_ret
    exact ⟨ret_f (fun x => H.out x.2.2), (by first | exact hb1.trans (hb2.mono hb1.size) | exact hb1)⟩
  have H_2 := Lib.hid h_2
  have e_2 := B_t h_2
  clear h_2
  go_enter Tryz.func82, Tryz.ntmps82
  go_wp2_with (first | (go_at_call 100; with_reducible show Calls _ _ #[Value.slice A a.length c] _ _; refine (l22Times_any a A c w Ha.out hla).mono ?_; rintro e w1 ⟨rfl, hb1⟩) | (go_at_call 100; with_reducible show Calls _ _ #[Value.slice B_ b.length c'] _ _; refine (l22Times_any b B_ c' w1 ((Hb.out.below hb1 (Nat.le_refl _)).more hb1.size) hlb).mono ?_; rintro e w2 ⟨rfl, hb2⟩) | (go_at_call 53; refine (l1In_any _ _ _ _).mono ?_; rintro e w' ⟨rfl, rfl⟩))
  go_ret
  exact ⟨ret_t ⟨H_0.out, H_1.out, H_2.out⟩, (by first | exact hb1.trans (hb2.mono hb1.size) | exact hb1)⟩
end Go.Proofs.YtglnehinmdmgmaaGreat
