import Derived.Test.YtglnehinmdmgmaaGreatMErrorsL13
import Derived.Test.YtglnehinmdmgmaaGreatMErrorsL14
import Derived.Test.YtglnehinmdmgmaaGreatMErrorsL05
import Derived.Test.YtglnehinmdmgmaaGreatMErrorsL08
import Derived.Test.YtglnehinmdmgmaaGreatMErrorsL21
import Derived.Deep.QuietTactic
/-
  Two lists of strikes merged by the reference: what is wanted of it for a draw; and the ideal strikes of whatever rows.
-/
namespace Go.Proofs.YtglnehinmdmgmaaGreat
open Go.RowKit
set_option linter.unusedVariables false
set_option linter.unusedSimpArgs false
set_option maxRecDepth 100000

section
variable {P : Program} {ops : Array Oper} {rest : List Oper} {o : Oper} {a : Act} {Q : Exit → Act → World → Prop} {w : World}
/-- 'append(nil, x..)' where x is empty: nil. -/
theorem run_append_nils (w : World) (t ty e : TypeId) (i : TypeInfo) (ht : P.underlying t = some (.slice e)) (hi : P.info? e = some i) (A : Option Addr) (c : Nat) :
    (Builtin.append_ #[t, t] ty #[.slice none 0 0, .slice A 0 c]).run P w = .ok (.slice none 0 0) w := by
  cases A with
  | none => simp [Builtin.append_, run_underlying ht, sizeOf, typeInfo, hi, Builtin.lenOf, Builtin.firstCells]
  | some a =>
    have hfc := run_firstCells_some (P := P) w i.size 0 a 0 c [] (by simp) (by simp)
    simp [Builtin.append_, run_underlying ht, sizeOf, typeInfo, hi, Builtin.lenOf, hfc]
theorem wpList_pushNils (hgd : o.guard = none) (s x : Operand) (t : TypeId) (ho : o.op = .call { callee := .builtin .append, args := #[s, x], argTypes := #[t, t] })
    (e : TypeId) (ht : P.underlying t = some (.slice e)) (hi : (P.info? e).isSome) {A : Option Addr} {c : Nat} (hs : a.eval s = .slice none 0 0) (hx : a.eval x = .slice A 0 c)
    (h : wpList P ops Q rest (a.put o.dst (.slice none 0 0)) w) : wpList P ops Q (o :: rest) a w := by
  obtain ⟨i, hi⟩ := Option.isSome_iff_exists.1 hi
  refine wpList_plain hgd fun K hK => ?_
  have hr := run_append_nils (P := P) w t o.type e i ht hi A c
  unfold Oper.wp execOp
  simp only [ho, resolve, invoke, builtin, Sem.run_bind, Sem.run_pure, Result.andThen_ok, List.map_toArray, List.map_cons, List.map_nil, hs, hx, hr]
  exact hK _ _ h
/-- 'append(v, x..)': v a slice of the call's own, x read from elsewhere, empty or not. -/
theorem wpList_pushAny {α : Type} (hgd : o.guard = none) (s x : Operand) (t : TypeId) (ho : o.op = .call { callee := .builtin .append, args := #[s, x], argTypes := #[t, t] })
    (base : Nat) (e : TypeId) (z : Value) (size bytes : Nat) (enc : α → List Value)
    (ht : P.underlying t = some (.slice e)) (hinfo : (P.info? e).map (fun i => (i.zero, i.size, i.bytes)) = some (some z, size, bytes)) (hzs : z.cells.size = size) (hsz : 0 < size)
    (v : Value) (l ys : List α) (A : Option Addr) (c b : Nat) (hs : a.eval s = v) (hx : a.eval x = .slice A ys.length c) (hr : RdL w b A size enc ys)
    (hown : Grow w base e size enc v l) (henc : ∀ x, (enc x).length = size) (h1 : ∀ x, ∀ u ∈ enc x, u.oneCell' = true)
    (hn : l.length + ys.length ≤ 1000000000) (hb : bytes ≤ 1000) (hbase : base ≤ w.heap.size)
    (h : ∀ v' w', Grow w' base e size enc v' (l ++ ys) → Below base w w' → wpList P ops Q rest (a.put o.dst v') w') :
    wpList P ops Q (o :: rest) a w := by
  by_cases hne : 0 < ys.length
  · exact wpList_pushAllA hgd s x t ho base e z size bytes enc ht hinfo hzs hsz v l ys A c b hs hx hr hne hown henc h1 hn hb hbase (fun v' w' h1 h2 _ _ => h v' w' h1 h2)
  · obtain rfl : ys = [] := List.eq_nil_of_length_eq_zero (by omega)
    have hi : (P.info? e).isSome := by
      obtain ⟨i, hi, _⟩ := Option.map_eq_some_iff.1 hinfo
      rw [hi]; rfl
    have hk := h v w (by rw [List.append_nil]; exact hown) (Below.refl _ _)
    rcases hown.2 with ⟨hv, _⟩ | ⟨g, cap, cur, hv, _, _, hcap, _⟩
    · subst hv
      exact wpList_pushNils hgd s x t ho e ht hi hs hx hk
    · subst hv
      exact wpList_pushNone hgd s x t ho e ht hi hs hx hcap hk
end

set_option maxHeartbeats 3200000 in
theorem l21Merge_any (a b : List Stk) (A B_ : Option Addr) (c c' : Nat) (w : World) (ha : RdL w w.heap.size A 2 Stk.enc a) (hb : RdL w w.heap.size B_ 2 Stk.enc b) (hca : a.length ≤ c) (hcb : b.length ≤ c') (hl : a.length + b.length ≤ 1000000) :
    Calls Tryz.prog 55 #[.slice A a.length c, .slice B_ b.length c'] w fun e w' => ∃ (L : List Stk) (v : Value), e = .returned v ∧ L.length = a.length + b.length ∧ Grow w' w.heap.size 81 2 Stk.enc v L ∧ Below w.heap.size w w' := by
  have Ha := Lib.hid ha
  have Hb := Lib.hid hb
  clear ha hb
  obtain ⟨N, hN⟩ : ∃ N, Hid (a.length + b.length = N) := ⟨_, Lib.hid rfl⟩
  have hNn : N ≤ 1000000 := by have := hN.out; omega
  have hone : Hid (∀ x : Stk, ∀ u ∈ Stk.enc x, u.oneCell' = true) := Lib.hid (by intro x u hu; simp [Stk.enc] at hu; rcases hu with rfl | rfl <;> rfl)
  go_enter Tryz.func55, Tryz.ntmps55
  go_upto_region 2 with fail
  go_loopw [0, 1, 5] (fun av bv ov wr => ∃ (a2 b2 L : List Stk) (A2 B2 : Option Addr) (d d' : Nat), av = .slice A2 a2.length d ∧ bv = .slice B2 b2.length d' ∧ a2.length ≤ d ∧ b2.length ≤ d' ∧ Hid (L.length + (a2.length + b2.length) = N) ∧ Hid (RdL wr w.heap.size A2 2 Stk.enc a2) ∧ Hid (RdL wr w.heap.size B2 2 Stk.enc b2) ∧ Hid (Grow wr w.heap.size 81 2 Stk.enc ov L) ∧ Hid (Below w.heap.size w wr)) (fun av bv _ _ => lenV av + lenV bv)
  case atStart => exact ⟨a, b, [], A, B_, c, c', rfl, rfl, hca, hcb, Lib.hid (by have := hN.out; simpa using this), Ha, Hb, Lib.hid Grow.nil, Lib.hid (Below.refl _ _)⟩
  case round =>
    obtain ⟨a2, b2, L, A2, B2, d, d', rfl, rfl, hd, hd', hn, HA, HB, HG, HW⟩ := hrel
    have hz := HW.out.size
    have hnl : L.length + (a2.length + b2.length) ≤ 1000000 := by have := hn.out; omega
    obtain ⟨v5, hv5⟩ : ∃ v, u5 = v := ⟨_, rfl⟩
    rw [hv5] at HG ⊢
    clear hv5
    by_cases hex : 0 < a2.length ∧ 0 < b2.length
    · obtain ⟨h1, h2⟩ := hex
      cases a2 with
      | nil => simp at h1
      | cons x a3 =>
        cases b2 with
        | nil => simp at h2
        | cons y b3 =>
          obtain ⟨pg, po, pA, pl, pc⟩ := (HA.out).at (k := 0) (by simp); have pr0 := pc 0 _ rfl; have pr1 := pc 1 _ rfl; simp only [Nat.zero_mul, Nat.add_zero, Nat.zero_add, List.getElem_cons_zero] at pr0 pr1; clear pc
          obtain ⟨qg, qo, qA, ql, qc⟩ := (HB.out).at (k := 0) (by simp); have qr0 := qc 0 _ rfl; have qr1 := qc 1 _ rfl; simp only [Nat.zero_mul, Nat.add_zero, Nat.zero_add, List.getElem_cons_zero] at qr0 qr1; clear qc
          subst pA qA
          have HA3 := Lib.hid (show RdL wr w.heap.size (some ⟨pg, po + 2, none⟩) 2 Stk.enc a3 from HA.out.tailN)
          have HB3 := Lib.hid (show RdL wr w.heap.size (some ⟨qg, qo + 2, none⟩) 2 Stk.enc b3 from HB.out.tailN)
          rw [List.length_cons] at hd hnl hn ⊢
          rw [List.length_cons] at hd' hnl hn ⊢
          have t1 : (0 : Int) < (a3.length : Int) + 1 := by omega
          have t2 : (0 : Int) < (b3.length : Int) + 1 := by omega
          by_cases hc : y.at_ < x.at_
          · go_wp2
            go_quiet (fail)
            have s0 : (wr.drewN nq).cell? ⟨qg, qo, none⟩ = some (.int .i64 y.bell) := qr0
            have s1 : (wr.drewN nq).cell? ⟨qg, qo + 1, none⟩ = some (.int .i64 y.at_) := qr1
            clear pr0 pr1 qr0 qr1
            go_wp2_with (first | (at_builtin; refine wpList_pushA rfl (.tmp 23) (.tmp 27) 37 rfl w.heap.size 81 _ 2 16 Stk.enc rfl Strike_info rfl (by omega) v5 L [⟨y.bell, y.at_⟩] 1 rfl rfl (by simp) (HG.out.drewN nq) rfl Stk_enc_len (by simp [Value.oneCell']) (by simp only [List.length_singleton]; omega) (by omega) (by simpa using hz) ?_; intro v8 w8 g8 b8 _ _; have HG8 := Lib.hid g8; have HB8 := Lib.hid b8; clear g8 b8) | fail)
            go_roundw
            case rel => exact ⟨x :: a3, b3, L ++ [⟨y.bell, y.at_⟩], _, _, _, _, rfl, rfl, by simp; omega, by omega, Lib.hid (by have := hn.out; simp; omega), Lib.hid ((HA.out.drewN nq).below HB8.out (Nat.le_refl _)), Lib.hid (by split; exact .inl (List.eq_nil_of_length_eq_zero (by omega)); exact (HB3.out.drewN nq).below HB8.out (Nat.le_refl _)), HG8, Lib.hid ((below_drewN HW.out nq).trans HB8.out)⟩
            case measure => simp [lenV] <;> omega
          · go_wp2
            go_quiet (fail)
            have s0 : (wr.drewN nq).cell? ⟨pg, po, none⟩ = some (.int .i64 x.bell) := pr0
            have s1 : (wr.drewN nq).cell? ⟨pg, po + 1, none⟩ = some (.int .i64 x.at_) := pr1
            clear pr0 pr1 qr0 qr1
            go_wp2_with (first | (at_builtin; refine wpList_pushA rfl (.tmp 31) (.tmp 35) 37 rfl w.heap.size 81 _ 2 16 Stk.enc rfl Strike_info rfl (by omega) v5 L [⟨x.bell, x.at_⟩] 1 rfl rfl (by simp) (HG.out.drewN nq) rfl Stk_enc_len (by simp [Value.oneCell']) (by simp only [List.length_singleton]; omega) (by omega) (by simpa using hz) ?_; intro v8 w8 g8 b8 _ _; have HG8 := Lib.hid g8; have HB8 := Lib.hid b8; clear g8 b8) | fail)
            go_roundw
            case rel => exact ⟨a3, y :: b3, L ++ [⟨x.bell, x.at_⟩], _, _, _, _, rfl, rfl, by omega, by simp; omega, Lib.hid (by have := hn.out; simp; omega), Lib.hid (by split; exact .inl (List.eq_nil_of_length_eq_zero (by omega)); exact (HA3.out.drewN nq).below HB8.out (Nat.le_refl _)), Lib.hid ((HB.out.drewN nq).below HB8.out (Nat.le_refl _)), HG8, Lib.hid ((below_drewN HW.out nq).trans HB8.out)⟩
            case measure => simp [lenV] <;> omega
    · have hx2 : Hid (¬ (0 < a2.length ∧ 0 < b2.length)) := Lib.hid hex
      have hcase : ¬ (0 : Int) < (a2.length : Int) ∨ ((0 : Int) < (a2.length : Int) ∧ ¬ (0 : Int) < (b2.length : Int)) := by omega
      clear hex
      rcases hcase with h1 | ⟨h1, h2⟩
      all_goals
        go_wp2_with (first
          | (at_builtin; refine wpList_pushAny rfl (.tmp 39) (.tmp 40) 37 rfl w.heap.size 81 _ 2 16 Stk.enc rfl Strike_info rfl (by omega) v5 L a2 A2 d w.heap.size rfl rfl HA.out HG.out Stk_enc_len hone.out (by omega) (by omega) hz ?_; intro v8 w8 g8 b8; have HG8 := Lib.hid g8; have HB8 := Lib.hid b8; have hz8 := Nat.le_trans hz b8.size; have HB2 := Lib.hid (HB.out.below b8 (Nat.le_refl _)); clear g8 b8)
          | (at_builtin; refine wpList_pushAny rfl (.tmp 41) (.tmp 42) 37 rfl w.heap.size 81 _ 2 16 Stk.enc rfl Strike_info rfl (by omega) v8 (L ++ a2) b2 B2 d' w.heap.size rfl rfl HB2.out HG8.out Stk_enc_len hone.out (by simp; omega) (by omega) hz8 ?_; intro v9 w9 g9 b9; have HG9 := Lib.hid g9; have HB9 := Lib.hid b9; clear g9 b9)
          | fail)
        go_ret
        exact ⟨_, _, rfl, by have := hn.out; have := hN.out; simp; omega, HG9.out, (HW.out.trans HB8.out).trans HB9.out⟩
theorem l1AtD_ex (s : ByteArray) (k : Nat) (w : World) (h2 : k < s.size) (hs : s.size ≤ 8) : Calls Tryz.prog 25 #[.string s, .int .i64 ((k : Int) + 1)] w fun e w' => ∃ v, e = .returned v ∧ ((∃ x : Int, v = .int .i64 x) ∧ w' = w) := by
  have h0 := bat_lo s k
  have h1 := bat_hi s k
  have hw : IntKind.i64.wrap ((k : Int) + 1 - 1) = (k : Int) := by rw [IntWalk.i64_in _ (by omega)]; omega
  have hw2 : IntKind.i64.wrap (k : Int) = (k : Int) := IntWalk.i64_in _ (by omega)
  have hk : (k : Int) + 1 - 1 = k := by omega
  go_enter Tryz.func25, Tryz.ntmps25
  go_wp2
  go_ret
  exact ⟨_, rfl, ⟨_, rfl⟩, rfl⟩





set_option maxHeartbeats 3200000 in
theorem l21Ideal_ex (st gap hand : Int) (rows : List ByteArray) (A : Option Addr) (c : Nat) (w : World) (h : RdL w w.heap.size A 1 encString rows) (hl : rows.length ≤ 12) (hs : ∀ x ∈ rows, x.size ≤ 8) : Calls Tryz.prog 54 #[.agg #[.int .i64 st, .int .i64 gap, .int .i64 hand], .slice A rows.length c] w fun e w' => ∃ (l : List Stk) (A' : Option Addr) (c' : Nat), e = .returned (.slice A' l.length c') ∧ l.length ≤ 96 ∧ OwnL w' w.heap.size w'.heap.size A' 2 Stk.enc l ∧ Below w.heap.size w w' := by
  have H := Lib.hid h
  have Hs := Lib.hid hs
  clear h hs
  obtain ⟨bx, hbx⟩ : ∃ b, Hid (w.heap.size = b) := ⟨_, Lib.hid rfl⟩
  go_enter Tryz.func54, Tryz.ntmps54
  go_upto_region 3 with fail
  obtain ⟨V, hVe, HBV, HCV, hbl⟩ : ∃ V : World, Hid (w.alloc (.cells #[.int .i64 st, .int .i64 gap, .int .i64 hand] 33) = V) ∧ Hid (Below w.heap.size w V) ∧ Hid (Cells V bx 3 (fun i => (#[Value.int .i64 st, .int .i64 gap, .int .i64 hand] : Array Value).getD i undef)) ∧ bx < V.heap.size := ⟨_, Lib.hid rfl, Lib.hid ((Below.refl _ _).alloc (Nat.le_refl _) _), Lib.hid (by rw [← hbx.out]; exact box3_new w _ _ _ _), by simp [hbx.out]⟩
  rw [hVe.out, hbx.out]
  clear hVe
  obtain ⟨b9, hb9⟩ : ∃ b, Hid (V.heap.size = b) := ⟨_, Lib.hid rfl⟩
  rw [hb9.out] at hbl
  have hwb : w.heap.size ≤ b9 := by have := hbx.out; omega
  go_loopw [5, 11] (fun v iv wr => ∃ (k : Nat) (L : List Stk), k ≤ rows.length ∧ L.length ≤ 8 * k ∧ iv = .int .i64 k ∧ Hid (Grow wr b9 81 2 Stk.enc v L) ∧ Hid (Cells wr bx 3 (fun i => (#[Value.int .i64 st, .int .i64 gap, .int .i64 hand] : Array Value).getD i undef)) ∧ Hid (Below w.heap.size w wr) ∧ b9 ≤ wr.heap.size) (fun _ i _ => rows.length - (intOf i).toNat)
  case atStart => exact ⟨0, [], by omega, by simp, by rfl, Lib.hid Grow.nil, HCV, HBV, by rw [hb9.out]; exact Nat.le_refl _⟩
  case round =>
    obtain ⟨k, L0, hk, hL0, rfl, HG, HC, HB, hz9⟩ := hrel
    clear HCV HBV
    by_cases hlt : k < rows.length
    · obtain ⟨gr, off, hA, hgr, hcell⟩ := H.out.at hlt
      have r0 : wr.cell? ⟨gr, off + k, none⟩ = some (.string rows[k]) := by have := (HB.out.cell (p := ⟨gr, off + k * 1 + 0, none⟩) hgr).trans (hcell 0 _ rfl); simpa using this
      subst hA
      have hr8 := Hs.out _ (List.getElem_mem hlt)
      obtain ⟨r, hr⟩ : ∃ r, Hid (rows[k] = r) := ⟨_, Lib.hid rfl⟩
      rw [hr.out] at r0 hr8
      clear hcell
      go_upto_region 6 with fail
      clear r0
      go_loopw [5, 8] (fun v pv wr2 => ∃ (p : Nat) (L : List Stk), p ≤ r.size ∧ L.length ≤ 8 * k + p ∧ pv = .int .i64 ((p : Int) + 1) ∧ Hid (Grow wr2 b9 81 2 Stk.enc v L) ∧ Hid (Cells wr2 bx 3 (fun i => (#[Value.int .i64 st, .int .i64 gap, .int .i64 hand] : Array Value).getD i undef)) ∧ Hid (Below w.heap.size w wr2) ∧ b9 ≤ wr2.heap.size) (fun _ i _ => r.size + 1 - (intOf i).toNat)
      case atStart => exact ⟨0, L0, by omega, by omega, by rfl, HG, HC, HB, hz9⟩
      case round =>
        obtain ⟨p, L, hp, hL, rfl, HG2, HC2, HB2, hz9⟩ := hrel
        clear HG HC HB
        obtain ⟨v6, hv6⟩ : ∃ v, u5 = v := ⟨_, rfl⟩
        rw [hv6] at HG2 ⊢
        clear hv6
        by_cases hlp : p < r.size
        · have Hcall : Hid (∀ W, Calls Tryz.prog 32 #[.agg #[.int .i64 st, .int .i64 gap, .int .i64 hand], .int .i64 (r.size : Int), .int .i64 (k : Int), .int .i64 ((p : Int) + 1)] W fun e w' => ∃ v, e = .returned v ∧ ((∃ x : Int, v = .int .i64 x) ∧ Below W.heap.size W w')) := Lib.hid fun W => (l21Blow_ex st gap hand (r.size : Int) (k : Int) ((p : Int) + 1) W).mono fun e w' ⟨x, h1, h2⟩ => ⟨_, h1, ⟨x, rfl⟩, h2⟩
          have Hat : Hid (∀ W, Calls Tryz.prog 25 #[.string r, .int .i64 ((p : Int) + 1)] W fun e w' => ∃ v, e = .returned v ∧ ((∃ x : Int, v = .int .i64 x) ∧ w' = W)) := Lib.hid fun W => l1AtD_ex r p W hlp hr8
          have hbl2 : bx < wr.heap.size := HC2.out.lt
          have hpr : (p : Int) + 1 ≤ (r.size : Int) := by omega
          go_upto_region 8 with fail
          have b0 : wr.drew.cell? ⟨bx, 0, none⟩ = some (.int .i64 st) := (HC2.out.later (Below.refl _ _).drew).cell (i := 0) (by omega); have b1 : wr.drew.cell? ⟨bx, 1, none⟩ = some (.int .i64 gap) := (HC2.out.later (Below.refl _ _).drew).cell (i := 1) (by omega); have b2 : wr.drew.cell? ⟨bx, 2, none⟩ = some (.int .i64 hand) := (HC2.out.later (Below.refl _ _).drew).cell (i := 2) (by omega)
          go_region_law (first
            | (refine step_callsX rfl 25 rfl #[.string r, .int .i64 ((p : Int) + 1)] (by go_simp) (Hat.out _) ?_; rintro v wA ⟨⟨xa, rfl⟩, rfl⟩)
            | (refine step_callsX rfl 32 rfl #[.agg #[.int .i64 st, .int .i64 gap, .int .i64 hand], .int .i64 (r.size : Int), .int .i64 (k : Int), .int .i64 ((p : Int) + 1)] (by go_simp) (Hcall.out _) ?_; rintro v wA ⟨⟨xb, rfl⟩, hbA⟩; have HBA : Hid (Below wr.heap.size wr wA) := Lib.hid ((Below.refl _ _).drew.trans hbA); clear hbA)
            | (refine step_pushA rfl (.tmp 22) (.tmp 33) 37 rfl b9 81 _ 2 16 Stk.enc rfl Strike_info rfl (by omega) v6 L [⟨xa, xb⟩] 1 rfl rfl (by simp) (HG2.out.later HBA.out) rfl Stk_enc_len (by simp [Value.oneCell']) (by simp) (by simp only [List.length_singleton]; omega) (by omega) (by have := HBA.out.size; omega) ?_; intro v8 w8 g8 b8 _ _; have HG8 := Lib.hid g8; have HC8 := Lib.hid ((HC2.out.later HBA.out).below b8 (by omega)); have HB8 := Lib.hid ((HB2.out.trans (HBA.out.mono HB2.out.size)).trans (b8.mono hwb)); have hz8 : b9 ≤ w8.heap.size := Nat.le_trans (by have := HBA.out.size; omega) b8.size; clear g8 b8)
            | fail)
          all_goals
            go_wp2
            go_roundw
            case rel => exact ⟨p + 1, _, by omega, by rw [List.length_append, List.length_singleton]; omega, by refine congrArg (Value.int .i64) ?_; omega, HG8, HC8, HB8, hz8⟩
            case measure => simp [intOf]; omega
        · obtain rfl : p = r.size := by omega
          have hpr : ¬ (r.size : Int) + 1 ≤ (r.size : Int) := by omega
          go_wp2
          go_roundw
          case rel => exact ⟨k + 1, L, by omega, by omega, by go_num, HG2, HC2, HB2, hz9⟩
          case measure => simp [intOf]; omega
    · obtain rfl : k = rows.length := by omega
      obtain ⟨A', c', rfl, ho⟩ := HG.out.own Stk_enc_len
      have HO := Lib.hid (ho.mono hwb (Nat.le_refl _))
      clear ho
      go_wp2
      go_ret
      exact ⟨L0, A', c', rfl, by omega, HO.out, HB.out⟩
end Go.Proofs.YtglnehinmdmgmaaGreat
