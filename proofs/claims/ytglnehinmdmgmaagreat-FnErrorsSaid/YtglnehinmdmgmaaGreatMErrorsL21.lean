import Derived.Test.YtglnehinmdmgmaaGreatMErrorsL20
import Derived.Test.YtglnehinmdmgmaaGreatMErrorsL09
import Derived.Test.YtglnehinmdmgmaaGreatMErrorsL04
import Derived.Test.YtglnehinmdmgmaaGreatMErrorsL05
import Derived.Test.YtglnehinmdmgmaaGreatMErrorsL14
import Derived.Test.YtglnehinmdmgmaaGreatMErrorsL03
import Derived.Deep.RegionLaw
/-
  The ideal strikes of rows: the contracts of both sides.
-/
namespace Go.Proofs.YtglnehinmdmgmaaGreat
open Go.RowKit
set_option linter.unusedVariables false
set_option linter.unusedSimpArgs false
set_option maxRecDepth 100000

/-- The ideal strikes are there. -/
def idP (st gap hand : Int) (rows : List ByteArray) : Prop := beatP (st, gap, hand) ∧ rowsP rows ∧ strikesP (idealL st gap hand rows rows.length)
open Classical in
noncomputable def ideR (st gap hand : Int) (rows : List ByteArray) : List Stk × Bool := if idP st gap hand rows then (idealL st gap hand rows rows.length, true) else ([], false)
theorem ideR_y {st gap hand : Int} {rows : List ByteArray} (h : idP st gap hand rows) : ideR st gap hand rows = (idealL st gap hand rows rows.length, true) := if_pos h
theorem ideR_n {st gap hand : Int} {rows : List ByteArray} (h : ¬ idP st gap hand rows) : ideR st gap hand rows = ([], false) := if_neg h
def IdeC (R : List Stk × Bool) (w : World) (e : Ending) (w' : World) : Prop := ∃ (A' : Option Addr) (c' : Nat), e = .returned (.tuple #[.slice A' R.1.length c', .bool R.2]) ∧ RdL w' w'.heap.size A' 2 Stk.enc R.1 ∧ Below w.heap.size w w'
theorem IdeC.no {R : List Stk × Bool} {w w' : World} {e : Ending} (hR : R = ([], false)) (he : e = .returned (.tuple #[.slice none 0 0, .bool false])) (hb : Below w.heap.size w w') : IdeC R w e w' := by
  subst hR; exact ⟨none, 0, he, .inl rfl, hb⟩
theorem IdeC.yes {R : List Stk × Bool} {w w' : World} {e : Ending} {l : List Stk} {A : Option Addr} {c n : Nat} (hR : R = (l, true)) (hn : n = l.length) (he : e = .returned (.tuple #[.slice A n c, .bool true])) (hr : RdL w' w'.heap.size A 2 Stk.enc l) (hb : Below w.heap.size w w') : IdeC R w e w' := by
  subst hR; subst hn; exact ⟨A, c, he, hr, hb⟩
theorem box3_new (w : World) (T : TypeId) (a b c : Value) : Cells (w.alloc (.cells #[a, b, c] T)) w.heap.size 3 (fun i => (#[a, b, c] : Array Value).getD i undef) :=
  Cells.new _ _ _ 3 _ (fun i hi => by rcases (show i = 0 ∨ i = 1 ∨ i = 2 by omega) with rfl | rfl | rfl <;> rfl)







set_option maxHeartbeats 3200000 in
theorem iIdeal_any (st gap hand : Int) (rows : List ByteArray) (A : Option Addr) (c : Nat) (w : World) (h : RdL w w.heap.size A 1 encString rows) (hl : rows.length ≤ 1048576) (hs : ∀ x ∈ rows, String_small 1048576 x) : Calls Tryz.prog 56 #[.agg #[.int .i64 st, .int .i64 gap, .int .i64 hand], .slice A rows.length c] w fun e w' => IdeC (ideR st gap hand rows) w e w' := by
  have H := Lib.hid h
  have Hs := Lib.hid hs
  clear h hs
  by_cases hb : beatP (st, gap, hand)
  rotate_left
  · have e1 := B_f hb
    have Hn := Lib.hid (ideR_n (st := st) (gap := gap) (hand := hand) (rows := rows) (fun x => hb x.1))
    clear hb
    go_enter Tryz.func56, Tryz.ntmps56
    go_wp2_with (first | (go_at_call 29; refine (goodBeat_any (st, gap, hand) _).mono ?_; rintro e w1 ⟨rfl, hb1⟩) | fail)
    go_ret2
    exact IdeC.no Hn.out rfl (((Below.refl _ _).alloc (Nat.le_refl _) _).trans (hb1.mono (by simp)))
  have e1 := B_t hb
  have HBt := Lib.hid hb
  clear hb
  by_cases hr : rowsP rows
  rotate_left
  · have e2 := B_f hr
    have Hn := Lib.hid (ideR_n (st := st) (gap := gap) (hand := hand) (rows := rows) (fun x => hr x.2.1))
    clear hr
    go_enter Tryz.func56, Tryz.ntmps56
    go_wp2_with (first | (go_at_call 29; refine (goodBeat_any (st, gap, hand) _).mono ?_; rintro e w1 ⟨rfl, hb1⟩; have HBw := Lib.hid (((Below.refl w.heap.size w).alloc (Nat.le_refl _) (.cells #[.int .i64 st, .int .i64 gap, .int .i64 hand] 33)).trans (hb1.mono (by simp))); clear hb1) | (go_at_call 18; refine (goodRows_any rows A c _ ((H.out.below HBw.out (Nat.le_refl _)).more HBw.out.size) hl Hs.out).mono ?_; rintro e w2 ⟨rfl, rfl⟩) | fail)
    go_ret2
    exact IdeC.no Hn.out rfl HBw.out
  have e2 := B_t hr
  have HR := Lib.hid hr
  clear hr
  obtain ⟨bx, hbx⟩ : ∃ b, Hid (w.heap.size = b) := ⟨_, Lib.hid rfl⟩
  go_enter Tryz.func56, Tryz.ntmps56
  go_upto_region 3 with (first | (go_at_call 29; refine (goodBeat_any (st, gap, hand) _).mono ?_; rintro e w1 ⟨rfl, hb1⟩; have HBw := Lib.hid (((Below.refl w.heap.size w).alloc (Nat.le_refl _) (.cells #[.int .i64 st, .int .i64 gap, .int .i64 hand] 33)).trans (hb1.mono (by simp))); have HC1 : Hid (Cells w1 w.heap.size 3 (fun i => (#[Value.int .i64 st, .int .i64 gap, .int .i64 hand] : Array Value).getD i undef)) := Lib.hid ((box3_new w _ _ _ _).later hb1); have hz1 := hb1.size; clear hb1) | (go_at_call 18; refine (goodRows_any rows A c _ ((H.out.below HBw.out (Nat.le_refl _)).more HBw.out.size) hl Hs.out).mono ?_; rintro e w2 ⟨rfl, rfl⟩) | fail)
  have hbl : bx < w1.heap.size := by rw [← hbx.out]; simp at hz1; omega
  rw [hbx.out] at HC1
  rw [hbx.out]
  obtain ⟨b9, hb9⟩ : ∃ b, Hid (w1.heap.size = b) := ⟨_, Lib.hid rfl⟩
  go_upto_region 5 with fail
  rw [hb9.out] at hbl
  go_loopw [6, 21] (fun v iv wr => ∃ k : Nat, k ≤ rows.length ∧ iv = .int .i64 k ∧ Hid (Grow wr b9 81 2 Stk.enc v (idealL st gap hand rows k)) ∧ Hid (Cells wr bx 3 (fun i => (#[Value.int .i64 st, .int .i64 gap, .int .i64 hand] : Array Value).getD i undef)) ∧ Hid (Below w.heap.size w wr) ∧ b9 ≤ wr.heap.size) (fun _ i _ => rows.length - (intOf i).toNat)
  case atStart => exact ⟨0, by omega, by rfl, Lib.hid (by rw [← hb9.out]; exact Grow.empty (Nat.le_refl _)), Lib.hid (HC1.out.later ((Below.refl _ _).alloc (Nat.le_refl _) _)), Lib.hid (HBw.out.alloc HBw.out.size _), by simp [hb9.out]⟩
  case round =>
    obtain ⟨k, hk, rfl, HG, HC, HB, hz9⟩ := hrel
    clear HC1 HBw
    by_cases hlt : k < rows.length
    · obtain ⟨gr, off, hA, hgr, hcell⟩ := H.out.at hlt
      have r0 : wr.cell? ⟨gr, off + k, none⟩ = some (.string rows[k]) := by have := (HB.out.cell (p := ⟨gr, off + k * 1 + 0, none⟩) hgr).trans (hcell 0 _ rfl); simpa using this
      subst hA
      have hrow := (HR.out.2 k hlt).1
      have hk8 := HR.out.1
      have hri := Lib.hid (show rowAt rows k = rows[k] from rowAt_get hlt)
      obtain ⟨r, hr⟩ : ∃ r, Hid (rows[k] = r) := ⟨_, Lib.hid rfl⟩
      rw [hr.out] at r0 hrow hri
      have Hrow := Lib.hid hrow
      have hr3 := hrow.1
      have hr8 := hrow.2.1
      clear hcell hrow
      have hI8 := ideal_len (st := st) (gap := gap) (hand := hand) HR.out.at8 k hk
      have hst : Hid (idealL st gap hand rows (k + 1) = idealL st gap hand rows k ++ idealR st gap hand k r r.size) := Lib.hid (by simp only [idealL]; rw [hri.out])
      obtain ⟨I0, hI0⟩ : ∃ I0, Hid (idealL st gap hand rows k = I0) := ⟨_, Lib.hid rfl⟩
      rw [hI0.out] at hI8 hst HG
      go_upto_region 8 with fail
      clear r0
      go_loopw [6, 28] (fun v pv wr2 => ∃ p : Nat, p ≤ r.size ∧ pv = .int .i64 p ∧ Hid (Grow wr2 b9 81 2 Stk.enc v (I0 ++ idealR st gap hand k r p)) ∧ Hid (Cells wr2 bx 3 (fun i => (#[Value.int .i64 st, .int .i64 gap, .int .i64 hand] : Array Value).getD i undef)) ∧ Hid (Below w.heap.size w wr2) ∧ b9 ≤ wr2.heap.size) (fun _ i _ => r.size - (intOf i).toNat)
      case atStart => exact ⟨0, by omega, by rfl, Lib.hid (by simpa [idealR] using HG.out), HC, HB, hz9⟩
      case round =>
        obtain ⟨p, hp, rfl, HG2, HC2, HB2, hz9⟩ := hrel
        clear HG HC HB
        obtain ⟨v6, hv6⟩ : ∃ v, u6 = v := ⟨_, rfl⟩
        rw [hv6] at HG2 ⊢
        clear hv6
        by_cases hlp : p < r.size
        · have hbp := Hrow.out.2.2.1 p hlp
          have hbh := bat_hi r p
          have hsu : Hid (I0 ++ idealR st gap hand k r (p + 1) = I0 ++ idealR st gap hand k r p ++ [⟨bat r p - 48, blowV st gap hand r.size k ((p : Int) + 1)⟩]) := Lib.hid (by rw [idealR_succ, List.append_assoc])
          have hIl := idealR_len st gap hand k r p
          obtain ⟨bv, hbv⟩ : ∃ b, Hid (blowV st gap hand r.size k ((p : Int) + 1) = b) := ⟨_, Lib.hid rfl⟩
          rw [hbv.out] at hsu
          have Hcall : Hid (∀ W, Calls Tryz.prog 30 #[.agg #[.int .i64 st, .int .i64 gap, .int .i64 hand], .int .i64 (r.size : Int), .int .i64 (k : Int), .int .i64 ((p : Int) + 1)] W fun e w' => ∃ v, e = .returned v ∧ (v = .int .i64 bv ∧ w' = W.alloc (.cells #[.int .i64 st, .int .i64 gap, .int .i64 hand] 33))) := Lib.hid fun W => (blowAt_any st gap hand (r.size : Int) ((p : Int) + 1) k W HBt.out.1 ⟨by have := HBt.out.2.1.1; simp only at this; omega, HBt.out.2.1.2⟩ HBt.out.2.2 (by omega) (by omega) (by omega)).mono fun e w' h => ⟨_, h.1, by rw [hbv.out], h.2⟩
          obtain ⟨L, hL⟩ : ∃ L, Hid (I0 ++ idealR st gap hand k r p = L) := ⟨_, Lib.hid rfl⟩
          have hLn : L.length ≤ 7000 := by rw [← hL.out, List.length_append, hIl]; omega
          rw [hL.out] at HG2 hsu
          clear hIl
          have hbl2 : bx < wr.heap.size := HC2.out.lt
          have hw8 : IntKind.u8.wrap (bat r p - 48) = bat r p - 48 := IntWalk.u8_in _ (by omega)
          have hw9 : IntKind.i64.wrap (bat r p - 48) = bat r p - 48 := IntWalk.i64_in _ (by omega)
          have hwp : IntKind.i64.wrap ((p : Int) + 1) = (p : Int) + 1 := IntWalk.i64_in _ (by omega)
          go_upto_region 10 with fail
          have b0 : wr.drew.cell? ⟨bx, 0, none⟩ = some (.int .i64 st) := (HC2.out.later (Below.refl _ _).drew).cell (i := 0) (by omega); have b1 : wr.drew.cell? ⟨bx, 1, none⟩ = some (.int .i64 gap) := (HC2.out.later (Below.refl _ _).drew).cell (i := 1) (by omega); have b2 : wr.drew.cell? ⟨bx, 2, none⟩ = some (.int .i64 hand) := (HC2.out.later (Below.refl _ _).drew).cell (i := 2) (by omega)
          go_region_law (first
            | (refine step_callsX rfl 30 rfl #[.agg #[.int .i64 st, .int .i64 gap, .int .i64 hand], .int .i64 (r.size : Int), .int .i64 (k : Int), .int .i64 ((p : Int) + 1)] (by go_simp) (Hcall.out _) ?_; rintro v wA ⟨rfl, rfl⟩)
            | (refine step_pushA rfl (.tmp 31) (.tmp 45) 37 rfl b9 81 _ 2 16 Stk.enc rfl Strike_info rfl (by omega) v6 L [⟨bat r p - 48, bv⟩] 1 rfl rfl (by simp) ((HG2.out.later (Below.refl _ _).drew).alloc _) rfl Stk_enc_len (by simp [Value.oneCell']) (by simp) (by simp only [List.length_singleton]; omega) (by omega) (by simp; omega) ?_; intro v8 w8 g8 b8 _ _; have HG8 := Lib.hid g8; have HC8 := Lib.hid (((HC2.out.later (Below.refl _ _).drew).alloc _).below b8 (by omega)); have HB8 := Lib.hid ((HB2.out.drew.alloc (by have := HB2.out.size; simpa using this) _).trans (b8.mono (by have := hbx.out; omega))); have hz8 : b9 ≤ w8.heap.size := Nat.le_trans (by simp; omega) b8.size; clear g8 b8)
            | fail)
          all_goals
            go_wp2
            go_roundw
            case rel => exact ⟨p + 1, by omega, by go_num, Lib.hid (by rw [hsu.out]; exact HG8.out), HC8, HB8, hz8⟩
            case measure => simp [intOf]; omega
        · obtain rfl : p = r.size := by omega
          go_wp2
          go_roundw
          case rel => exact ⟨k + 1, by omega, by go_num, Lib.hid (by rw [hst.out]; exact HG2.out), HC2, HB2, hz9⟩
          case measure => simp [intOf]; omega
    · obtain rfl : k = rows.length := by omega
      have hI8 := ideal_len (st := st) (gap := gap) (hand := hand) HR.out.at8 rows.length hk
      have hk8 := HR.out.1
      obtain ⟨A', c', rfl, ho⟩ := HG.out.own Stk_enc_len
      have HO := Lib.hid (ho.rd Stk_enc_len)
      clear ho
      by_cases hS : strikesP (idealL st gap hand rows rows.length)
      · have Hy := Lib.hid (ideR_y (st := st) (gap := gap) (hand := hand) (rows := rows) ⟨HBt.out, HR.out, hS⟩)
        have e3 := B_t hS
        clear hS
        generalize idealL st gap hand rows rows.length = I at *
        go_wp2_with (first | (go_at_call 57; refine (iStrikes_any I A' c' wr HO.out (by omega)).mono ?_; rintro e w5 ⟨rfl, hb5⟩; have HB5 := Lib.hid hb5; clear hb5) | fail)
        go_ret2
        exact IdeC.yes Hy.out rfl rfl ((HO.out.below HB5.out (Nat.le_refl _)).more HB5.out.size) (HB.out.trans (HB5.out.mono HB.out.size))
      · have Hn := Lib.hid (ideR_n (st := st) (gap := gap) (hand := hand) (rows := rows) (fun x => hS x.2.2))
        have e3 := B_f hS
        clear hS
        generalize idealL st gap hand rows rows.length = I at *
        go_wp2_with (first | (go_at_call 57; refine (iStrikes_any I A' c' wr HO.out (by omega)).mono ?_; rintro e w5 ⟨rfl, hb5⟩; have HB5 := Lib.hid hb5; clear hb5) | fail)
        go_ret2
        exact IdeC.no Hn.out rfl (HB.out.trans (HB5.out.mono HB.out.size))
set_option maxHeartbeats 3200000 in
theorem l21Ideal_any (st gap hand : Int) (rows : List ByteArray) (A : Option Addr) (c : Nat) (w : World) (h : RdL w w.heap.size A 1 encString rows) (hl : rows.length ≤ 1048576) (hs : ∀ x ∈ rows, String_small 1048576 x) (hb : beatP (st, gap, hand)) (hR : rowsP rows) : Calls Tryz.prog 54 #[.agg #[.int .i64 st, .int .i64 gap, .int .i64 hand], .slice A rows.length c] w fun e w' => ∃ (A' : Option Addr) (c' : Nat), e = .returned (.slice A' (idealL st gap hand rows rows.length).length c') ∧ RdL w' w'.heap.size A' 2 Stk.enc (idealL st gap hand rows rows.length) ∧ Below w.heap.size w w' := by
  have H := Lib.hid h
  have Hs := Lib.hid hs
  have HBt := Lib.hid hb
  have HR := Lib.hid hR
  clear h hs hb hR
  obtain ⟨bx, hbx⟩ : ∃ b, Hid (w.heap.size = b) := ⟨_, Lib.hid rfl⟩
  go_enter Tryz.func54, Tryz.ntmps54
  go_upto_region 3 with fail
  obtain ⟨V, hVe, HBV, HCV, hbl⟩ : ∃ V : World, Hid (w.alloc (.cells #[.int .i64 st, .int .i64 gap, .int .i64 hand] 33) = V) ∧ Hid (Below w.heap.size w V) ∧ Hid (Cells V bx 3 (fun i => (#[Value.int .i64 st, .int .i64 gap, .int .i64 hand] : Array Value).getD i undef)) ∧ bx < V.heap.size := ⟨_, Lib.hid rfl, Lib.hid ((Below.refl _ _).alloc (Nat.le_refl _) _), Lib.hid (by rw [← hbx.out]; exact box3_new w _ _ _ _), by simp [hbx.out]⟩
  rw [hVe.out, hbx.out]
  clear hVe
  obtain ⟨b9, hb9⟩ : ∃ b, Hid (V.heap.size = b) := ⟨_, Lib.hid rfl⟩
  rw [hb9.out] at hbl
  go_loopw [5, 11] (fun v iv wr => ∃ k : Nat, k ≤ rows.length ∧ iv = .int .i64 k ∧ Hid (Grow wr b9 81 2 Stk.enc v (idealL st gap hand rows k)) ∧ Hid (Cells wr bx 3 (fun i => (#[Value.int .i64 st, .int .i64 gap, .int .i64 hand] : Array Value).getD i undef)) ∧ Hid (Below w.heap.size w wr) ∧ b9 ≤ wr.heap.size) (fun _ i _ => rows.length - (intOf i).toNat)
  case atStart => exact ⟨0, by omega, by rfl, Lib.hid Grow.nil, HCV, HBV, by rw [hb9.out]; exact Nat.le_refl _⟩
  case round =>
    obtain ⟨k, hk, rfl, HG, HC, HB, hz9⟩ := hrel
    clear HCV HBV
    by_cases hlt : k < rows.length
    · obtain ⟨gr, off, hA, hgr, hcell⟩ := H.out.at hlt
      have r0 : wr.cell? ⟨gr, off + k, none⟩ = some (.string rows[k]) := by have := (HB.out.cell (p := ⟨gr, off + k * 1 + 0, none⟩) hgr).trans (hcell 0 _ rfl); simpa using this
      subst hA
      have hrow := (HR.out.2 k hlt).1
      have hk8 := HR.out.1
      have hri := Lib.hid (show rowAt rows k = rows[k] from rowAt_get hlt)
      obtain ⟨r, hr⟩ : ∃ r, Hid (rows[k] = r) := ⟨_, Lib.hid rfl⟩
      rw [hr.out] at r0 hrow hri
      have Hrow := Lib.hid hrow
      have hr3 := hrow.1
      have hr8 := hrow.2.1
      clear hcell hrow
      have hI8 := ideal_len (st := st) (gap := gap) (hand := hand) HR.out.at8 k hk
      have hst : Hid (idealL st gap hand rows (k + 1) = idealL st gap hand rows k ++ idealR st gap hand k r r.size) := Lib.hid (by simp only [idealL]; rw [hri.out])
      obtain ⟨I0, hI0⟩ : ∃ I0, Hid (idealL st gap hand rows k = I0) := ⟨_, Lib.hid rfl⟩
      rw [hI0.out] at hI8 hst HG
      go_upto_region 6 with fail
      clear r0
      go_loopw [5, 8] (fun v pv wr2 => ∃ p : Nat, p ≤ r.size ∧ pv = .int .i64 ((p : Int) + 1) ∧ Hid (Grow wr2 b9 81 2 Stk.enc v (I0 ++ idealR st gap hand k r p)) ∧ Hid (Cells wr2 bx 3 (fun i => (#[Value.int .i64 st, .int .i64 gap, .int .i64 hand] : Array Value).getD i undef)) ∧ Hid (Below w.heap.size w wr2) ∧ b9 ≤ wr2.heap.size) (fun _ i _ => r.size + 1 - (intOf i).toNat)
      case atStart => exact ⟨0, by omega, by rfl, Lib.hid (by simpa [idealR] using HG.out), HC, HB, hz9⟩
      case round =>
        obtain ⟨p, hp, rfl, HG2, HC2, HB2, hz9⟩ := hrel
        clear HG HC HB
        obtain ⟨v6, hv6⟩ : ∃ v, u5 = v := ⟨_, rfl⟩
        rw [hv6] at HG2 ⊢
        clear hv6
        by_cases hlp : p < r.size
        · have hbp := Hrow.out.2.2.1 p hlp
          have hbh := bat_hi r p
          have hsu : Hid (I0 ++ idealR st gap hand k r (p + 1) = I0 ++ idealR st gap hand k r p ++ [⟨bat r p - 48, blowV st gap hand r.size k ((p : Int) + 1)⟩]) := Lib.hid (by rw [idealR_succ, List.append_assoc])
          have hIl := idealR_len st gap hand k r p
          obtain ⟨bv, hbv⟩ : ∃ b, Hid (blowV st gap hand r.size k ((p : Int) + 1) = b) := ⟨_, Lib.hid rfl⟩
          rw [hbv.out] at hsu
          have Hcall : Hid (∀ W, Calls Tryz.prog 32 #[.agg #[.int .i64 st, .int .i64 gap, .int .i64 hand], .int .i64 (r.size : Int), .int .i64 (k : Int), .int .i64 ((p : Int) + 1)] W fun e w' => ∃ v, e = .returned v ∧ (v = .int .i64 bv ∧ w' = W.alloc (.cells #[.int .i64 st, .int .i64 gap, .int .i64 hand] 33))) := Lib.hid fun W => (l21Blow_any st gap hand (r.size : Int) ((p : Int) + 1) k W HBt.out.1 ⟨by have := HBt.out.2.1.1; simp only at this; omega, HBt.out.2.1.2⟩ HBt.out.2.2 (by omega) (by omega) (by omega)).mono fun e w' h => ⟨_, h.1, by rw [hbv.out], h.2⟩
          have Hat : Hid (∀ W, Calls Tryz.prog 25 #[.string r, .int .i64 ((p : Int) + 1)] W fun e w' => ∃ v, e = .returned v ∧ (v = .int .i64 (bat r p - 48) ∧ w' = W)) := Lib.hid fun W => (l1At_k r p ((p : Int) + 1) W rfl hlp (by omega) (by omega)).mono fun e w' h => ⟨_, h.1, rfl, h.2.symm⟩
          obtain ⟨L, hL⟩ : ∃ L, Hid (I0 ++ idealR st gap hand k r p = L) := ⟨_, Lib.hid rfl⟩
          have hLn : L.length ≤ 7000 := by rw [← hL.out, List.length_append, hIl]; omega
          rw [hL.out] at HG2 hsu
          clear hIl
          have hbl2 : bx < wr.heap.size := HC2.out.lt
          have hwp : IntKind.i64.wrap ((p : Int) + 1) = (p : Int) + 1 := IntWalk.i64_in _ (by omega)
          have hpr : (p : Int) + 1 ≤ (r.size : Int) := by omega
          go_upto_region 8 with fail
          have b0 : wr.drew.cell? ⟨bx, 0, none⟩ = some (.int .i64 st) := (HC2.out.later (Below.refl _ _).drew).cell (i := 0) (by omega); have b1 : wr.drew.cell? ⟨bx, 1, none⟩ = some (.int .i64 gap) := (HC2.out.later (Below.refl _ _).drew).cell (i := 1) (by omega); have b2 : wr.drew.cell? ⟨bx, 2, none⟩ = some (.int .i64 hand) := (HC2.out.later (Below.refl _ _).drew).cell (i := 2) (by omega)
          go_region_law (first
            | (refine step_callsX rfl 25 rfl #[.string r, .int .i64 ((p : Int) + 1)] (by go_simp) (Hat.out _) ?_; rintro v wA ⟨rfl, rfl⟩)
            | (refine step_callsX rfl 32 rfl #[.agg #[.int .i64 st, .int .i64 gap, .int .i64 hand], .int .i64 (r.size : Int), .int .i64 (k : Int), .int .i64 ((p : Int) + 1)] (by go_simp) (Hcall.out _) ?_; rintro v wA ⟨rfl, rfl⟩)
            | (refine step_pushA rfl (.tmp 22) (.tmp 33) 37 rfl b9 81 _ 2 16 Stk.enc rfl Strike_info rfl (by omega) v6 L [⟨bat r p - 48, bv⟩] 1 rfl rfl (by simp) ((HG2.out.later (Below.refl _ _).drew).alloc _) rfl Stk_enc_len (by simp [Value.oneCell']) (by simp) (by simp only [List.length_singleton]; omega) (by omega) (by simp; omega) ?_; intro v8 w8 g8 b8 _ _; have HG8 := Lib.hid g8; have HC8 := Lib.hid (((HC2.out.later (Below.refl _ _).drew).alloc _).below b8 (by omega)); have HB8 := Lib.hid ((HB2.out.drew.alloc (by have := HB2.out.size; simpa using this) _).trans (b8.mono (by have := hbx.out; omega))); have hz8 : b9 ≤ w8.heap.size := Nat.le_trans (by simp; omega) b8.size; clear g8 b8)
            | fail)
          all_goals
            go_wp2
            go_roundw
            case rel => exact ⟨p + 1, by omega, by refine congrArg (Value.int .i64) ?_; omega, Lib.hid (by rw [hsu.out]; exact HG8.out), HC8, HB8, hz8⟩
            case measure => simp [intOf]; omega
        · obtain rfl : p = r.size := by omega
          have hpr : ¬ (r.size : Int) + 1 ≤ (r.size : Int) := by omega
          go_wp2
          go_roundw
          case rel => exact ⟨k + 1, by omega, by go_num, Lib.hid (by rw [hst.out]; exact HG2.out), HC2, HB2, hz9⟩
          case measure => simp [intOf]; omega
    · obtain rfl : k = rows.length := by omega
      obtain ⟨A', c', rfl, ho⟩ := HG.out.own Stk_enc_len
      have HO := Lib.hid (ho.rd Stk_enc_len)
      clear ho
      go_wp2
      go_ret
      exact ⟨A', c', rfl, HO.out, HB.out⟩


set_option maxHeartbeats 3200000 in
theorem sIdeal_any (st gap hand : Int) (rows : List ByteArray) (A : Option Addr) (c : Nat) (w : World) (h : RdL w w.heap.size A 1 encString rows) (hl : rows.length ≤ 1048576) (hs : ∀ x ∈ rows, String_small 1048576 x) : Calls Tryz.prog 62 #[.agg #[.int .i64 st, .int .i64 gap, .int .i64 hand], .slice A rows.length c] w fun e w' => IdeC (ideR st gap hand rows) w e w' := by
  have H := Lib.hid h
  have Hs := Lib.hid hs
  clear h hs
  by_cases hb : beatP (st, gap, hand)
  rotate_left
  · have e1 := B_f hb
    have Hn := Lib.hid (ideR_n (st := st) (gap := gap) (hand := hand) (rows := rows) (fun x => hb x.1))
    clear hb
    go_enter Tryz.func62, Tryz.ntmps62
    go_wp2_with (first | (go_at_call 31; refine (l21Beat_any (st, gap, hand) _).mono ?_; rintro e w1 ⟨rfl, hb1⟩; have HBw := Lib.hid (((Below.refl w.heap.size w).alloc (Nat.le_refl _) (.cells #[.int .i64 st, .int .i64 gap, .int .i64 hand] 33)).trans (hb1.mono (by simp))); have HC1 : Hid (Cells w1 w.heap.size 3 (fun i => (#[Value.int .i64 st, .int .i64 gap, .int .i64 hand] : Array Value).getD i undef)) := Lib.hid ((box3_new w _ _ _ _).later hb1); clear hb1) | (go_at_call 23; refine (l6Rows_any rows A c _ ((H.out.below HBw.out (Nat.le_refl _)).more HBw.out.size) hl Hs.out).mono ?_; rintro e w2 ⟨rfl, hd2⟩; have HB2 : Hid (Below w.heap.size w w2) := (by obtain ⟨nd, rfl⟩ := hd2; exact Lib.hid (below_drewN HBw.out nd)); have HC2 : Hid (Cells w2 w.heap.size 3 (fun i => (#[Value.int .i64 st, .int .i64 gap, .int .i64 hand] : Array Value).getD i undef)) := (by obtain ⟨nd, rfl⟩ := hd2; exact Lib.hid (HC1.out.later (below_drewN (Below.refl _ _) nd))); have b0 : w2.cell? ⟨w.heap.size, 0, none⟩ = some (.int .i64 st) := HC2.out.cell (i := 0) (by omega); have b1 : w2.cell? ⟨w.heap.size, 1, none⟩ = some (.int .i64 gap) := HC2.out.cell (i := 1) (by omega); have b2 : w2.cell? ⟨w.heap.size, 2, none⟩ = some (.int .i64 hand) := HC2.out.cell (i := 2) (by omega); clear hd2) | fail)
    go_ret2
    exact IdeC.no Hn.out rfl HBw.out
  have e1 := B_t hb
  by_cases hr : rowsP rows
  rotate_left
  · have e2 := B_f hr
    have Hn := Lib.hid (ideR_n (st := st) (gap := gap) (hand := hand) (rows := rows) (fun x => hr x.2.1))
    clear hr hb
    go_enter Tryz.func62, Tryz.ntmps62
    go_wp2_with (first | (go_at_call 31; refine (l21Beat_any (st, gap, hand) _).mono ?_; rintro e w1 ⟨rfl, hb1⟩; have HBw := Lib.hid (((Below.refl w.heap.size w).alloc (Nat.le_refl _) (.cells #[.int .i64 st, .int .i64 gap, .int .i64 hand] 33)).trans (hb1.mono (by simp))); have HC1 : Hid (Cells w1 w.heap.size 3 (fun i => (#[Value.int .i64 st, .int .i64 gap, .int .i64 hand] : Array Value).getD i undef)) := Lib.hid ((box3_new w _ _ _ _).later hb1); clear hb1) | (go_at_call 23; refine (l6Rows_any rows A c _ ((H.out.below HBw.out (Nat.le_refl _)).more HBw.out.size) hl Hs.out).mono ?_; rintro e w2 ⟨rfl, hd2⟩; have HB2 : Hid (Below w.heap.size w w2) := (by obtain ⟨nd, rfl⟩ := hd2; exact Lib.hid (below_drewN HBw.out nd)); have HC2 : Hid (Cells w2 w.heap.size 3 (fun i => (#[Value.int .i64 st, .int .i64 gap, .int .i64 hand] : Array Value).getD i undef)) := (by obtain ⟨nd, rfl⟩ := hd2; exact Lib.hid (HC1.out.later (below_drewN (Below.refl _ _) nd))); have b0 : w2.cell? ⟨w.heap.size, 0, none⟩ = some (.int .i64 st) := HC2.out.cell (i := 0) (by omega); have b1 : w2.cell? ⟨w.heap.size, 1, none⟩ = some (.int .i64 gap) := HC2.out.cell (i := 1) (by omega); have b2 : w2.cell? ⟨w.heap.size, 2, none⟩ = some (.int .i64 hand) := HC2.out.cell (i := 2) (by omega); clear hd2) | fail)
    go_ret2
    exact IdeC.no Hn.out rfl HB2.out
  have e2 := B_t hr
  have hI8 := ideal_len (st := st) (gap := gap) (hand := hand) hr.at8 rows.length (Nat.le_refl _)
  have hk8 := hr.1
  have HId : Hid (∀ W, Below w.heap.size w W → Calls Tryz.prog 54 #[.agg #[.int .i64 st, .int .i64 gap, .int .i64 hand], .slice A rows.length c] W fun e w' => ∃ (A' : Option Addr) (c' : Nat), e = .returned (.slice A' (idealL st gap hand rows rows.length).length c') ∧ RdL w' w'.heap.size A' 2 Stk.enc (idealL st gap hand rows rows.length) ∧ Below W.heap.size W w') := Lib.hid fun W hW => l21Ideal_any st gap hand rows A c W ((H.out.below hW (Nat.le_refl _)).more hW.size) hl Hs.out hb hr
  by_cases hS : strikesP (idealL st gap hand rows rows.length)
  · have Hy := Lib.hid (ideR_y (st := st) (gap := gap) (hand := hand) (rows := rows) ⟨hb, hr, hS⟩)
    have e3 := B_t hS
    clear hS hb hr
    generalize idealL st gap hand rows rows.length = I at *
    have hI7 : I.length ≤ 1048576 := by omega
    clear hI8
    go_enter Tryz.func62, Tryz.ntmps62
    go_upto_region 3 with (first | (go_at_call 31; refine (l21Beat_any (st, gap, hand) _).mono ?_; rintro e w1 ⟨rfl, hb1⟩; have HBw := Lib.hid (((Below.refl w.heap.size w).alloc (Nat.le_refl _) (.cells #[.int .i64 st, .int .i64 gap, .int .i64 hand] 33)).trans (hb1.mono (by simp))); have HC1 : Hid (Cells w1 w.heap.size 3 (fun i => (#[Value.int .i64 st, .int .i64 gap, .int .i64 hand] : Array Value).getD i undef)) := Lib.hid ((box3_new w _ _ _ _).later hb1); clear hb1) | (go_at_call 23; refine (l6Rows_any rows A c _ ((H.out.below HBw.out (Nat.le_refl _)).more HBw.out.size) hl Hs.out).mono ?_; rintro e w2 ⟨rfl, hd2⟩; have HB2 : Hid (Below w.heap.size w w2) := (by obtain ⟨nd, rfl⟩ := hd2; exact Lib.hid (below_drewN HBw.out nd)); have HC2 : Hid (Cells w2 w.heap.size 3 (fun i => (#[Value.int .i64 st, .int .i64 gap, .int .i64 hand] : Array Value).getD i undef)) := (by obtain ⟨nd, rfl⟩ := hd2; exact Lib.hid (HC1.out.later (below_drewN (Below.refl _ _) nd))); have b0 : w2.cell? ⟨w.heap.size, 0, none⟩ = some (.int .i64 st) := HC2.out.cell (i := 0) (by omega); have b1 : w2.cell? ⟨w.heap.size, 1, none⟩ = some (.int .i64 gap) := HC2.out.cell (i := 1) (by omega); have b2 : w2.cell? ⟨w.heap.size, 2, none⟩ = some (.int .i64 hand) := HC2.out.cell (i := 2) (by omega); clear hd2) | (go_at_call 54; refine ((HId.out _ HB2.out).mono ?_); rintro e w3 ⟨A3, c3, rfl, hr3, hb3⟩; have HR3 := Lib.hid hr3; have HB3 := Lib.hid (HB2.out.trans (hb3.mono HB2.out.size)); have HC3 := Lib.hid (HC2.out.later hb3); clear hr3 hb3) | (go_at_call 40; refine (l21Good_any I A3 c3 w3 HR3.out hI7).mono ?_; rintro e w4 ⟨rfl, hb4⟩; have HB4 := Lib.hid (HB3.out.trans (hb4.mono HB3.out.size)); have HC4 := Lib.hid (HC3.out.later hb4); have c0 : w4.cell? ⟨w.heap.size, 0, none⟩ = some (.int .i64 st) := HC4.out.cell (i := 0) (by omega); have c1 : w4.cell? ⟨w.heap.size, 1, none⟩ = some (.int .i64 gap) := HC4.out.cell (i := 1) (by omega); have c2 : w4.cell? ⟨w.heap.size, 2, none⟩ = some (.int .i64 hand) := HC4.out.cell (i := 2) (by omega); clear hb4) | fail)
    go_wp2_with (first | (go_at_call 54; refine ((HId.out _ HB4.out).mono ?_); rintro e w5 ⟨A5, c5, rfl, hr5, hb5⟩; have HR5 := Lib.hid hr5; have HB5 := Lib.hid (HB4.out.trans (hb5.mono HB4.out.size)); clear hr5 hb5) | fail)
    go_ret2
    exact IdeC.yes Hy.out rfl rfl HR5.out HB5.out
  · have Hn := Lib.hid (ideR_n (st := st) (gap := gap) (hand := hand) (rows := rows) (fun x => hS x.2.2))
    have e3 := B_f hS
    clear hS hb hr
    generalize idealL st gap hand rows rows.length = I at *
    have hI7 : I.length ≤ 1048576 := by omega
    clear hI8
    go_enter Tryz.func62, Tryz.ntmps62
    go_wp2_with (first | (go_at_call 31; refine (l21Beat_any (st, gap, hand) _).mono ?_; rintro e w1 ⟨rfl, hb1⟩; have HBw := Lib.hid (((Below.refl w.heap.size w).alloc (Nat.le_refl _) (.cells #[.int .i64 st, .int .i64 gap, .int .i64 hand] 33)).trans (hb1.mono (by simp))); have HC1 : Hid (Cells w1 w.heap.size 3 (fun i => (#[Value.int .i64 st, .int .i64 gap, .int .i64 hand] : Array Value).getD i undef)) := Lib.hid ((box3_new w _ _ _ _).later hb1); clear hb1) | (go_at_call 23; refine (l6Rows_any rows A c _ ((H.out.below HBw.out (Nat.le_refl _)).more HBw.out.size) hl Hs.out).mono ?_; rintro e w2 ⟨rfl, hd2⟩; have HB2 : Hid (Below w.heap.size w w2) := (by obtain ⟨nd, rfl⟩ := hd2; exact Lib.hid (below_drewN HBw.out nd)); have HC2 : Hid (Cells w2 w.heap.size 3 (fun i => (#[Value.int .i64 st, .int .i64 gap, .int .i64 hand] : Array Value).getD i undef)) := (by obtain ⟨nd, rfl⟩ := hd2; exact Lib.hid (HC1.out.later (below_drewN (Below.refl _ _) nd))); have b0 : w2.cell? ⟨w.heap.size, 0, none⟩ = some (.int .i64 st) := HC2.out.cell (i := 0) (by omega); have b1 : w2.cell? ⟨w.heap.size, 1, none⟩ = some (.int .i64 gap) := HC2.out.cell (i := 1) (by omega); have b2 : w2.cell? ⟨w.heap.size, 2, none⟩ = some (.int .i64 hand) := HC2.out.cell (i := 2) (by omega); clear hd2) | (go_at_call 54; refine ((HId.out _ HB2.out).mono ?_); rintro e w3 ⟨A3, c3, rfl, hr3, hb3⟩; have HR3 := Lib.hid hr3; have HB3 := Lib.hid (HB2.out.trans (hb3.mono HB2.out.size)); have HC3 := Lib.hid (HC2.out.later hb3); clear hr3 hb3) | (go_at_call 40; refine (l21Good_any I A3 c3 w3 HR3.out hI7).mono ?_; rintro e w4 ⟨rfl, hb4⟩; have HB4 := Lib.hid (HB3.out.trans (hb4.mono HB3.out.size)); have HC4 := Lib.hid (HC3.out.later hb4); have c0 : w4.cell? ⟨w.heap.size, 0, none⟩ = some (.int .i64 st) := HC4.out.cell (i := 0) (by omega); have c1 : w4.cell? ⟨w.heap.size, 1, none⟩ = some (.int .i64 gap) := HC4.out.cell (i := 1) (by omega); have c2 : w4.cell? ⟨w.heap.size, 2, none⟩ = some (.int .i64 hand) := HC4.out.cell (i := 2) (by omega); clear hb4) | fail)
    go_ret2
    exact IdeC.no Hn.out rfl HB4.out
end Go.Proofs.YtglnehinmdmgmaaGreat
