/-
  RungOn of the program returns what the reference's returns, for all arguments: no condition.
-/
import Derived.Test.YtdegbckoejddeaaBook
import Derived.Test.YtdegbckoejddeaaGrow
namespace Go.Proofs.Ytdegbckoejddeaa
open Go.RowKit
set_option linter.unusedVariables false
set_option linter.unusedSimpArgs false
set_option maxRecDepth 100000

/-- The records of a day. -/
def rungL (l : List Rcd) (day : Int) : List Rcd := l.filter fun x => x.day == day
theorem rungL_y (l : List Rcd) (day : Int) (k : Nat) (hk : k < l.length) (h : (l[k].day == day) = true) : rungL (l.take (k + 1)) day = rungL (l.take k) day ++ [l[k]] := by
  unfold rungL
  rw [List.take_succ_eq_append_getElem hk, List.filter_append]
  simp [List.filter_cons, h]
theorem rungL_n (l : List Rcd) (day : Int) (k : Nat) (hk : k < l.length) (h : (l[k].day == day) = false) : rungL (l.take (k + 1)) day = rungL (l.take k) day := by
  unfold rungL
  rw [List.take_succ_eq_append_getElem hk, List.filter_append]
  simp [List.filter_cons, h]
theorem rungL_len (l : List Rcd) (day : Int) : (rungL l day).length ≤ l.length := by
  unfold rungL; exact List.length_filter_le _ _


set_option maxHeartbeats 1600000 in
theorem sRungOn_t (l : List Rcd) (A : Option Addr) (c : Nat) (day : Int) (w : World) (h : RdL w w.heap.size A 5 Rcd.enc l) (hl : l.length ≤ 1048576) (hc : l.length ≤ c) (hs : ∀ x ∈ l, Record_small 1048576 x) (ht : bookP l) :
    Calls Try.prog 52 #[.slice A l.length c, .int .i64 day] w fun e w' => ∃ A' c', e = .returned (.tuple #[.slice A' (rungL l day).length c', .bool true]) ∧ OwnL w' w.heap.size w'.heap.size A' 5 Rcd.enc (rungL l day) ∧ Below w.heap.size w w' := by
  have Hh := Lib.hid h
  have Hs := Lib.hid hs
  have e1 := B_t ht
  clear h hs ht
  go_enter Try.func52, Try.ntmps52
  go_wp2_with (go_at_call 81; refine (l28Book_any l A c _ Hh.out hl hc Hs.out).mono ?_; rintro e w' ⟨rfl, hb1⟩)
  go_loopw [6, 14] (fun v i wr => ∃ k : Nat, k ≤ l.length ∧ i = .int .i64 k ∧ Grow wr w.heap.size 109 5 Rcd.enc v (rungL (l.take k) day) ∧ Below w.heap.size w wr) (fun _ i _ => l.length - (intOf i).toNat)
  case atStart => exact ⟨0, by omega, by rfl, Grow.nil, hb1⟩
  case round =>
    obtain ⟨k, hk, rfl, hg, hbl⟩ := hrel
    have Hg := Lib.hid hg
    have Hbl := Lib.hid hbl
    have hgs := hbl.size
    clear hg hbl hb1
    by_cases hlt : k < l.length
    · obtain ⟨g, off, hA, hg, hcell⟩ := Hh.out.at hlt
      have r0 := (Hbl.out.cell (p := ⟨g, off + k * 5, none⟩) hg).trans (hcell 0 _ rfl)
      have r1 := (Hbl.out.cell (p := ⟨g, off + k * 5 + 1, none⟩) hg).trans (hcell 1 _ rfl)
      have r2 := (Hbl.out.cell (p := ⟨g, off + k * 5 + 2, none⟩) hg).trans (hcell 2 _ rfl)
      have r3 := (Hbl.out.cell (p := ⟨g, off + k * 5 + 3, none⟩) hg).trans (hcell 3 _ rfl)
      have r4 := (Hbl.out.cell (p := ⟨g, off + k * 5 + 4, none⟩) hg).trans (hcell 4 _ rfl)
      subst hA
      clear hcell
      have hlen : (rungL (l.take k) day).length ≤ 1048576 := Nat.le_trans (rungL_len _ _) (by rw [List.length_take]; omega)
      obtain ⟨x, hx⟩ : ∃ x, Hid (l[k] = x) := ⟨l[k], Lib.hid rfl⟩
      rw [hx.out] at r0 r1 r2 r3 r4
      cases hc : (x.day == day) with
      | true =>
        have Hy := Lib.hid (rungL_y l day k hlt (by rw [hx.out]; exact hc))
        have hone : (∀ u ∈ [Value.int .i64 x.day, Value.string x.meth, Value.string x.touch, Value.int .i64 x.rows, Value.string x.note], u.oneCell' = true) := by simp [Value.oneCell']
        have Hone := Lib.hid hone
        clear hone
        go_wp2_with (at_builtin; refine wpList_push rfl _ _ 36 rfl w.heap.size 109 _ 5 64 Rcd.enc rfl Record_info rfl (by omega) _ (rungL (l.take k) day) [x] 1 rfl rfl (by simp) (Hg.out.alloc _) rfl Rcd_enc_len Hone.out (by simp; omega) (by omega) (by simp; omega) ?_; intro v' w2 hg2 hb2 _)
        go_roundw
        case rel => exact ⟨k + 1, by omega, by go_num, by rw [Hy.out, hx.out]; exact hg2, (Hbl.out.alloc hgs _).trans hb2⟩
        case measure => simp [intOf]; omega
      | false =>
        have Hn := Lib.hid (rungL_n l day k hlt (by rw [hx.out]; exact hc))
        go_wp2
        go_roundw
        case rel => exact ⟨k + 1, by omega, by go_num, by rw [Hn.out]; exact Hg.out.alloc _, Hbl.out.alloc hgs _⟩
        case measure => simp [intOf]; omega
    · go_wp2
      go_ret2
      obtain rfl : k = l.length := by omega
      have hg := Hg.out
      rw [List.take_length] at hg
      obtain ⟨A', c', hv, ho⟩ := hg.own Rcd_enc_len
      exact ⟨A', c', by rw [hv]; rfl, ho, Hbl.out⟩
theorem sRungOn_f (l : List Rcd) (A : Option Addr) (c : Nat) (day : Int) (w : World) (h : RdL w w.heap.size A 5 Rcd.enc l) (hl : l.length ≤ 1048576) (hc : l.length ≤ c) (hs : ∀ x ∈ l, Record_small 1048576 x) (ht : ¬ bookP l) :
    Calls Try.prog 52 #[.slice A l.length c, .int .i64 day] w fun e w' => e = .returned (.tuple #[.slice none 0 0, .bool false]) ∧ Below w.heap.size w w' := by
  have Hh := Lib.hid h
  have Hs := Lib.hid hs
  have e1 := B_f ht
  clear h hs ht
  go_enter Try.func52, Try.ntmps52
  go_wp2_with (go_at_call 81; refine (l28Book_any l A c _ Hh.out hl hc Hs.out).mono ?_; rintro e w' ⟨rfl, hb1⟩)
  go_ret2
  exact ⟨rfl, hb1⟩
set_option maxHeartbeats 1600000 in
theorem iRungOn_t (l : List Rcd) (A : Option Addr) (c : Nat) (day : Int) (w : World) (h : RdL w w.heap.size A 5 Rcd.enc l) (hl : l.length ≤ 1048576) (hc : l.length ≤ c) (hs : ∀ x ∈ l, Record_small 1048576 x) (ht : bookP l) :
    Calls Try.prog 53 #[.slice A l.length c, .int .i64 day] w fun e w' => ∃ A' c', e = .returned (.tuple #[.slice A' (rungL l day).length c', .bool true]) ∧ OwnL w' w.heap.size w'.heap.size A' 5 Rcd.enc (rungL l day) ∧ Below w.heap.size w w' := by
  have Hh := Lib.hid h
  have Hs := Lib.hid hs
  have e1 := B_t ht
  clear h hs ht
  go_enter Try.func53, Try.ntmps53
  go_wp2_with (go_at_call 25; refine (iBook_any l A c _ Hh.out hl hc Hs.out).mono ?_; rintro e w' ⟨rfl, hb1⟩)
  go_loopw [6, 15] (fun v i wr => ∃ k : Nat, k ≤ l.length ∧ i = .int .i64 k ∧ Grow wr w.heap.size 109 5 Rcd.enc v (rungL (l.take k) day) ∧ Below w.heap.size w wr) (fun _ i _ => l.length - (intOf i).toNat)
  case atStart => exact ⟨0, by omega, by rfl, Grow.empty hb1.size, hb1.alloc hb1.size _⟩
  case round =>
    obtain ⟨k, hk, rfl, hg, hbl⟩ := hrel
    have Hg := Lib.hid hg
    have Hbl := Lib.hid hbl
    have hgs := hbl.size
    clear hg hbl hb1
    by_cases hlt : k < l.length
    · obtain ⟨g, off, hA, hg, hcell⟩ := Hh.out.at hlt
      have r0 := (Hbl.out.cell (p := ⟨g, off + k * 5, none⟩) hg).trans (hcell 0 _ rfl)
      have r1 := (Hbl.out.cell (p := ⟨g, off + k * 5 + 1, none⟩) hg).trans (hcell 1 _ rfl)
      have r2 := (Hbl.out.cell (p := ⟨g, off + k * 5 + 2, none⟩) hg).trans (hcell 2 _ rfl)
      have r3 := (Hbl.out.cell (p := ⟨g, off + k * 5 + 3, none⟩) hg).trans (hcell 3 _ rfl)
      have r4 := (Hbl.out.cell (p := ⟨g, off + k * 5 + 4, none⟩) hg).trans (hcell 4 _ rfl)
      subst hA
      clear hcell
      have hlen : (rungL (l.take k) day).length ≤ 1048576 := Nat.le_trans (rungL_len _ _) (by rw [List.length_take]; omega)
      obtain ⟨x, hx⟩ : ∃ x, Hid (l[k] = x) := ⟨l[k], Lib.hid rfl⟩
      rw [hx.out] at r0 r1 r2 r3 r4
      cases hc : (x.day == day) with
      | true =>
        have Hy := Lib.hid (rungL_y l day k hlt (by rw [hx.out]; exact hc))
        have hone : (∀ u ∈ [Value.int .i64 x.day, Value.string x.meth, Value.string x.touch, Value.int .i64 x.rows, Value.string x.note], u.oneCell' = true) := by simp [Value.oneCell']
        have Hone := Lib.hid hone
        clear hone
        go_wp2_with (at_builtin; refine wpList_push rfl _ _ 36 rfl w.heap.size 109 _ 5 64 Rcd.enc rfl Record_info rfl (by omega) _ (rungL (l.take k) day) [x] 1 rfl rfl (by simp) (Hg.out.alloc _) rfl Rcd_enc_len Hone.out (by simp; omega) (by omega) (by simp; omega) ?_; intro v' w2 hg2 hb2 _)
        go_roundw
        case rel => exact ⟨k + 1, by omega, by go_num, by rw [Hy.out, hx.out]; exact hg2, (Hbl.out.alloc hgs _).trans hb2⟩
        case measure => simp [intOf]; omega
      | false =>
        have Hn := Lib.hid (rungL_n l day k hlt (by rw [hx.out]; exact hc))
        go_wp2
        go_roundw
        case rel => exact ⟨k + 1, by omega, by go_num, by rw [Hn.out]; exact Hg.out.alloc _, Hbl.out.alloc hgs _⟩
        case measure => simp [intOf]; omega
    · go_wp2
      go_ret2
      obtain rfl : k = l.length := by omega
      have hg := Hg.out
      rw [List.take_length] at hg
      obtain ⟨A', c', hv, ho⟩ := hg.own Rcd_enc_len
      exact ⟨A', c', by rw [hv]; rfl, ho, Hbl.out⟩
theorem iRungOn_f (l : List Rcd) (A : Option Addr) (c : Nat) (day : Int) (w : World) (h : RdL w w.heap.size A 5 Rcd.enc l) (hl : l.length ≤ 1048576) (hc : l.length ≤ c) (hs : ∀ x ∈ l, Record_small 1048576 x) (ht : ¬ bookP l) :
    Calls Try.prog 53 #[.slice A l.length c, .int .i64 day] w fun e w' => e = .returned (.tuple #[.slice none 0 0, .bool false]) ∧ Below w.heap.size w w' := by
  have Hh := Lib.hid h
  have Hs := Lib.hid hs
  have e1 := B_f ht
  clear h hs ht
  go_enter Try.func53, Try.ntmps53
  go_wp2_with (go_at_call 25; refine (iBook_any l A c _ Hh.out hl hc Hs.out).mono ?_; rintro e w' ⟨rfl, hb1⟩)
  go_ret2
  exact ⟨rfl, hb1⟩
set_option maxHeartbeats 4000000 in
theorem rungOnLaw (w : World) (l : List Rcd) (Al : Option Addr) (cl : Nat) (hrl : RdL w w.heap.size Al 5 Rcd.enc l) (hll : l.length ≤ 9223372036854775807) (hsl : ∀ x ∈ l, Record_small 9223372036854775807 x) (day : Int) (hszday : -9223372036854775808 ≤ day ∧ day ≤ 9223372036854775807) :
    Calls Try.prog 11 #[.slice Al l.length cl, .int .i64 day] w fun e w' => e = .returned (.bool true) ∧ Below w.heap.size w w' := by
  have Hrl := Lib.hid hrl
  have Hsl := Lib.hid hsl
  clear hrl hsl
  have Bw0 := Lib.hid (Below.refl w.heap.size w)
  go_enter Try.func11, Try.ntmps11
  go_wp2_with fail
  refine (szRecordS_any l Al cl (1048576 : Int) _ ((Hrl.out.below Bw0.out (Nat.le_refl _)).more Bw0.out.size) (by omega) (by omega) (by omega) Hsl.out).mono ?_
  rintro e w1 ⟨r1, rfl, hz, hb⟩
  have C1 := Lib.hid hb
  clear hb
  have t1 := C1.out.size
  have Bw1 := Lib.hid (Bw0.out.trans (C1.out.mono Bw0.out.size))
  have Z1 := Lib.hid hz
  clear hz
  by_cases n1 : r1 < 0
  · go_wp2_with fail
    go_ret
    exact ⟨rfl, Bw1.out⟩
  have z1 := Z1.out.resolve_left n1
  have y1 : 0 ≤ r1 ∧ r1 ≤ 1048576 ∧ l.length ≤ 1048576 := ⟨z1.1, by have := z1.2.1; omega, by have := z1.2.2.1; omega⟩
  obtain ⟨y1a, y1b, hll'⟩ := y1
  have Hml : Hid (∀ x ∈ l, Record_small 1048576 x) := Lib.hid (fun x hx => by have := z1.2.2.2 x hx; simp only [Record_small] at this ⊢; omega)
  clear z1
  have hlen := rungL_len l day
  by_cases h : bookP l
  · have H := Lib.hid h
    clear h
    go_wp2_with fail
    refine (toRecordS_any l Al cl _ ((Hrl.out.below Bw1.out (Nat.le_refl _)).more Bw1.out.size) (by omega)).mono ?_
    rintro e w2 ⟨A2, rfl, ho, hb⟩
    have C2 := Lib.hid hb
    clear hb
    have t2 := C2.out.size
    have Bw2 := Lib.hid (Bw1.out.trans (C2.out.mono Bw1.out.size))
    have O_t1_2 := Lib.hid ho
    clear ho
    go_wp2_with fail
    refine (sRungOn_t l A2 l.length day _ (O_t1_2.out.rd Rcd_enc_len) (by omega) (Nat.le_refl _) Hml.out H.out).mono ?_
    rintro e w3 ⟨A_w0, c_w0, rfl, ho0, hb⟩
    have C3 := Lib.hid hb
    clear hb
    have t3 := C3.out.size
    have Bw3 := Lib.hid (Bw2.out.trans (C3.out.mono Bw2.out.size))
    have O_w0_3 := Lib.hid ho0
    clear ho0
    go_wp2_with fail
    refine (toRecordS_any l Al cl _ ((Hrl.out.below Bw3.out (Nat.le_refl _)).more Bw3.out.size) (by omega)).mono ?_
    rintro e w4 ⟨A4, rfl, ho, hb⟩
    have C4 := Lib.hid hb
    clear hb
    have t4 := C4.out.size
    have Bw4 := Lib.hid (Bw3.out.trans (C4.out.mono Bw3.out.size))
    have O_x0_4 := Lib.hid ho
    clear ho
    have O_w0_4 := Lib.hid (O_w0_3.out.later C4.out)
    clear O_w0_3
    go_wp2_with fail
    refine (iRungOn_t l A4 l.length day _ (O_x0_4.out.rd Rcd_enc_len) (by omega) (Nat.le_refl _) Hml.out H.out).mono ?_
    rintro e w5 ⟨A_g0, c_g0, rfl, ho0, hb⟩
    have C5 := Lib.hid hb
    clear hb
    have t5 := C5.out.size
    have Bw5 := Lib.hid (Bw4.out.trans (C5.out.mono Bw4.out.size))
    have O_g0_5 := Lib.hid ho0
    clear ho0
    have O_w0_5 := Lib.hid (O_w0_4.out.later C5.out)
    clear O_w0_4
    have O_x0_5 := Lib.hid (O_x0_4.out.later C5.out)
    clear O_x0_4
    go_wp2_with fail
    refine (eqRecordS_t (rungL l day) A_g0 A_w0 c_g0 c_w0 _ (O_g0_5.out.rd Rcd_enc_len) (O_w0_5.out.rd Rcd_enc_len) (by omega)).mono ?_
    rintro e w6 ⟨rfl, hb⟩
    have C6 := Lib.hid hb
    clear hb
    have t6 := C6.out.size
    have Bw6 := Lib.hid (Bw5.out.trans (C6.out.mono Bw5.out.size))
    have O_w0_6 := Lib.hid (O_w0_5.out.later C6.out)
    clear O_w0_5
    have O_x0_6 := Lib.hid (O_x0_5.out.later C6.out)
    clear O_x0_5
    have O_g0_6 := Lib.hid (O_g0_5.out.later C6.out)
    clear O_g0_5
    go_wp2_with fail
    refine (toRecordS_any l Al cl _ ((Hrl.out.below Bw6.out (Nat.le_refl _)).more Bw6.out.size) (by omega)).mono ?_
    rintro e w7 ⟨A7, rfl, ho, hb⟩
    have C7 := Lib.hid hb
    clear hb
    have t7 := C7.out.size
    have Bw7 := Lib.hid (Bw6.out.trans (C7.out.mono Bw6.out.size))
    have O_t6_7 := Lib.hid ho
    clear ho
    have O_w0_7 := Lib.hid (O_w0_6.out.later C7.out)
    clear O_w0_6
    have O_x0_7 := Lib.hid (O_x0_6.out.later C7.out)
    clear O_x0_6
    have O_g0_7 := Lib.hid (O_g0_6.out.later C7.out)
    clear O_g0_6
    go_wp2_with fail
    refine (eqRecordS_t l A4 A7 l.length l.length _ (O_x0_7.out.rd Rcd_enc_len) (O_t6_7.out.rd Rcd_enc_len) (by omega)).mono ?_
    rintro e w8 ⟨rfl, hb⟩
    have C8 := Lib.hid hb
    clear hb
    have t8 := C8.out.size
    have Bw8 := Lib.hid (Bw7.out.trans (C8.out.mono Bw7.out.size))
    have O_w0_8 := Lib.hid (O_w0_7.out.later C8.out)
    clear O_w0_7
    have O_x0_8 := Lib.hid (O_x0_7.out.later C8.out)
    clear O_x0_7
    have O_g0_8 := Lib.hid (O_g0_7.out.later C8.out)
    clear O_g0_7
    go_wp2_with fail
    refine (markRecordS_any l _ _ A4 l.length 1 _ O_x0_8.out (by omega) (by omega) (by omega)).mono ?_
    rintro e w9 ⟨he, ho, hc⟩
    obtain ⟨q9, hq⟩ : ∃ q : Nat, q = 1 + l.length * 5 := ⟨_, rfl⟩
    rw [← hq] at he
    subst he
    have Hq9 := Lib.hid hq
    have b9 : 0 < q9 ∧ q9 ≤ 10000001 := by omega
    obtain ⟨b9a, b9b⟩ := b9
    clear hq
    have C9 := Lib.hid hc
    clear hc
    have t9 := C9.out.size
    have Bw9 := Lib.hid (Below.chg Bw8.out C9.out (by omega) Bw8.out.size)
    have O_x0_9 := Lib.hid ho
    clear ho
    have O_w0_9 := Lib.hid (O_w0_8.out.chg C9.out (by omega))
    clear O_w0_8
    have O_g0_9 := Lib.hid (O_g0_8.out.chg C9.out (by omega))
    clear O_g0_8
    go_wp2_with fail
    refine (eqRecordS_t (rungL l day) A_g0 A_w0 c_g0 c_w0 _ (O_g0_9.out.rd Rcd_enc_len) (O_w0_9.out.rd Rcd_enc_len) (by omega)).mono ?_
    rintro e w10 ⟨rfl, hb⟩
    have C10 := Lib.hid hb
    clear hb
    have t10 := C10.out.size
    have Bw10 := Lib.hid (Bw9.out.trans (C10.out.mono Bw9.out.size))
    have O_w0_10 := Lib.hid (O_w0_9.out.later C10.out)
    clear O_w0_9
    have O_g0_10 := Lib.hid (O_g0_9.out.later C10.out)
    clear O_g0_9
    go_wp2_with fail
    refine (markRecordS_any (rungL l day) _ _ A_g0 c_g0 1 _ O_g0_10.out (by omega) (by omega) (by omega)).mono ?_
    rintro e w11 ⟨he, ho, hc⟩
    obtain ⟨q11, hq⟩ : ∃ q : Nat, q = 1 + (rungL l day).length * 5 := ⟨_, rfl⟩
    rw [← hq] at he
    subst he
    have Hq11 := Lib.hid hq
    have b11 : 0 < q11 ∧ q11 ≤ 10000001 := by omega
    obtain ⟨b11a, b11b⟩ := b11
    clear hq
    have C11 := Lib.hid hc
    clear hc
    have t11 := C11.out.size
    have Bw11 := Lib.hid (Below.chg Bw10.out C11.out (by omega) Bw10.out.size)
    have O_g0_11 := Lib.hid ho
    clear ho
    have O_w0_11 := Lib.hid (O_w0_10.out.chg C11.out (by omega))
    clear O_w0_10
    go_wp2_with fail
    refine (heldRecordS_any (rungL l day).length A_g0 c_g0 1 _ (O_g0_11.out.rd Rcd_enc_len) (by omega) (by omega) (by omega)).mono ?_
    rintro e w12 ⟨he, hb⟩
    rw [← Hq11.out] at he
    subst he
    have C12 := Lib.hid hb
    clear hb
    have t12 := C12.out.size
    have Bw12 := Lib.hid (Bw11.out.trans (C12.out.mono Bw11.out.size))
    have O_w0_12 := Lib.hid (O_w0_11.out.later C12.out)
    clear O_w0_11
    have O_g0_12 := Lib.hid (O_g0_11.out.later C12.out)
    clear O_g0_11
    go_wp2_with fail
    refine (toRecordS_any l Al cl _ ((Hrl.out.below Bw12.out (Nat.le_refl _)).more Bw12.out.size) (by omega)).mono ?_
    rintro e w13 ⟨A13, rfl, ho, hb⟩
    have C13 := Lib.hid hb
    clear hb
    have t13 := C13.out.size
    have Bw13 := Lib.hid (Bw12.out.trans (C13.out.mono Bw12.out.size))
    have O_t15_13 := Lib.hid ho
    clear ho
    have O_w0_13 := Lib.hid (O_w0_12.out.later C13.out)
    clear O_w0_12
    have O_g0_13 := Lib.hid (O_g0_12.out.later C13.out)
    clear O_g0_12
    go_wp2_with fail
    refine (iRungOn_t l A13 l.length day _ (O_t15_13.out.rd Rcd_enc_len) (by omega) (Nat.le_refl _) Hml.out H.out).mono ?_
    rintro e w14 ⟨A_h0, c_h0, rfl, ho0, hb⟩
    have C14 := Lib.hid hb
    clear hb
    have t14 := C14.out.size
    have Bw14 := Lib.hid (Bw13.out.trans (C14.out.mono Bw13.out.size))
    have O_h0_14 := Lib.hid ho0
    clear ho0
    have O_w0_14 := Lib.hid (O_w0_13.out.later C14.out)
    clear O_w0_13
    have O_g0_14 := Lib.hid (O_g0_13.out.later C14.out)
    clear O_g0_13
    go_wp2_with fail
    refine (eqRecordS_t (rungL l day) A_h0 A_w0 c_h0 c_w0 _ (O_h0_14.out.rd Rcd_enc_len) (O_w0_14.out.rd Rcd_enc_len) (by omega)).mono ?_
    rintro e w15 ⟨rfl, hb⟩
    have C15 := Lib.hid hb
    clear hb
    have t15 := C15.out.size
    have Bw15 := Lib.hid (Bw14.out.trans (C15.out.mono Bw14.out.size))
    have O_g0_15 := Lib.hid (O_g0_14.out.later C15.out)
    clear O_g0_14
    go_wp2_with fail
    refine (heldRecordS_any (rungL l day).length A_g0 c_g0 1 _ (O_g0_15.out.rd Rcd_enc_len) (by omega) (by omega) (by omega)).mono ?_
    rintro e w16 ⟨he, hb⟩
    rw [← Hq11.out] at he
    subst he
    have C16 := Lib.hid hb
    clear hb
    have t16 := C16.out.size
    have Bw16 := Lib.hid (Bw15.out.trans (C16.out.mono Bw15.out.size))
    go_wp2_with fail
    go_ret
    exact ⟨rfl, Bw16.out⟩
  · have H := Lib.hid h
    clear h
    go_wp2_with fail
    refine (toRecordS_any l Al cl _ ((Hrl.out.below Bw1.out (Nat.le_refl _)).more Bw1.out.size) (by omega)).mono ?_
    rintro e w2 ⟨A2, rfl, ho, hb⟩
    have C2 := Lib.hid hb
    clear hb
    have t2 := C2.out.size
    have Bw2 := Lib.hid (Bw1.out.trans (C2.out.mono Bw1.out.size))
    have O_t1_2 := Lib.hid ho
    clear ho
    go_wp2_with fail
    refine (sRungOn_f l A2 l.length day _ (O_t1_2.out.rd Rcd_enc_len) (by omega) (Nat.le_refl _) Hml.out H.out).mono ?_
    rintro e w3 ⟨rfl, hb⟩
    have C3 := Lib.hid hb
    clear hb
    have t3 := C3.out.size
    have Bw3 := Lib.hid (Bw2.out.trans (C3.out.mono Bw2.out.size))
    have O_w0_3 : Hid (OwnL w3 w2.heap.size w3.heap.size none 5 Rcd.enc ([] : List Rcd)) := Lib.hid OwnL.nil
    go_wp2_with fail
    refine (toRecordS_any l Al cl _ ((Hrl.out.below Bw3.out (Nat.le_refl _)).more Bw3.out.size) (by omega)).mono ?_
    rintro e w4 ⟨A4, rfl, ho, hb⟩
    have C4 := Lib.hid hb
    clear hb
    have t4 := C4.out.size
    have Bw4 := Lib.hid (Bw3.out.trans (C4.out.mono Bw3.out.size))
    have O_x0_4 := Lib.hid ho
    clear ho
    have O_w0_4 := Lib.hid (O_w0_3.out.later C4.out)
    clear O_w0_3
    go_wp2_with fail
    refine (iRungOn_f l A4 l.length day _ (O_x0_4.out.rd Rcd_enc_len) (by omega) (Nat.le_refl _) Hml.out H.out).mono ?_
    rintro e w5 ⟨rfl, hb⟩
    have C5 := Lib.hid hb
    clear hb
    have t5 := C5.out.size
    have Bw5 := Lib.hid (Bw4.out.trans (C5.out.mono Bw4.out.size))
    have O_g0_5 : Hid (OwnL w5 w4.heap.size w5.heap.size none 5 Rcd.enc ([] : List Rcd)) := Lib.hid OwnL.nil
    have O_w0_5 := Lib.hid (O_w0_4.out.later C5.out)
    clear O_w0_4
    have O_x0_5 := Lib.hid (O_x0_4.out.later C5.out)
    clear O_x0_4
    go_wp2_with fail
    refine (eqRecordS_t ([] : List Rcd) none none 0 0 _ (O_g0_5.out.rd Rcd_enc_len) (O_w0_5.out.rd Rcd_enc_len) (by simp)).mono ?_
    rintro e w6 ⟨rfl, hb⟩
    have C6 := Lib.hid hb
    clear hb
    have t6 := C6.out.size
    have Bw6 := Lib.hid (Bw5.out.trans (C6.out.mono Bw5.out.size))
    have O_w0_6 := Lib.hid (O_w0_5.out.later C6.out)
    clear O_w0_5
    have O_x0_6 := Lib.hid (O_x0_5.out.later C6.out)
    clear O_x0_5
    have O_g0_6 := Lib.hid (O_g0_5.out.later C6.out)
    clear O_g0_5
    go_wp2_with fail
    refine (toRecordS_any l Al cl _ ((Hrl.out.below Bw6.out (Nat.le_refl _)).more Bw6.out.size) (by omega)).mono ?_
    rintro e w7 ⟨A7, rfl, ho, hb⟩
    have C7 := Lib.hid hb
    clear hb
    have t7 := C7.out.size
    have Bw7 := Lib.hid (Bw6.out.trans (C7.out.mono Bw6.out.size))
    have O_t6_7 := Lib.hid ho
    clear ho
    have O_w0_7 := Lib.hid (O_w0_6.out.later C7.out)
    clear O_w0_6
    have O_x0_7 := Lib.hid (O_x0_6.out.later C7.out)
    clear O_x0_6
    have O_g0_7 := Lib.hid (O_g0_6.out.later C7.out)
    clear O_g0_6
    go_wp2_with fail
    refine (eqRecordS_t l A4 A7 l.length l.length _ (O_x0_7.out.rd Rcd_enc_len) (O_t6_7.out.rd Rcd_enc_len) (by omega)).mono ?_
    rintro e w8 ⟨rfl, hb⟩
    have C8 := Lib.hid hb
    clear hb
    have t8 := C8.out.size
    have Bw8 := Lib.hid (Bw7.out.trans (C8.out.mono Bw7.out.size))
    have O_w0_8 := Lib.hid (O_w0_7.out.later C8.out)
    clear O_w0_7
    have O_x0_8 := Lib.hid (O_x0_7.out.later C8.out)
    clear O_x0_7
    have O_g0_8 := Lib.hid (O_g0_7.out.later C8.out)
    clear O_g0_7
    go_wp2_with fail
    refine (markRecordS_any l _ _ A4 l.length 1 _ O_x0_8.out (by omega) (by omega) (by omega)).mono ?_
    rintro e w9 ⟨he, ho, hc⟩
    obtain ⟨q9, hq⟩ : ∃ q : Nat, q = 1 + l.length * 5 := ⟨_, rfl⟩
    rw [← hq] at he
    subst he
    have Hq9 := Lib.hid hq
    have b9 : 0 < q9 ∧ q9 ≤ 10000001 := by omega
    obtain ⟨b9a, b9b⟩ := b9
    clear hq
    have C9 := Lib.hid hc
    clear hc
    have t9 := C9.out.size
    have Bw9 := Lib.hid (Below.chg Bw8.out C9.out (by omega) Bw8.out.size)
    have O_x0_9 := Lib.hid ho
    clear ho
    have O_w0_9 := Lib.hid (O_w0_8.out.chg C9.out (by omega))
    clear O_w0_8
    have O_g0_9 := Lib.hid (O_g0_8.out.chg C9.out (by omega))
    clear O_g0_8
    go_wp2_with fail
    refine (eqRecordS_t ([] : List Rcd) none none 0 0 _ (O_g0_9.out.rd Rcd_enc_len) (O_w0_9.out.rd Rcd_enc_len) (by simp)).mono ?_
    rintro e w10 ⟨rfl, hb⟩
    have C10 := Lib.hid hb
    clear hb
    have t10 := C10.out.size
    have Bw10 := Lib.hid (Bw9.out.trans (C10.out.mono Bw9.out.size))
    have O_w0_10 := Lib.hid (O_w0_9.out.later C10.out)
    clear O_w0_9
    have O_g0_10 := Lib.hid (O_g0_9.out.later C10.out)
    clear O_g0_9
    go_wp2_with fail
    refine (markRecordS_any ([] : List Rcd) _ _ none 0 1 _ O_g0_10.out (by simp) (by omega) (by omega)).mono ?_
    rintro e w11 ⟨he, ho, hc⟩
    obtain ⟨q11, hq⟩ : ∃ q : Nat, q = 1 + ([] : List Rcd).length * 5 := ⟨_, rfl⟩
    rw [← hq] at he
    subst he
    have Hq11 := Lib.hid hq
    have b11 : 0 < q11 ∧ q11 ≤ 10000001 := by simp at hq; omega
    obtain ⟨b11a, b11b⟩ := b11
    clear hq
    have C11 := Lib.hid hc
    clear hc
    have t11 := C11.out.size
    have Bw11 := Lib.hid (Below.chg Bw10.out C11.out (by omega) Bw10.out.size)
    have O_g0_11 := Lib.hid ho
    clear ho
    have O_w0_11 := Lib.hid (O_w0_10.out.chg C11.out (by omega))
    clear O_w0_10
    go_wp2_with fail
    refine (heldRecordS_any ([] : List Rcd).length none 0 1 _ (O_g0_11.out.rd Rcd_enc_len) (by simp) (by omega) (by omega)).mono ?_
    rintro e w12 ⟨he, hb⟩
    rw [← Hq11.out] at he
    subst he
    have C12 := Lib.hid hb
    clear hb
    have t12 := C12.out.size
    have Bw12 := Lib.hid (Bw11.out.trans (C12.out.mono Bw11.out.size))
    have O_w0_12 := Lib.hid (O_w0_11.out.later C12.out)
    clear O_w0_11
    have O_g0_12 := Lib.hid (O_g0_11.out.later C12.out)
    clear O_g0_11
    go_wp2_with fail
    refine (toRecordS_any l Al cl _ ((Hrl.out.below Bw12.out (Nat.le_refl _)).more Bw12.out.size) (by omega)).mono ?_
    rintro e w13 ⟨A13, rfl, ho, hb⟩
    have C13 := Lib.hid hb
    clear hb
    have t13 := C13.out.size
    have Bw13 := Lib.hid (Bw12.out.trans (C13.out.mono Bw12.out.size))
    have O_t15_13 := Lib.hid ho
    clear ho
    have O_w0_13 := Lib.hid (O_w0_12.out.later C13.out)
    clear O_w0_12
    have O_g0_13 := Lib.hid (O_g0_12.out.later C13.out)
    clear O_g0_12
    go_wp2_with fail
    refine (iRungOn_f l A13 l.length day _ (O_t15_13.out.rd Rcd_enc_len) (by omega) (Nat.le_refl _) Hml.out H.out).mono ?_
    rintro e w14 ⟨rfl, hb⟩
    have C14 := Lib.hid hb
    clear hb
    have t14 := C14.out.size
    have Bw14 := Lib.hid (Bw13.out.trans (C14.out.mono Bw13.out.size))
    have O_h0_14 : Hid (OwnL w14 w13.heap.size w14.heap.size none 5 Rcd.enc ([] : List Rcd)) := Lib.hid OwnL.nil
    have O_w0_14 := Lib.hid (O_w0_13.out.later C14.out)
    clear O_w0_13
    have O_g0_14 := Lib.hid (O_g0_13.out.later C14.out)
    clear O_g0_13
    go_wp2_with fail
    refine (eqRecordS_t ([] : List Rcd) none none 0 0 _ (O_h0_14.out.rd Rcd_enc_len) (O_w0_14.out.rd Rcd_enc_len) (by simp)).mono ?_
    rintro e w15 ⟨rfl, hb⟩
    have C15 := Lib.hid hb
    clear hb
    have t15 := C15.out.size
    have Bw15 := Lib.hid (Bw14.out.trans (C15.out.mono Bw14.out.size))
    have O_g0_15 := Lib.hid (O_g0_14.out.later C15.out)
    clear O_g0_14
    go_wp2_with fail
    refine (heldRecordS_any ([] : List Rcd).length none 0 1 _ (O_g0_15.out.rd Rcd_enc_len) (by simp) (by omega) (by omega)).mono ?_
    rintro e w16 ⟨he, hb⟩
    rw [← Hq11.out] at he
    subst he
    have C16 := Lib.hid hb
    clear hb
    have t16 := C16.out.size
    have Bw16 := Lib.hid (Bw15.out.trans (C16.out.mono Bw15.out.size))
    go_wp2_with fail
    go_ret
    exact ⟨rfl, Bw16.out⟩

namespace fnExactRungOn
open Go.ChangeShapes Go.WideShapes Go.ChangeAt Go.RowKit Go.Deep
open Go.ChangeMaps (open_string shut_string)
theorem own : ownKnob Try.prog.godebug = none := by kernel_rfl
theorem laid : laidOutB Try.prog = true := by kernel_rfl
theorem reads : Try.f11.params.toList.all (fun t => Try.prog.readableRec t && decide (t < Try.prog.types.size)) = true := by kernel_rfl
set_option maxRecDepth 100000 in
theorem lifted (os : Os) (started : os.Started) (H : Type) (enc : TypeId × Value → H) :
    ReturnsInHanded {} Try.checked os 11 .any (Rows.fnExactRungOnSpec.pre6 enc Try.prog Try.f11 Rows.fnExactRungOnRow.domain false) (Rows.fnExactRungOnSpec.post enc Try.prog Try.f11 false true false false) := by
  refine returnsInHanded_of_change (C := Try.checked) own started (by kernel_rfl) Try.func11
    (ChangeSpec.witness6 (enc := enc) (C := Try.checked) false ⟨#[], #[.slice none 0 0, .int .i64 0], []⟩ 8 (by kernel_rfl) (by kernel_rfl) (by kernel_rfl) (by kernel_rfl)) ?_
  intro W base args ds gs before hval0 hW hcnd _
  have hval : ∀ (j : Nat) t v, Try.f11.params[j]? = some t → args[j]? = some v → Value.okWide Try.prog W .any base t v := hval0
  have hW' := hW
  obtain ⟨p, q, hA0, hV, rfl, hfz, hnd⟩ := hW
  have hA : DataW.TrodAll enc Try.prog W 0 (fun _ => true) true Try.f11.params.toList args.toList ds p := hA0
  rw [Try.params11] at hA hval
  obtain ⟨rfl, rfl⟩ := trodVars_none hV
  have hlt : ∀ x ∈ p, x.block < W.heap.size := fun x hx => by simpa using hW'.lt x (List.mem_append.2 (.inl hx))
  clear hA0 hval0
  obtain ⟨v0, vs0, d0, ds0, p0, q0, hargs, rfl, rfl, h0, r0⟩ := trodAll_cons hA
  obtain ⟨v1, vs1, d1, ds1, p1, q1, rfl, rfl, rfl, h1, r1⟩ := trodAll_cons r0
  obtain ⟨rfl, rfl, rfl⟩ := trodAll_nil r1
  obtain rfl : args = #[v0, v1] := by cases args; simp_all
  clear hargs
  obtain ⟨A0, a0, c0, rfl, y0, x0, z0⟩ := open_list Try.underlying33 5 (by kernel_rfl) (by omega) Rcd.enc _ Record_el (hval 0 33 v0 rfl rfl) h0
  obtain ⟨a1, rfl, rfl, rfl, z1⟩ := open_int Try.underlying3 (hval 1 3 v1 rfl rfl) h1
  refine (rungOnLaw W a0 A0 c0 x0 (by unfold maxLen at y0; omega) z0 a1 (by simpa [Lit.wf, IntKind.min, IntKind.max, IntKind.signed, IntKind.bits] using z1)).mono fun e W' ⟨he, hg⟩ => ?_
  subst he
  exact ⟨_, rfl, law_post laid reads rfl Try.underlying4 rfl rfl hW' hg⟩
theorem over : Rows.fnExactRungOnRow.holds Try.pinned (OpenSpec.ofChange Rows.fnExactRungOnSpec) :=
  OpenClaim.holds_of_wide 11 Try.f11 rfl rfl rfl rfl rfl rfl rfl ⟨rfl, rfl, rfl, rfl, rfl⟩ rfl rfl rfl rfl rfl (by kernel_rfl) Try.func11 (by kernel_rfl)
    (of_decide_eq_true (by kernel_rfl)) (by unfold Func.isWrapper; first | (rw [if_pos (by decide +kernel)]; kernel_rfl) | (rw [if_neg (by decide +kernel)]; exact ⟨rfl, rfl⟩))
    (fun os started H enc _ => lifted os started H enc)
theorem proved : Rows.FnExactRungOnSaid := over
end fnExactRungOn
end Go.Proofs.Ytdegbckoejddeaa
