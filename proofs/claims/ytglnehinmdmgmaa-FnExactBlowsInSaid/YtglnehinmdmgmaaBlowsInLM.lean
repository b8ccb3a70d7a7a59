import Derived.Test.YtglnehinmdmgmaaMBlowsInL29
import Derived.Test.YtglnehinmdmgmaaMBlowsInL31
import Derived.Test.YtglnehinmdmgmaaMBlowsInL32
import Derived.Test.YtglnehinmdmgmaaMBlowsInL33
import Derived.Test.YtglnehinmdmgmaaMBlowsInL05
/-
  BlowsIn of the program returns what the reference's returns, for all arguments: no condition.
-/
namespace Go.Proofs.Ytglnehinmdmgmaa
open Go.RowKit Go.ChangeShapes Go.WideShapes
set_option linter.unusedVariables false
set_option linter.unusedSimpArgs false
set_option maxRecDepth 100000



theorem sBi_c (S : List Blw) (ok : Bool) {st0 gap0 hand0 s0 : Int} {rows0 : List ByteArray} {l0 : List Stk} (hS : biR st0 gap0 hand0 rows0 l0 s0 = (S, ok)) (st gap hand : Int) (rows : List ByteArray) (l : List Stk) (s : Int) (A A2 : Option Addr) (c c2 : Nat) (w : World) (h : RdL w w.heap.size A 1 encString rows) (h2 : RdL w w.heap.size A2 2 Stk.enc l) (hl : rows.length ≤ 1048576) (hl2 : l.length ≤ 1048576) (hs : ∀ x ∈ rows, String_small 1048576 x) (h1 : st = st0 := by rfl) (e2 : gap = gap0 := by rfl) (e3 : hand = hand0 := by rfl) (e4 : rows = rows0 := by rfl) (e5 : l = l0 := by rfl) (e6 : s = s0 := by rfl) :
    Calls Try.prog 6 #[.agg #[.int .i64 st, .int .i64 gap, .int .i64 hand], .slice A rows.length c, .slice A2 l.length c2, .int .i64 s] w fun e w' => ∃ (A' : Option Addr) (c' : Nat), e = .returned (.tuple #[.slice A' S.length c', .bool ok]) ∧ OwnL w' w.heap.size w'.heap.size A' 3 Blw.enc S ∧ Below w.heap.size w w' := by
  subst h1 e2 e3 e4 e5 e6
  have := sBlowsIn_any st gap hand rows l s A A2 c c2 w h h2 hl hl2 hs
  rw [hS] at this
  exact this
theorem iBi_c (S : List Blw) (ok : Bool) {st0 gap0 hand0 s0 : Int} {rows0 : List ByteArray} {l0 : List Stk} (hS : biR st0 gap0 hand0 rows0 l0 s0 = (S, ok)) (st gap hand : Int) (rows : List ByteArray) (l : List Stk) (s : Int) (A A2 : Option Addr) (c c2 : Nat) (w : World) (h : RdL w w.heap.size A 1 encString rows) (h2 : RdL w w.heap.size A2 2 Stk.enc l) (hl : rows.length ≤ 1048576) (hl2 : l.length ≤ 1048576) (hs : ∀ x ∈ rows, String_small 1048576 x) (h1 : st = st0 := by rfl) (e2 : gap = gap0 := by rfl) (e3 : hand = hand0 := by rfl) (e4 : rows = rows0 := by rfl) (e5 : l = l0 := by rfl) (e6 : s = s0 := by rfl) :
    Calls Try.prog 10 #[.agg #[.int .i64 st, .int .i64 gap, .int .i64 hand], .slice A rows.length c, .slice A2 l.length c2, .int .i64 s] w fun e w' => ∃ (A' : Option Addr) (c' : Nat), e = .returned (.tuple #[.slice A' S.length c', .bool ok]) ∧ OwnL w' w.heap.size w'.heap.size A' 3 Blw.enc S ∧ Below w.heap.size w w' := by
  subst h1 e2 e3 e4 e5 e6
  have := iBlowsIn_any st gap hand rows l s A A2 c c2 w h h2 hl hl2 hs
  rw [hS] at this
  exact this
set_option maxHeartbeats 4000000 in
theorem blowsInLaw (w : World) (b : Bea) (hsb : Beat_small 9223372036854775807 b) (rows : List ByteArray) (Arows : Option Addr) (crows : Nat) (hrrows : RdL w w.heap.size Arows 1 encString rows) (hlrows : rows.length ≤ 9223372036854775807) (hsrows : ∀ x ∈ rows, String_small 9223372036854775807 x) (l : List Stk) (Al : Option Addr) (cl : Nat) (hrl : RdL w w.heap.size Al 2 Stk.enc l) (hll : l.length ≤ 9223372036854775807) (hsl : ∀ x ∈ l, Strike_small 9223372036854775807 x) (skip : Int) (hszskip : -9223372036854775808 ≤ skip ∧ skip ≤ 9223372036854775807) :
    Calls Try.prog 3 #[.agg #[.int .i64 b.start, .int .i64 b.gap, .int .i64 b.hand], .slice Arows rows.length crows, .slice Al l.length cl, .int .i64 skip] w fun e w' => e = .returned (.bool true) ∧ Below w.heap.size w w' := by
  have Hsb := Lib.hid hsb
  clear hsb
  have Hrrows := Lib.hid hrrows
  have Hsrows := Lib.hid hsrows
  clear hrrows hsrows
  have Hrl := Lib.hid hrl
  have Hsl := Lib.hid hsl
  clear hrl hsl
  go_enter Try.func3, Try.ntmps3
  go_wp2_with fail
  have s0_0_0 : (w.alloc (.cells #[.int .i64 b.start, .int .i64 b.gap, .int .i64 b.hand] 23)).cell? ⟨w.heap.size, 0, none⟩ = some (.int .i64 b.start) := by simp [go_sem]
  have s0_0_1 : (w.alloc (.cells #[.int .i64 b.start, .int .i64 b.gap, .int .i64 b.hand] 23)).cell? ⟨w.heap.size, 1, none⟩ = some (.int .i64 b.gap) := by simp [go_sem]
  have s0_0_2 : (w.alloc (.cells #[.int .i64 b.start, .int .i64 b.gap, .int .i64 b.hand] 23)).cell? ⟨w.heap.size, 2, none⟩ = some (.int .i64 b.hand) := by simp [go_sem]
  have t0 : w.heap.size + 1 ≤ (w.alloc (.cells #[.int .i64 b.start, .int .i64 b.gap, .int .i64 b.hand] 23)).heap.size := by simp
  have Bw0 : Hid (Below w.heap.size w (w.alloc (.cells #[.int .i64 b.start, .int .i64 b.gap, .int .i64 b.hand] 23))) := Lib.hid (by repeat (first | exact Below.refl _ _ | (refine Below.alloc ?_ (by simp <;> omega) _)))
  generalize (w.alloc (.cells #[.int .i64 b.start, .int .i64 b.gap, .int .i64 b.hand] 23)) = w0 at *
  refine (szStringS_any rows Arows crows (1048576 : Int) _ ((Hrrows.out.below Bw0.out (Nat.le_refl _)).more Bw0.out.size) (by omega) (by omega) (by omega) Hsrows.out).mono ?_
  rintro e w1 ⟨r1, rfl, hz, hb⟩
  have C1 := Lib.hid hb
  clear hb
  have t1 := C1.out.size
  have Bw1 := Lib.hid (Bw0.out.trans (C1.out.mono Bw0.out.size))
  have Z1 := Lib.hid hz
  clear hz
  have s1_0_0 := (C1.out.cell (p := ⟨w.heap.size, 0, none⟩) (show w.heap.size < w0.heap.size from by omega)).trans s0_0_0
  clear s0_0_0
  have s1_0_1 := (C1.out.cell (p := ⟨w.heap.size, 1, none⟩) (show w.heap.size < w0.heap.size from by omega)).trans s0_0_1
  clear s0_0_1
  have s1_0_2 := (C1.out.cell (p := ⟨w.heap.size, 2, none⟩) (show w.heap.size < w0.heap.size from by omega)).trans s0_0_2
  clear s0_0_2
  by_cases n1 : r1 < 0
  · go_wp2_with fail
    go_ret
    exact ⟨rfl, Bw1.out⟩
  have z1 := Z1.out.resolve_left n1
  have y1 : 0 ≤ r1 ∧ r1 ≤ 1048576 ∧ rows.length ≤ 1048576 := ⟨z1.1, by have := z1.2.1; omega, by have := z1.2.2.1; omega⟩
  obtain ⟨y1a, y1b, hlrows'⟩ := y1
  have Hmrows : Hid (∀ x ∈ rows, String_small 1048576 x) := Lib.hid (fun x hx => by have := z1.2.2.2 x hx; simp only [String_small] at this ⊢; omega)
  clear z1
  go_wp2_with fail
  refine (szStrikeS_any l Al cl r1 _ (by omega) (by omega) (by omega)).mono ?_
  rintro e w2 ⟨r2, rfl, hz, hb⟩
  have C2 := Lib.hid hb
  clear hb
  have t2 := C2.out.size
  have Bw2 := Lib.hid (Bw1.out.trans (C2.out.mono Bw1.out.size))
  have Z2 := Lib.hid hz
  clear hz
  have s2_0_0 := (C2.out.cell (p := ⟨w.heap.size, 0, none⟩) (show w.heap.size < w1.heap.size from by omega)).trans s1_0_0
  clear s1_0_0
  have s2_0_1 := (C2.out.cell (p := ⟨w.heap.size, 1, none⟩) (show w.heap.size < w1.heap.size from by omega)).trans s1_0_1
  clear s1_0_1
  have s2_0_2 := (C2.out.cell (p := ⟨w.heap.size, 2, none⟩) (show w.heap.size < w1.heap.size from by omega)).trans s1_0_2
  clear s1_0_2
  by_cases n2 : r2 < 0
  · go_wp2_with fail
    go_ret
    exact ⟨rfl, Bw2.out⟩
  have z2 := Z2.out.resolve_left n2
  have y2 : 0 ≤ r2 ∧ r2 ≤ 1048576 ∧ l.length ≤ 1048576 := ⟨z2.1, by have := z2.2.1; omega, by have := z2.2.2.1; omega⟩
  obtain ⟨y2a, y2b, hll'⟩ := y2
  clear z2
  obtain ⟨⟨S, ok⟩, hS⟩ : ∃ R, Hid (biR b.start b.gap b.hand rows l skip = R) := ⟨_, Lib.hid rfl⟩
  have hlen : S.length ≤ 400 := by have := biR_len (st := b.start) (gap := b.gap) (hand := b.hand) (rows := rows) (l := l) (s := skip); rw [hS.out] at this; exact this
  skip
  go_wp2_with fail
  refine (toBeat_any b _).mono ?_
  rintro e w3 ⟨rfl, hb⟩
  have C3 := Lib.hid hb
  clear hb
  have t3 := C3.out.size
  have Bw3 := Lib.hid (Bw2.out.trans (C3.out.mono Bw2.out.size))
  have s3_0_0 := (C3.out.cell (p := ⟨w.heap.size, 0, none⟩) (show w.heap.size < w2.heap.size from by omega)).trans s2_0_0
  clear s2_0_0
  have s3_0_1 := (C3.out.cell (p := ⟨w.heap.size, 1, none⟩) (show w.heap.size < w2.heap.size from by omega)).trans s2_0_1
  clear s2_0_1
  have s3_0_2 := (C3.out.cell (p := ⟨w.heap.size, 2, none⟩) (show w.heap.size < w2.heap.size from by omega)).trans s2_0_2
  clear s2_0_2
  go_wp2_with fail
  refine (toStringS_any rows Arows crows _ ((Hrrows.out.below Bw3.out (Nat.le_refl _)).more Bw3.out.size) (by omega)).mono ?_
  rintro e w4 ⟨A4, rfl, ho, hb⟩
  have C4 := Lib.hid hb
  clear hb
  have t4 := C4.out.size
  have Bw4 := Lib.hid (Bw3.out.trans (C4.out.mono Bw3.out.size))
  have O_t3_4 := Lib.hid ho
  clear ho
  have s4_0_0 := (C4.out.cell (p := ⟨w.heap.size, 0, none⟩) (show w.heap.size < w3.heap.size from by omega)).trans s3_0_0
  clear s3_0_0
  have s4_0_1 := (C4.out.cell (p := ⟨w.heap.size, 1, none⟩) (show w.heap.size < w3.heap.size from by omega)).trans s3_0_1
  clear s3_0_1
  have s4_0_2 := (C4.out.cell (p := ⟨w.heap.size, 2, none⟩) (show w.heap.size < w3.heap.size from by omega)).trans s3_0_2
  clear s3_0_2
  go_wp2_with fail
  refine (toStrikeS_any l Al cl _ ((Hrl.out.below Bw4.out (Nat.le_refl _)).more Bw4.out.size) (by omega)).mono ?_
  rintro e w5 ⟨A5, rfl, ho, hb⟩
  have C5 := Lib.hid hb
  clear hb
  have t5 := C5.out.size
  have Bw5 := Lib.hid (Bw4.out.trans (C5.out.mono Bw4.out.size))
  have O_t4_5 := Lib.hid ho
  clear ho
  have s5_0_0 := (C5.out.cell (p := ⟨w.heap.size, 0, none⟩) (show w.heap.size < w4.heap.size from by omega)).trans s4_0_0
  clear s4_0_0
  have s5_0_1 := (C5.out.cell (p := ⟨w.heap.size, 1, none⟩) (show w.heap.size < w4.heap.size from by omega)).trans s4_0_1
  clear s4_0_1
  have s5_0_2 := (C5.out.cell (p := ⟨w.heap.size, 2, none⟩) (show w.heap.size < w4.heap.size from by omega)).trans s4_0_2
  clear s4_0_2
  have O_t3_5 := Lib.hid (O_t3_4.out.later C5.out)
  clear O_t3_4
  go_wp2_with fail
  refine (sBi_c S ok hS.out b.start b.gap b.hand rows l skip A4 A5 rows.length l.length _ (O_t3_5.out.rd encString_len) (O_t4_5.out.rd Stk_enc_len) (by omega) (by omega) Hmrows.out).mono ?_
  rintro e w6 ⟨A_w0, c_w0, rfl, ho0, hb⟩
  have C6 := Lib.hid hb
  clear hb
  have t6 := C6.out.size
  have Bw6 := Lib.hid (Bw5.out.trans (C6.out.mono Bw5.out.size))
  have O_w0_6 := Lib.hid ho0
  clear ho0
  have s6_0_0 := (C6.out.cell (p := ⟨w.heap.size, 0, none⟩) (show w.heap.size < w5.heap.size from by omega)).trans s5_0_0
  clear s5_0_0
  have s6_0_1 := (C6.out.cell (p := ⟨w.heap.size, 1, none⟩) (show w.heap.size < w5.heap.size from by omega)).trans s5_0_1
  clear s5_0_1
  have s6_0_2 := (C6.out.cell (p := ⟨w.heap.size, 2, none⟩) (show w.heap.size < w5.heap.size from by omega)).trans s5_0_2
  clear s5_0_2
  go_wp2_with fail
  refine (toStringS_any rows Arows crows _ ((Hrrows.out.below Bw6.out (Nat.le_refl _)).more Bw6.out.size) (by omega)).mono ?_
  rintro e w7 ⟨A7, rfl, ho, hb⟩
  have C7 := Lib.hid hb
  clear hb
  have t7 := C7.out.size
  have Bw7 := Lib.hid (Bw6.out.trans (C7.out.mono Bw6.out.size))
  have O_x1_7 := Lib.hid ho
  clear ho
  have s7_0_0 := (C7.out.cell (p := ⟨w.heap.size, 0, none⟩) (show w.heap.size < w6.heap.size from by omega)).trans s6_0_0
  clear s6_0_0
  have s7_0_1 := (C7.out.cell (p := ⟨w.heap.size, 1, none⟩) (show w.heap.size < w6.heap.size from by omega)).trans s6_0_1
  clear s6_0_1
  have s7_0_2 := (C7.out.cell (p := ⟨w.heap.size, 2, none⟩) (show w.heap.size < w6.heap.size from by omega)).trans s6_0_2
  clear s6_0_2
  have O_w0_7 := Lib.hid (O_w0_6.out.later C7.out)
  clear O_w0_6
  go_wp2_with fail
  refine (toStrikeS_any l Al cl _ ((Hrl.out.below Bw7.out (Nat.le_refl _)).more Bw7.out.size) (by omega)).mono ?_
  rintro e w8 ⟨A8, rfl, ho, hb⟩
  have C8 := Lib.hid hb
  clear hb
  have t8 := C8.out.size
  have Bw8 := Lib.hid (Bw7.out.trans (C8.out.mono Bw7.out.size))
  have O_x2_8 := Lib.hid ho
  clear ho
  have s8_0_0 := (C8.out.cell (p := ⟨w.heap.size, 0, none⟩) (show w.heap.size < w7.heap.size from by omega)).trans s7_0_0
  clear s7_0_0
  have s8_0_1 := (C8.out.cell (p := ⟨w.heap.size, 1, none⟩) (show w.heap.size < w7.heap.size from by omega)).trans s7_0_1
  clear s7_0_1
  have s8_0_2 := (C8.out.cell (p := ⟨w.heap.size, 2, none⟩) (show w.heap.size < w7.heap.size from by omega)).trans s7_0_2
  clear s7_0_2
  have O_w0_8 := Lib.hid (O_w0_7.out.later C8.out)
  clear O_w0_7
  have O_x1_8 := Lib.hid (O_x1_7.out.later C8.out)
  clear O_x1_7
  go_wp2_with fail
  refine (toBeat_any b _).mono ?_
  rintro e w9 ⟨rfl, hb⟩
  have C9 := Lib.hid hb
  clear hb
  have t9 := C9.out.size
  have Bw9 := Lib.hid (Bw8.out.trans (C9.out.mono Bw8.out.size))
  have s9_0_0 := (C9.out.cell (p := ⟨w.heap.size, 0, none⟩) (show w.heap.size < w8.heap.size from by omega)).trans s8_0_0
  clear s8_0_0
  have s9_0_1 := (C9.out.cell (p := ⟨w.heap.size, 1, none⟩) (show w.heap.size < w8.heap.size from by omega)).trans s8_0_1
  clear s8_0_1
  have s9_0_2 := (C9.out.cell (p := ⟨w.heap.size, 2, none⟩) (show w.heap.size < w8.heap.size from by omega)).trans s8_0_2
  clear s8_0_2
  have O_w0_9 := Lib.hid (O_w0_8.out.later C9.out)
  clear O_w0_8
  have O_x1_9 := Lib.hid (O_x1_8.out.later C9.out)
  clear O_x1_8
  have O_x2_9 := Lib.hid (O_x2_8.out.later C9.out)
  clear O_x2_8
  go_wp2_with fail
  refine (iBi_c S ok hS.out b.start b.gap b.hand rows l skip A7 A8 rows.length l.length _ (O_x1_9.out.rd encString_len) (O_x2_9.out.rd Stk_enc_len) (by omega) (by omega) Hmrows.out).mono ?_
  rintro e w10 ⟨A_g0, c_g0, rfl, ho0, hb⟩
  have C10 := Lib.hid hb
  clear hb
  have t10 := C10.out.size
  have Bw10 := Lib.hid (Bw9.out.trans (C10.out.mono Bw9.out.size))
  have O_g0_10 := Lib.hid ho0
  clear ho0
  have s10_0_0 := (C10.out.cell (p := ⟨w.heap.size, 0, none⟩) (show w.heap.size < w9.heap.size from by omega)).trans s9_0_0
  clear s9_0_0
  have s10_0_1 := (C10.out.cell (p := ⟨w.heap.size, 1, none⟩) (show w.heap.size < w9.heap.size from by omega)).trans s9_0_1
  clear s9_0_1
  have s10_0_2 := (C10.out.cell (p := ⟨w.heap.size, 2, none⟩) (show w.heap.size < w9.heap.size from by omega)).trans s9_0_2
  clear s9_0_2
  have O_w0_10 := Lib.hid (O_w0_9.out.later C10.out)
  clear O_w0_9
  have O_x1_10 := Lib.hid (O_x1_9.out.later C10.out)
  clear O_x1_9
  have O_x2_10 := Lib.hid (O_x2_9.out.later C10.out)
  clear O_x2_9
  go_wp2_with fail
  refine (eqBlowS_t S A_g0 A_w0 c_g0 c_w0 _ (O_g0_10.out.rd Blw_enc_len) (O_w0_10.out.rd Blw_enc_len) (by omega)).mono ?_
  rintro e w11 ⟨rfl, hb⟩
  have C11 := Lib.hid hb
  clear hb
  have t11 := C11.out.size
  have Bw11 := Lib.hid (Bw10.out.trans (C11.out.mono Bw10.out.size))
  have s11_0_0 := (C11.out.cell (p := ⟨w.heap.size, 0, none⟩) (show w.heap.size < w10.heap.size from by omega)).trans s10_0_0
  clear s10_0_0
  have s11_0_1 := (C11.out.cell (p := ⟨w.heap.size, 1, none⟩) (show w.heap.size < w10.heap.size from by omega)).trans s10_0_1
  clear s10_0_1
  have s11_0_2 := (C11.out.cell (p := ⟨w.heap.size, 2, none⟩) (show w.heap.size < w10.heap.size from by omega)).trans s10_0_2
  clear s10_0_2
  have O_w0_11 := Lib.hid (O_w0_10.out.later C11.out)
  clear O_w0_10
  have O_x1_11 := Lib.hid (O_x1_10.out.later C11.out)
  clear O_x1_10
  have O_x2_11 := Lib.hid (O_x2_10.out.later C11.out)
  clear O_x2_10
  have O_g0_11 := Lib.hid (O_g0_10.out.later C11.out)
  clear O_g0_10
  go_wp2_with fail
  refine (toStringS_any rows Arows crows _ ((Hrrows.out.below Bw11.out (Nat.le_refl _)).more Bw11.out.size) (by omega)).mono ?_
  rintro e w12 ⟨A12, rfl, ho, hb⟩
  have C12 := Lib.hid hb
  clear hb
  have t12 := C12.out.size
  have Bw12 := Lib.hid (Bw11.out.trans (C12.out.mono Bw11.out.size))
  have O_t11_12 := Lib.hid ho
  clear ho
  have s12_0_0 := (C12.out.cell (p := ⟨w.heap.size, 0, none⟩) (show w.heap.size < w11.heap.size from by omega)).trans s11_0_0
  clear s11_0_0
  have s12_0_1 := (C12.out.cell (p := ⟨w.heap.size, 1, none⟩) (show w.heap.size < w11.heap.size from by omega)).trans s11_0_1
  clear s11_0_1
  have s12_0_2 := (C12.out.cell (p := ⟨w.heap.size, 2, none⟩) (show w.heap.size < w11.heap.size from by omega)).trans s11_0_2
  clear s11_0_2
  have O_w0_12 := Lib.hid (O_w0_11.out.later C12.out)
  clear O_w0_11
  have O_x1_12 := Lib.hid (O_x1_11.out.later C12.out)
  clear O_x1_11
  have O_x2_12 := Lib.hid (O_x2_11.out.later C12.out)
  clear O_x2_11
  have O_g0_12 := Lib.hid (O_g0_11.out.later C12.out)
  clear O_g0_11
  go_wp2_with fail
  refine (eqStringS_t rows A7 A12 rows.length rows.length _ (O_x1_12.out.rd encString_len) (O_t11_12.out.rd encString_len) (by omega)).mono ?_
  rintro e w13 ⟨rfl, hb⟩
  have C13 := Lib.hid hb
  clear hb
  have t13 := C13.out.size
  have Bw13 := Lib.hid (Bw12.out.trans (C13.out.mono Bw12.out.size))
  have s13_0_0 := (C13.out.cell (p := ⟨w.heap.size, 0, none⟩) (show w.heap.size < w12.heap.size from by omega)).trans s12_0_0
  clear s12_0_0
  have s13_0_1 := (C13.out.cell (p := ⟨w.heap.size, 1, none⟩) (show w.heap.size < w12.heap.size from by omega)).trans s12_0_1
  clear s12_0_1
  have s13_0_2 := (C13.out.cell (p := ⟨w.heap.size, 2, none⟩) (show w.heap.size < w12.heap.size from by omega)).trans s12_0_2
  clear s12_0_2
  have O_w0_13 := Lib.hid (O_w0_12.out.later C13.out)
  clear O_w0_12
  have O_x1_13 := Lib.hid (O_x1_12.out.later C13.out)
  clear O_x1_12
  have O_x2_13 := Lib.hid (O_x2_12.out.later C13.out)
  clear O_x2_12
  have O_g0_13 := Lib.hid (O_g0_12.out.later C13.out)
  clear O_g0_12
  go_wp2_with fail
  refine (toStrikeS_any l Al cl _ ((Hrl.out.below Bw13.out (Nat.le_refl _)).more Bw13.out.size) (by omega)).mono ?_
  rintro e w14 ⟨A14, rfl, ho, hb⟩
  have C14 := Lib.hid hb
  clear hb
  have t14 := C14.out.size
  have Bw14 := Lib.hid (Bw13.out.trans (C14.out.mono Bw13.out.size))
  have O_t13_14 := Lib.hid ho
  clear ho
  have s14_0_0 := (C14.out.cell (p := ⟨w.heap.size, 0, none⟩) (show w.heap.size < w13.heap.size from by omega)).trans s13_0_0
  clear s13_0_0
  have s14_0_1 := (C14.out.cell (p := ⟨w.heap.size, 1, none⟩) (show w.heap.size < w13.heap.size from by omega)).trans s13_0_1
  clear s13_0_1
  have s14_0_2 := (C14.out.cell (p := ⟨w.heap.size, 2, none⟩) (show w.heap.size < w13.heap.size from by omega)).trans s13_0_2
  clear s13_0_2
  have O_w0_14 := Lib.hid (O_w0_13.out.later C14.out)
  clear O_w0_13
  have O_x1_14 := Lib.hid (O_x1_13.out.later C14.out)
  clear O_x1_13
  have O_x2_14 := Lib.hid (O_x2_13.out.later C14.out)
  clear O_x2_13
  have O_g0_14 := Lib.hid (O_g0_13.out.later C14.out)
  clear O_g0_13
  go_wp2_with fail
  refine (eqStrikeS_t l A8 A14 l.length l.length _ (O_x2_14.out.rd Stk_enc_len) (O_t13_14.out.rd Stk_enc_len) (by omega)).mono ?_
  rintro e w15 ⟨rfl, hb⟩
  have C15 := Lib.hid hb
  clear hb
  have t15 := C15.out.size
  have Bw15 := Lib.hid (Bw14.out.trans (C15.out.mono Bw14.out.size))
  have s15_0_0 := (C15.out.cell (p := ⟨w.heap.size, 0, none⟩) (show w.heap.size < w14.heap.size from by omega)).trans s14_0_0
  clear s14_0_0
  have s15_0_1 := (C15.out.cell (p := ⟨w.heap.size, 1, none⟩) (show w.heap.size < w14.heap.size from by omega)).trans s14_0_1
  clear s14_0_1
  have s15_0_2 := (C15.out.cell (p := ⟨w.heap.size, 2, none⟩) (show w.heap.size < w14.heap.size from by omega)).trans s14_0_2
  clear s14_0_2
  have O_w0_15 := Lib.hid (O_w0_14.out.later C15.out)
  clear O_w0_14
  have O_x1_15 := Lib.hid (O_x1_14.out.later C15.out)
  clear O_x1_14
  have O_x2_15 := Lib.hid (O_x2_14.out.later C15.out)
  clear O_x2_14
  have O_g0_15 := Lib.hid (O_g0_14.out.later C15.out)
  clear O_g0_14
  go_wp2_with fail
  refine (markStringS_any rows _ _ A7 rows.length 1 _ O_x1_15.out (by omega) (by omega) (by omega)).mono ?_
  rintro e w16 ⟨he, ho, hc⟩
  obtain ⟨q16, hq⟩ : ∃ q : Nat, q = 1 + rows.length * 1 := ⟨_, rfl⟩
  rw [← hq] at he
  subst he
  have Hq16 := Lib.hid hq
  have b16 : 0 < q16 ∧ q16 ≤ 10000001 := by omega
  obtain ⟨b16a, b16b⟩ := b16
  clear hq
  have C16 := Lib.hid hc
  clear hc
  have t16 := C16.out.size
  have Bw16 := Lib.hid (Below.chg Bw15.out C16.out (by omega) Bw15.out.size)
  have O_x1_16 := Lib.hid ho
  clear ho
  have s16_0_0 := (C16.out.cell (p := ⟨w.heap.size, 0, none⟩) (show w.heap.size < w15.heap.size from by omega) (.inl (show w.heap.size < _ from by omega))).trans s15_0_0
  clear s15_0_0
  have s16_0_1 := (C16.out.cell (p := ⟨w.heap.size, 1, none⟩) (show w.heap.size < w15.heap.size from by omega) (.inl (show w.heap.size < _ from by omega))).trans s15_0_1
  clear s15_0_1
  have s16_0_2 := (C16.out.cell (p := ⟨w.heap.size, 2, none⟩) (show w.heap.size < w15.heap.size from by omega) (.inl (show w.heap.size < _ from by omega))).trans s15_0_2
  clear s15_0_2
  have O_w0_16 := Lib.hid (O_w0_15.out.chg C16.out (by omega))
  clear O_w0_15
  have O_x2_16 := Lib.hid (O_x2_15.out.chg C16.out (by omega))
  clear O_x2_15
  have O_g0_16 := Lib.hid (O_g0_15.out.chg C16.out (by omega))
  clear O_g0_15
  go_wp2_with fail
  refine (markStrikeS_any l _ _ A8 l.length q16 _ O_x2_16.out (by omega) (by omega) (by omega)).mono ?_
  rintro e w17 ⟨he, ho, hc⟩
  obtain ⟨q17, hq⟩ : ∃ q : Nat, q = q16 + l.length * 2 := ⟨_, rfl⟩
  rw [← hq] at he
  subst he
  have Hq17 := Lib.hid hq
  have b17 : 0 < q17 ∧ q17 ≤ 20000001 := by omega
  obtain ⟨b17a, b17b⟩ := b17
  clear hq
  have C17 := Lib.hid hc
  clear hc
  have t17 := C17.out.size
  have Bw17 := Lib.hid (Below.chg Bw16.out C17.out (by omega) Bw16.out.size)
  have O_x2_17 := Lib.hid ho
  clear ho
  have s17_0_0 := (C17.out.cell (p := ⟨w.heap.size, 0, none⟩) (show w.heap.size < w16.heap.size from by omega) (.inl (show w.heap.size < _ from by omega))).trans s16_0_0
  clear s16_0_0
  have s17_0_1 := (C17.out.cell (p := ⟨w.heap.size, 1, none⟩) (show w.heap.size < w16.heap.size from by omega) (.inl (show w.heap.size < _ from by omega))).trans s16_0_1
  clear s16_0_1
  have s17_0_2 := (C17.out.cell (p := ⟨w.heap.size, 2, none⟩) (show w.heap.size < w16.heap.size from by omega) (.inl (show w.heap.size < _ from by omega))).trans s16_0_2
  clear s16_0_2
  have O_w0_17 := Lib.hid (O_w0_16.out.chg C17.out (by omega))
  clear O_w0_16
  have O_g0_17 := Lib.hid (O_g0_16.out.chg C17.out (by omega))
  clear O_g0_16
  go_wp2_with fail
  refine (eqBlowS_t S A_g0 A_w0 c_g0 c_w0 _ (O_g0_17.out.rd Blw_enc_len) (O_w0_17.out.rd Blw_enc_len) (by omega)).mono ?_
  rintro e w18 ⟨rfl, hb⟩
  have C18 := Lib.hid hb
  clear hb
  have t18 := C18.out.size
  have Bw18 := Lib.hid (Bw17.out.trans (C18.out.mono Bw17.out.size))
  have s18_0_0 := (C18.out.cell (p := ⟨w.heap.size, 0, none⟩) (show w.heap.size < w17.heap.size from by omega)).trans s17_0_0
  clear s17_0_0
  have s18_0_1 := (C18.out.cell (p := ⟨w.heap.size, 1, none⟩) (show w.heap.size < w17.heap.size from by omega)).trans s17_0_1
  clear s17_0_1
  have s18_0_2 := (C18.out.cell (p := ⟨w.heap.size, 2, none⟩) (show w.heap.size < w17.heap.size from by omega)).trans s17_0_2
  clear s17_0_2
  have O_w0_18 := Lib.hid (O_w0_17.out.later C18.out)
  clear O_w0_17
  have O_g0_18 := Lib.hid (O_g0_17.out.later C18.out)
  clear O_g0_17
  go_wp2_with fail
  refine (markBlowS_any S _ _ A_g0 c_g0 1 _ O_g0_18.out (by omega) (by omega) (by omega)).mono ?_
  rintro e w19 ⟨he, ho, hc⟩
  obtain ⟨q19, hq⟩ : ∃ q : Nat, q = 1 + S.length * 3 := ⟨_, rfl⟩
  rw [← hq] at he
  subst he
  have Hq19 := Lib.hid hq
  have b19 : 0 < q19 ∧ q19 ≤ 10000001 := by omega
  obtain ⟨b19a, b19b⟩ := b19
  clear hq
  have C19 := Lib.hid hc
  clear hc
  have t19 := C19.out.size
  have Bw19 := Lib.hid (Below.chg Bw18.out C19.out (by omega) Bw18.out.size)
  have O_g0_19 := Lib.hid ho
  clear ho
  have s19_0_0 := (C19.out.cell (p := ⟨w.heap.size, 0, none⟩) (show w.heap.size < w18.heap.size from by omega) (.inl (show w.heap.size < _ from by omega))).trans s18_0_0
  clear s18_0_0
  have s19_0_1 := (C19.out.cell (p := ⟨w.heap.size, 1, none⟩) (show w.heap.size < w18.heap.size from by omega) (.inl (show w.heap.size < _ from by omega))).trans s18_0_1
  clear s18_0_1
  have s19_0_2 := (C19.out.cell (p := ⟨w.heap.size, 2, none⟩) (show w.heap.size < w18.heap.size from by omega) (.inl (show w.heap.size < _ from by omega))).trans s18_0_2
  clear s18_0_2
  have O_w0_19 := Lib.hid (O_w0_18.out.chg C19.out (by omega))
  clear O_w0_18
  go_wp2_with fail
  refine (heldBlowS_any S.length A_g0 c_g0 1 _ (O_g0_19.out.rd Blw_enc_len) (by omega) (by omega) (by omega)).mono ?_
  rintro e w20 ⟨he, hb⟩
  rw [← Hq19.out] at he
  subst he
  have C20 := Lib.hid hb
  clear hb
  have t20 := C20.out.size
  have Bw20 := Lib.hid (Bw19.out.trans (C20.out.mono Bw19.out.size))
  have s20_0_0 := (C20.out.cell (p := ⟨w.heap.size, 0, none⟩) (show w.heap.size < w19.heap.size from by omega)).trans s19_0_0
  clear s19_0_0
  have s20_0_1 := (C20.out.cell (p := ⟨w.heap.size, 1, none⟩) (show w.heap.size < w19.heap.size from by omega)).trans s19_0_1
  clear s19_0_1
  have s20_0_2 := (C20.out.cell (p := ⟨w.heap.size, 2, none⟩) (show w.heap.size < w19.heap.size from by omega)).trans s19_0_2
  clear s19_0_2
  have O_w0_20 := Lib.hid (O_w0_19.out.later C20.out)
  clear O_w0_19
  have O_g0_20 := Lib.hid (O_g0_19.out.later C20.out)
  clear O_g0_19
  go_wp2_with fail
  refine (toBeat_any b _).mono ?_
  rintro e w21 ⟨rfl, hb⟩
  have C21 := Lib.hid hb
  clear hb
  have t21 := C21.out.size
  have Bw21 := Lib.hid (Bw20.out.trans (C21.out.mono Bw20.out.size))
  have s21_0_0 := (C21.out.cell (p := ⟨w.heap.size, 0, none⟩) (show w.heap.size < w20.heap.size from by omega)).trans s20_0_0
  clear s20_0_0
  have s21_0_1 := (C21.out.cell (p := ⟨w.heap.size, 1, none⟩) (show w.heap.size < w20.heap.size from by omega)).trans s20_0_1
  clear s20_0_1
  have s21_0_2 := (C21.out.cell (p := ⟨w.heap.size, 2, none⟩) (show w.heap.size < w20.heap.size from by omega)).trans s20_0_2
  clear s20_0_2
  have O_w0_21 := Lib.hid (O_w0_20.out.later C21.out)
  clear O_w0_20
  have O_g0_21 := Lib.hid (O_g0_20.out.later C21.out)
  clear O_g0_20
  go_wp2_with fail
  refine (toStringS_any rows Arows crows _ ((Hrrows.out.below Bw21.out (Nat.le_refl _)).more Bw21.out.size) (by omega)).mono ?_
  rintro e w22 ⟨A22, rfl, ho, hb⟩
  have C22 := Lib.hid hb
  clear hb
  have t22 := C22.out.size
  have Bw22 := Lib.hid (Bw21.out.trans (C22.out.mono Bw21.out.size))
  have O_t24_22 := Lib.hid ho
  clear ho
  have s22_0_0 := (C22.out.cell (p := ⟨w.heap.size, 0, none⟩) (show w.heap.size < w21.heap.size from by omega)).trans s21_0_0
  clear s21_0_0
  have s22_0_1 := (C22.out.cell (p := ⟨w.heap.size, 1, none⟩) (show w.heap.size < w21.heap.size from by omega)).trans s21_0_1
  clear s21_0_1
  have s22_0_2 := (C22.out.cell (p := ⟨w.heap.size, 2, none⟩) (show w.heap.size < w21.heap.size from by omega)).trans s21_0_2
  clear s21_0_2
  have O_w0_22 := Lib.hid (O_w0_21.out.later C22.out)
  clear O_w0_21
  have O_g0_22 := Lib.hid (O_g0_21.out.later C22.out)
  clear O_g0_21
  go_wp2_with fail
  refine (toStrikeS_any l Al cl _ ((Hrl.out.below Bw22.out (Nat.le_refl _)).more Bw22.out.size) (by omega)).mono ?_
  rintro e w23 ⟨A23, rfl, ho, hb⟩
  have C23 := Lib.hid hb
  clear hb
  have t23 := C23.out.size
  have Bw23 := Lib.hid (Bw22.out.trans (C23.out.mono Bw22.out.size))
  have O_t25_23 := Lib.hid ho
  clear ho
  have s23_0_0 := (C23.out.cell (p := ⟨w.heap.size, 0, none⟩) (show w.heap.size < w22.heap.size from by omega)).trans s22_0_0
  clear s22_0_0
  have s23_0_1 := (C23.out.cell (p := ⟨w.heap.size, 1, none⟩) (show w.heap.size < w22.heap.size from by omega)).trans s22_0_1
  clear s22_0_1
  have s23_0_2 := (C23.out.cell (p := ⟨w.heap.size, 2, none⟩) (show w.heap.size < w22.heap.size from by omega)).trans s22_0_2
  clear s22_0_2
  have O_w0_23 := Lib.hid (O_w0_22.out.later C23.out)
  clear O_w0_22
  have O_g0_23 := Lib.hid (O_g0_22.out.later C23.out)
  clear O_g0_22
  have O_t24_23 := Lib.hid (O_t24_22.out.later C23.out)
  clear O_t24_22
  go_wp2_with fail
  refine (iBi_c S ok hS.out b.start b.gap b.hand rows l skip A22 A23 rows.length l.length _ (O_t24_23.out.rd encString_len) (O_t25_23.out.rd Stk_enc_len) (by omega) (by omega) Hmrows.out).mono ?_
  rintro e w24 ⟨A_h0, c_h0, rfl, ho0, hb⟩
  have C24 := Lib.hid hb
  clear hb
  have t24 := C24.out.size
  have Bw24 := Lib.hid (Bw23.out.trans (C24.out.mono Bw23.out.size))
  have O_h0_24 := Lib.hid ho0
  clear ho0
  have s24_0_0 := (C24.out.cell (p := ⟨w.heap.size, 0, none⟩) (show w.heap.size < w23.heap.size from by omega)).trans s23_0_0
  clear s23_0_0
  have s24_0_1 := (C24.out.cell (p := ⟨w.heap.size, 1, none⟩) (show w.heap.size < w23.heap.size from by omega)).trans s23_0_1
  clear s23_0_1
  have s24_0_2 := (C24.out.cell (p := ⟨w.heap.size, 2, none⟩) (show w.heap.size < w23.heap.size from by omega)).trans s23_0_2
  clear s23_0_2
  have O_w0_24 := Lib.hid (O_w0_23.out.later C24.out)
  clear O_w0_23
  have O_g0_24 := Lib.hid (O_g0_23.out.later C24.out)
  clear O_g0_23
  go_wp2_with fail
  refine (eqBlowS_t S A_h0 A_w0 c_h0 c_w0 _ (O_h0_24.out.rd Blw_enc_len) (O_w0_24.out.rd Blw_enc_len) (by omega)).mono ?_
  rintro e w25 ⟨rfl, hb⟩
  have C25 := Lib.hid hb
  clear hb
  have t25 := C25.out.size
  have Bw25 := Lib.hid (Bw24.out.trans (C25.out.mono Bw24.out.size))
  have s25_0_0 := (C25.out.cell (p := ⟨w.heap.size, 0, none⟩) (show w.heap.size < w24.heap.size from by omega)).trans s24_0_0
  clear s24_0_0
  have s25_0_1 := (C25.out.cell (p := ⟨w.heap.size, 1, none⟩) (show w.heap.size < w24.heap.size from by omega)).trans s24_0_1
  clear s24_0_1
  have s25_0_2 := (C25.out.cell (p := ⟨w.heap.size, 2, none⟩) (show w.heap.size < w24.heap.size from by omega)).trans s24_0_2
  clear s24_0_2
  have O_g0_25 := Lib.hid (O_g0_24.out.later C25.out)
  clear O_g0_24
  go_wp2_with fail
  refine (heldBlowS_any S.length A_g0 c_g0 1 _ (O_g0_25.out.rd Blw_enc_len) (by omega) (by omega) (by omega)).mono ?_
  rintro e w26 ⟨he, hb⟩
  rw [← Hq19.out] at he
  subst he
  have C26 := Lib.hid hb
  clear hb
  have t26 := C26.out.size
  have Bw26 := Lib.hid (Bw25.out.trans (C26.out.mono Bw25.out.size))
  have s26_0_0 := (C26.out.cell (p := ⟨w.heap.size, 0, none⟩) (show w.heap.size < w25.heap.size from by omega)).trans s25_0_0
  clear s25_0_0
  have s26_0_1 := (C26.out.cell (p := ⟨w.heap.size, 1, none⟩) (show w.heap.size < w25.heap.size from by omega)).trans s25_0_1
  clear s25_0_1
  have s26_0_2 := (C26.out.cell (p := ⟨w.heap.size, 2, none⟩) (show w.heap.size < w25.heap.size from by omega)).trans s25_0_2
  clear s25_0_2
  go_wp2_with fail
  go_ret
  exact ⟨rfl, Bw26.out⟩

namespace fnExactBlowsIn
open Go.ChangeShapes Go.WideShapes Go.ChangeAt Go.RowKit Go.Deep
open Go.ChangeMaps (open_string shut_string)
theorem own : ownKnob Try.prog.godebug = none := by kernel_rfl
theorem laid : laidOutB Try.prog = true := by kernel_rfl
theorem reads : Try.f3.params.toList.all (fun t => Try.prog.readableRec t && decide (t < Try.prog.types.size)) = true := by kernel_rfl
set_option maxRecDepth 100000 in
theorem lifted (os : Os) (started : os.Started) (H : Type) (enc : TypeId × Value → H) :
    ReturnsInHanded {} Try.checked os 3 .any (Rows.fnExactBlowsInSpec.pre6 enc Try.prog Try.f3 Rows.fnExactBlowsInRow.domain false) (Rows.fnExactBlowsInSpec.post enc Try.prog Try.f3 false true false false) := by
  refine returnsInHanded_of_change (C := Try.checked) own started (by kernel_rfl) Try.func3
    (ChangeSpec.witness6 (enc := enc) (C := Try.checked) false ⟨#[], #[.agg #[.int .i64 0, .int .i64 0, .int .i64 0], .slice none 0 0, .slice none 0 0, .int .i64 0], []⟩ 8 (by kernel_rfl) (by kernel_rfl) (by kernel_rfl) (by kernel_rfl)) ?_
  intro W base args ds gs before hval0 hW hcnd _
  have hval : ∀ (j : Nat) t v, Try.f3.params[j]? = some t → args[j]? = some v → Value.okWide Try.prog W .any base t v := hval0
  have hW' := hW
  obtain ⟨p, q, hA0, hV, rfl, hfz, hnd⟩ := hW
  have hA : DataW.TrodAll enc Try.prog W 0 (fun _ => true) true Try.f3.params.toList args.toList ds p := hA0
  rw [Try.params3] at hA hval
  obtain ⟨rfl, rfl⟩ := trodVars_none hV
  have hlt : ∀ x ∈ p, x.block < W.heap.size := fun x hx => by simpa using hW'.lt x (List.mem_append.2 (.inl hx))
  clear hA0 hval0
  obtain ⟨v0, vs0, d0, ds0, p0, q0, hargs, rfl, rfl, h0, r0⟩ := trodAll_cons hA
  obtain ⟨v1, vs1, d1, ds1, p1, q1, rfl, rfl, rfl, h1, r1⟩ := trodAll_cons r0
  obtain ⟨v2, vs2, d2, ds2, p2, q2, rfl, rfl, rfl, h2, r2⟩ := trodAll_cons r1
  obtain ⟨v3, vs3, d3, ds3, p3, q3, rfl, rfl, rfl, h3, r3⟩ := trodAll_cons r2
  obtain ⟨rfl, rfl, rfl⟩ := trodAll_nil r3
  obtain rfl : args = #[v0, v1, v2, v3] := by cases args; simp_all
  clear hargs
  obtain ⟨a0, rfl, z0⟩ := open_struct Try.underlying23 Bea.enc _ Beat_el (hval 0 23 v0 rfl rfl) h0
  obtain ⟨A1, a1, c1, rfl, y1, x1, z1⟩ := open_list Try.underlying24 1 (by kernel_rfl) (by omega) encString _ String_el (hval 1 24 v1 rfl rfl) h1
  obtain ⟨A2, a2, c2, rfl, y2, x2, z2⟩ := open_list Try.underlying25 2 (by kernel_rfl) (by omega) Stk.enc _ Strike_el (hval 2 25 v2 rfl rfl) h2
  obtain ⟨a3, rfl, rfl, rfl, z3⟩ := open_int Try.underlying3 (hval 3 3 v3 rfl rfl) h3
  refine (blowsInLaw W a0 z0 a1 A1 c1 x1 (by unfold maxLen at y1; omega) z1 a2 A2 c2 x2 (by unfold maxLen at y2; omega) z2 a3 (by simpa [Lit.wf, IntKind.min, IntKind.max, IntKind.signed, IntKind.bits] using z3)).mono fun e W' ⟨he, hg⟩ => ?_
  subst he
  exact ⟨_, rfl, law_post laid reads rfl Try.underlying4 rfl rfl hW' hg⟩
theorem over : Rows.fnExactBlowsInRow.holds Try.pinned (OpenSpec.ofChange Rows.fnExactBlowsInSpec) :=
  OpenClaim.holds_of_wide 3 Try.f3 rfl rfl rfl rfl rfl rfl rfl ⟨rfl, rfl, rfl, rfl, rfl⟩ rfl rfl rfl rfl rfl (by kernel_rfl) Try.func3 facts
    (of_decide_eq_true (by kernel_rfl)) (by unfold Func.isWrapper; first | (rw [if_pos (by decide +kernel)]; kernel_rfl) | (rw [if_neg (by decide +kernel)]; exact ⟨rfl, rfl⟩))
    (fun os started H enc _ => lifted os started H enc)
theorem proved : Rows.FnExactBlowsInSaid := over
end fnExactBlowsIn
end Go.Proofs.Ytglnehinmdmgmaa
