/-
  SlipsOf of the program returns what the reference's returns, for all arguments: no condition.
-/
import Derived.Test.YtdegbckoejddeaaSlipsOf
import Derived.Test.YtdegbckoejddeaaTySlip
import Derived.Test.YtdegbckoejddeaaRow
import Derived.Test.YtdegbckoejddeaaOpen
namespace Go.Proofs.Ytdegbckoejddeaa
open Go.RowKit
set_option linter.unusedVariables false
set_option linter.unusedSimpArgs false
set_option maxRecDepth 100000

set_option maxHeartbeats 4000000 in
theorem slipsOfLaw (w : World) (a : List ByteArray) (Aa : Option Addr) (ca : Nat) (hra : RdL w w.heap.size Aa 1 encString a) (hla : a.length ≤ 9223372036854775807) (hsa : ∀ x ∈ a, String_small 9223372036854775807 x) (b : List ByteArray) (Ab : Option Addr) (cb : Nat) (hrb : RdL w w.heap.size Ab 1 encString b) (hlb : b.length ≤ 9223372036854775807) (hsb : ∀ x ∈ b, String_small 9223372036854775807 x) :
    Calls Try.prog 9 #[.slice Aa a.length ca, .slice Ab b.length cb] w fun e w' => e = .returned (.bool true) ∧ Below w.heap.size w w' := by
  have Hra := Lib.hid hra
  have Hsa := Lib.hid hsa
  clear hra hsa
  have Hrb := Lib.hid hrb
  have Hsb := Lib.hid hsb
  clear hrb hsb
  have Bw0 := Lib.hid (Below.refl w.heap.size w)
  go_enter Try.func9, Try.ntmps9
  go_wp2_with fail
  refine (szStringS_any a Aa ca (1048576 : Int) _ ((Hra.out.below Bw0.out (Nat.le_refl _)).more Bw0.out.size) (by omega) (by omega) (by omega) Hsa.out).mono ?_
  rintro e w1 ⟨r1, rfl, hz, hb⟩
  have C1 := Lib.hid hb
  clear hb
  have t1 := C1.out.size
  have Bw1 := Lib.hid (Bw0.out.trans (C1.out.mono Bw0.out.size))
  have Z1 := Lib.hid hz
  clear hz
  by_cases n1 : r1 < 0
  · go_wp2_with fail
    go_ret
    exact ⟨rfl, Bw1.out⟩
  have z1 := Z1.out.resolve_left n1
  have y1 : 0 ≤ r1 ∧ r1 ≤ 1048576 ∧ a.length ≤ 1048576 := ⟨z1.1, by have := z1.2.1; omega, by have := z1.2.2.1; omega⟩
  obtain ⟨y1a, y1b, hla'⟩ := y1
  have Hma : Hid (∀ x ∈ a, String_small 1048576 x) := Lib.hid (fun x hx => by have := z1.2.2.2 x hx; simp only [String_small] at this ⊢; omega)
  clear z1
  go_wp2_with fail
  refine (szStringS_any b Ab cb r1 _ ((Hrb.out.below Bw1.out (Nat.le_refl _)).more Bw1.out.size) (by omega) (by omega) (by omega) Hsb.out).mono ?_
  rintro e w2 ⟨r2, rfl, hz, hb⟩
  have C2 := Lib.hid hb
  clear hb
  have t2 := C2.out.size
  have Bw2 := Lib.hid (Bw1.out.trans (C2.out.mono Bw1.out.size))
  have Z2 := Lib.hid hz
  clear hz
  by_cases n2 : r2 < 0
  · go_wp2_with fail
    go_ret
    exact ⟨rfl, Bw2.out⟩
  have z2 := Z2.out.resolve_left n2
  have y2 : 0 ≤ r2 ∧ r2 ≤ 1048576 ∧ b.length ≤ 1048576 := ⟨z2.1, by have := z2.2.1; omega, by have := z2.2.2.1; omega⟩
  obtain ⟨y2a, y2b, hlb'⟩ := y2
  have Hmb : Hid (∀ x ∈ b, String_small 1048576 x) := Lib.hid (fun x hx => by have := z2.2.2.2 x hx; simp only [String_small] at this ⊢; omega)
  clear z2
  by_cases ht : slipsOfP a b
  · have H := Lib.hid ht
    have hlen := ht.2
    clear ht
    go_wp2_with fail
    refine (toStringS_any a Aa ca _ ((Hra.out.below Bw2.out (Nat.le_refl _)).more Bw2.out.size) (by omega)).mono ?_
    rintro e w3 ⟨A3, rfl, ho, hb⟩
    have C3 := Lib.hid hb
    clear hb
    have t3 := C3.out.size
    have Bw3 := Lib.hid (Bw2.out.trans (C3.out.mono Bw2.out.size))
    have O_t2_3 := Lib.hid ho
    clear ho
    go_wp2_with fail
    refine (toStringS_any b Ab cb _ ((Hrb.out.below Bw3.out (Nat.le_refl _)).more Bw3.out.size) (by omega)).mono ?_
    rintro e w4 ⟨A4, rfl, ho, hb⟩
    have C4 := Lib.hid hb
    clear hb
    have t4 := C4.out.size
    have Bw4 := Lib.hid (Bw3.out.trans (C4.out.mono Bw3.out.size))
    have O_t3_4 := Lib.hid ho
    clear ho
    have O_t2_4 := Lib.hid (O_t2_3.out.later C4.out)
    clear O_t2_3
    go_wp2_with fail
    refine (sSlips_t a b A3 A4 a.length b.length _ (O_t2_4.out.rd encString_len) (O_t3_4.out.rd encString_len) (by omega) (by omega) Hma.out Hmb.out (Nat.le_refl _) H.out.1 H.out.2).mono ?_
    rintro e w5 ⟨A_w0, c_w0, rfl, ho0, hb⟩
    have C5 := Lib.hid hb
    clear hb
    have t5 := C5.out.size
    have Bw5 := Lib.hid (Bw4.out.trans (C5.out.mono Bw4.out.size))
    have O_w0_5 := Lib.hid ho0
    clear ho0
    go_wp2_with fail
    refine (toStringS_any a Aa ca _ ((Hra.out.below Bw5.out (Nat.le_refl _)).more Bw5.out.size) (by omega)).mono ?_
    rintro e w6 ⟨A6, rfl, ho, hb⟩
    have C6 := Lib.hid hb
    clear hb
    have t6 := C6.out.size
    have Bw6 := Lib.hid (Bw5.out.trans (C6.out.mono Bw5.out.size))
    have O_x0_6 := Lib.hid ho
    clear ho
    have O_w0_6 := Lib.hid (O_w0_5.out.later C6.out)
    clear O_w0_5
    go_wp2_with fail
    refine (toStringS_any b Ab cb _ ((Hrb.out.below Bw6.out (Nat.le_refl _)).more Bw6.out.size) (by omega)).mono ?_
    rintro e w7 ⟨A7, rfl, ho, hb⟩
    have C7 := Lib.hid hb
    clear hb
    have t7 := C7.out.size
    have Bw7 := Lib.hid (Bw6.out.trans (C7.out.mono Bw6.out.size))
    have O_x1_7 := Lib.hid ho
    clear ho
    have O_w0_7 := Lib.hid (O_w0_6.out.later C7.out)
    clear O_w0_6
    have O_x0_7 := Lib.hid (O_x0_6.out.later C7.out)
    clear O_x0_6
    go_wp2_with fail
    refine (iSlips_t a b A6 A7 a.length b.length _ (O_x0_7.out.rd encString_len) (O_x1_7.out.rd encString_len) (by omega) (by omega) Hma.out Hmb.out (Nat.le_refl _) H.out.1 H.out.2).mono ?_
    rintro e w8 ⟨A_g0, c_g0, rfl, ho0, hb⟩
    have C8 := Lib.hid hb
    clear hb
    have t8 := C8.out.size
    have Bw8 := Lib.hid (Bw7.out.trans (C8.out.mono Bw7.out.size))
    have O_g0_8 := Lib.hid ho0
    clear ho0
    have O_w0_8 := Lib.hid (O_w0_7.out.later C8.out)
    clear O_w0_7
    have O_x0_8 := Lib.hid (O_x0_7.out.later C8.out)
    clear O_x0_7
    have O_x1_8 := Lib.hid (O_x1_7.out.later C8.out)
    clear O_x1_7
    go_wp2_with fail
    refine (eqSlipS_t (slipsTo a b a.length) A_g0 A_w0 c_g0 c_w0 _ (O_g0_8.out.rd Slp_enc_len) (O_w0_8.out.rd Slp_enc_len) (by omega)).mono ?_
    rintro e w9 ⟨rfl, hb⟩
    have C9 := Lib.hid hb
    clear hb
    have t9 := C9.out.size
    have Bw9 := Lib.hid (Bw8.out.trans (C9.out.mono Bw8.out.size))
    have O_w0_9 := Lib.hid (O_w0_8.out.later C9.out)
    clear O_w0_8
    have O_x0_9 := Lib.hid (O_x0_8.out.later C9.out)
    clear O_x0_8
    have O_x1_9 := Lib.hid (O_x1_8.out.later C9.out)
    clear O_x1_8
    have O_g0_9 := Lib.hid (O_g0_8.out.later C9.out)
    clear O_g0_8
    go_wp2_with fail
    refine (toStringS_any a Aa ca _ ((Hra.out.below Bw9.out (Nat.le_refl _)).more Bw9.out.size) (by omega)).mono ?_
    rintro e w10 ⟨A10, rfl, ho, hb⟩
    have C10 := Lib.hid hb
    clear hb
    have t10 := C10.out.size
    have Bw10 := Lib.hid (Bw9.out.trans (C10.out.mono Bw9.out.size))
    have O_t9_10 := Lib.hid ho
    clear ho
    have O_w0_10 := Lib.hid (O_w0_9.out.later C10.out)
    clear O_w0_9
    have O_x0_10 := Lib.hid (O_x0_9.out.later C10.out)
    clear O_x0_9
    have O_x1_10 := Lib.hid (O_x1_9.out.later C10.out)
    clear O_x1_9
    have O_g0_10 := Lib.hid (O_g0_9.out.later C10.out)
    clear O_g0_9
    go_wp2_with fail
    refine (eqStringS_t a A6 A10 a.length a.length _ (O_x0_10.out.rd encString_len) (O_t9_10.out.rd encString_len) (by omega)).mono ?_
    rintro e w11 ⟨rfl, hb⟩
    have C11 := Lib.hid hb
    clear hb
    have t11 := C11.out.size
    have Bw11 := Lib.hid (Bw10.out.trans (C11.out.mono Bw10.out.size))
    have O_w0_11 := Lib.hid (O_w0_10.out.later C11.out)
    clear O_w0_10
    have O_x0_11 := Lib.hid (O_x0_10.out.later C11.out)
    clear O_x0_10
    have O_x1_11 := Lib.hid (O_x1_10.out.later C11.out)
    clear O_x1_10
    have O_g0_11 := Lib.hid (O_g0_10.out.later C11.out)
    clear O_g0_10
    go_wp2_with fail
    refine (toStringS_any b Ab cb _ ((Hrb.out.below Bw11.out (Nat.le_refl _)).more Bw11.out.size) (by omega)).mono ?_
    rintro e w12 ⟨A12, rfl, ho, hb⟩
    have C12 := Lib.hid hb
    clear hb
    have t12 := C12.out.size
    have Bw12 := Lib.hid (Bw11.out.trans (C12.out.mono Bw11.out.size))
    have O_t11_12 := Lib.hid ho
    clear ho
    have O_w0_12 := Lib.hid (O_w0_11.out.later C12.out)
    clear O_w0_11
    have O_x0_12 := Lib.hid (O_x0_11.out.later C12.out)
    clear O_x0_11
    have O_x1_12 := Lib.hid (O_x1_11.out.later C12.out)
    clear O_x1_11
    have O_g0_12 := Lib.hid (O_g0_11.out.later C12.out)
    clear O_g0_11
    go_wp2_with fail
    refine (eqStringS_t b A7 A12 b.length b.length _ (O_x1_12.out.rd encString_len) (O_t11_12.out.rd encString_len) (by omega)).mono ?_
    rintro e w13 ⟨rfl, hb⟩
    have C13 := Lib.hid hb
    clear hb
    have t13 := C13.out.size
    have Bw13 := Lib.hid (Bw12.out.trans (C13.out.mono Bw12.out.size))
    have O_w0_13 := Lib.hid (O_w0_12.out.later C13.out)
    clear O_w0_12
    have O_x0_13 := Lib.hid (O_x0_12.out.later C13.out)
    clear O_x0_12
    have O_x1_13 := Lib.hid (O_x1_12.out.later C13.out)
    clear O_x1_12
    have O_g0_13 := Lib.hid (O_g0_12.out.later C13.out)
    clear O_g0_12
    go_wp2_with fail
    refine (markStringS_any a _ _ A6 a.length 1 _ O_x0_13.out (by omega) (by omega) (by omega)).mono ?_
    rintro e w14 ⟨he, ho, hc⟩
    obtain ⟨q14, hq⟩ : ∃ q : Nat, q = 1 + a.length * 1 := ⟨_, rfl⟩
    rw [← hq] at he
    subst he
    have Hq14 := Lib.hid hq
    have b14 : 0 < q14 ∧ q14 ≤ 10000001 := by omega
    obtain ⟨b14a, b14b⟩ := b14
    clear hq
    have C14 := Lib.hid hc
    clear hc
    have t14 := C14.out.size
    have Bw14 := Lib.hid (Below.chg Bw13.out C14.out (by omega) Bw13.out.size)
    have O_x0_14 := Lib.hid ho
    clear ho
    have O_w0_14 := Lib.hid (O_w0_13.out.chg C14.out (by omega))
    clear O_w0_13
    have O_x1_14 := Lib.hid (O_x1_13.out.chg C14.out (by omega))
    clear O_x1_13
    have O_g0_14 := Lib.hid (O_g0_13.out.chg C14.out (by omega))
    clear O_g0_13
    go_wp2_with fail
    refine (markStringS_any b _ _ A7 b.length q14 _ O_x1_14.out (by omega) (by omega) (by omega)).mono ?_
    rintro e w15 ⟨he, ho, hc⟩
    obtain ⟨q15, hq⟩ : ∃ q : Nat, q = q14 + b.length * 1 := ⟨_, rfl⟩
    rw [← hq] at he
    subst he
    have Hq15 := Lib.hid hq
    have b15 : 0 < q15 ∧ q15 ≤ 20000001 := by omega
    obtain ⟨b15a, b15b⟩ := b15
    clear hq
    have C15 := Lib.hid hc
    clear hc
    have t15 := C15.out.size
    have Bw15 := Lib.hid (Below.chg Bw14.out C15.out (by omega) Bw14.out.size)
    have O_x1_15 := Lib.hid ho
    clear ho
    have O_w0_15 := Lib.hid (O_w0_14.out.chg C15.out (by omega))
    clear O_w0_14
    have O_g0_15 := Lib.hid (O_g0_14.out.chg C15.out (by omega))
    clear O_g0_14
    go_wp2_with fail
    refine (eqSlipS_t (slipsTo a b a.length) A_g0 A_w0 c_g0 c_w0 _ (O_g0_15.out.rd Slp_enc_len) (O_w0_15.out.rd Slp_enc_len) (by omega)).mono ?_
    rintro e w16 ⟨rfl, hb⟩
    have C16 := Lib.hid hb
    clear hb
    have t16 := C16.out.size
    have Bw16 := Lib.hid (Bw15.out.trans (C16.out.mono Bw15.out.size))
    have O_w0_16 := Lib.hid (O_w0_15.out.later C16.out)
    clear O_w0_15
    have O_g0_16 := Lib.hid (O_g0_15.out.later C16.out)
    clear O_g0_15
    go_wp2_with fail
    refine (markSlipS_any (slipsTo a b a.length) _ _ A_g0 c_g0 1 _ O_g0_16.out (by omega) (by omega) (by omega)).mono ?_
    rintro e w17 ⟨he, ho, hc⟩
    obtain ⟨q17, hq⟩ : ∃ q : Nat, q = 1 + (slipsTo a b a.length).length * 3 := ⟨_, rfl⟩
    rw [← hq] at he
    subst he
    have Hq17 := Lib.hid hq
    have b17 : 0 < q17 ∧ q17 ≤ 10000001 := by omega
    obtain ⟨b17a, b17b⟩ := b17
    clear hq
    have C17 := Lib.hid hc
    clear hc
    have t17 := C17.out.size
    have Bw17 := Lib.hid (Below.chg Bw16.out C17.out (by omega) Bw16.out.size)
    have O_g0_17 := Lib.hid ho
    clear ho
    have O_w0_17 := Lib.hid (O_w0_16.out.chg C17.out (by omega))
    clear O_w0_16
    go_wp2_with fail
    refine (heldSlipS_any (slipsTo a b a.length).length A_g0 c_g0 1 _ (O_g0_17.out.rd Slp_enc_len) (by omega) (by omega) (by omega)).mono ?_
    rintro e w18 ⟨he, hb⟩
    rw [← Hq17.out] at he
    subst he
    have C18 := Lib.hid hb
    clear hb
    have t18 := C18.out.size
    have Bw18 := Lib.hid (Bw17.out.trans (C18.out.mono Bw17.out.size))
    have O_w0_18 := Lib.hid (O_w0_17.out.later C18.out)
    clear O_w0_17
    have O_g0_18 := Lib.hid (O_g0_17.out.later C18.out)
    clear O_g0_17
    go_wp2_with fail
    refine (toStringS_any a Aa ca _ ((Hra.out.below Bw18.out (Nat.le_refl _)).more Bw18.out.size) (by omega)).mono ?_
    rintro e w19 ⟨A19, rfl, ho, hb⟩
    have C19 := Lib.hid hb
    clear hb
    have t19 := C19.out.size
    have Bw19 := Lib.hid (Bw18.out.trans (C19.out.mono Bw18.out.size))
    have O_t21_19 := Lib.hid ho
    clear ho
    have O_w0_19 := Lib.hid (O_w0_18.out.later C19.out)
    clear O_w0_18
    have O_g0_19 := Lib.hid (O_g0_18.out.later C19.out)
    clear O_g0_18
    go_wp2_with fail
    refine (toStringS_any b Ab cb _ ((Hrb.out.below Bw19.out (Nat.le_refl _)).more Bw19.out.size) (by omega)).mono ?_
    rintro e w20 ⟨A20, rfl, ho, hb⟩
    have C20 := Lib.hid hb
    clear hb
    have t20 := C20.out.size
    have Bw20 := Lib.hid (Bw19.out.trans (C20.out.mono Bw19.out.size))
    have O_t22_20 := Lib.hid ho
    clear ho
    have O_w0_20 := Lib.hid (O_w0_19.out.later C20.out)
    clear O_w0_19
    have O_g0_20 := Lib.hid (O_g0_19.out.later C20.out)
    clear O_g0_19
    have O_t21_20 := Lib.hid (O_t21_19.out.later C20.out)
    clear O_t21_19
    go_wp2_with fail
    refine (iSlips_t a b A19 A20 a.length b.length _ (O_t21_20.out.rd encString_len) (O_t22_20.out.rd encString_len) (by omega) (by omega) Hma.out Hmb.out (Nat.le_refl _) H.out.1 H.out.2).mono ?_
    rintro e w21 ⟨A_h0, c_h0, rfl, ho0, hb⟩
    have C21 := Lib.hid hb
    clear hb
    have t21 := C21.out.size
    have Bw21 := Lib.hid (Bw20.out.trans (C21.out.mono Bw20.out.size))
    have O_h0_21 := Lib.hid ho0
    clear ho0
    have O_w0_21 := Lib.hid (O_w0_20.out.later C21.out)
    clear O_w0_20
    have O_g0_21 := Lib.hid (O_g0_20.out.later C21.out)
    clear O_g0_20
    go_wp2_with fail
    refine (eqSlipS_t (slipsTo a b a.length) A_h0 A_w0 c_h0 c_w0 _ (O_h0_21.out.rd Slp_enc_len) (O_w0_21.out.rd Slp_enc_len) (by omega)).mono ?_
    rintro e w22 ⟨rfl, hb⟩
    have C22 := Lib.hid hb
    clear hb
    have t22 := C22.out.size
    have Bw22 := Lib.hid (Bw21.out.trans (C22.out.mono Bw21.out.size))
    have O_g0_22 := Lib.hid (O_g0_21.out.later C22.out)
    clear O_g0_21
    go_wp2_with fail
    refine (heldSlipS_any (slipsTo a b a.length).length A_g0 c_g0 1 _ (O_g0_22.out.rd Slp_enc_len) (by omega) (by omega) (by omega)).mono ?_
    rintro e w23 ⟨he, hb⟩
    rw [← Hq17.out] at he
    subst he
    have C23 := Lib.hid hb
    clear hb
    have t23 := C23.out.size
    have Bw23 := Lib.hid (Bw22.out.trans (C23.out.mono Bw22.out.size))
    go_wp2_with fail
    go_ret
    exact ⟨rfl, Bw23.out⟩
  · have H := Lib.hid ht
    clear ht
    go_wp2_with fail
    refine (toStringS_any a Aa ca _ ((Hra.out.below Bw2.out (Nat.le_refl _)).more Bw2.out.size) (by omega)).mono ?_
    rintro e w3 ⟨A3, rfl, ho, hb⟩
    have C3 := Lib.hid hb
    clear hb
    have t3 := C3.out.size
    have Bw3 := Lib.hid (Bw2.out.trans (C3.out.mono Bw2.out.size))
    have O_t2_3 := Lib.hid ho
    clear ho
    go_wp2_with fail
    refine (toStringS_any b Ab cb _ ((Hrb.out.below Bw3.out (Nat.le_refl _)).more Bw3.out.size) (by omega)).mono ?_
    rintro e w4 ⟨A4, rfl, ho, hb⟩
    have C4 := Lib.hid hb
    clear hb
    have t4 := C4.out.size
    have Bw4 := Lib.hid (Bw3.out.trans (C4.out.mono Bw3.out.size))
    have O_t3_4 := Lib.hid ho
    clear ho
    have O_t2_4 := Lib.hid (O_t2_3.out.later C4.out)
    clear O_t2_3
    go_wp2_with fail
    refine (sSlips_f a b A3 A4 a.length b.length _ (O_t2_4.out.rd encString_len) (O_t3_4.out.rd encString_len) (by omega) (by omega) Hma.out Hmb.out (Nat.le_refl _) H.out).mono ?_
    rintro e w5 ⟨rfl, hb⟩
    have C5 := Lib.hid hb
    clear hb
    have t5 := C5.out.size
    have Bw5 := Lib.hid (Bw4.out.trans (C5.out.mono Bw4.out.size))
    have O_w0_5 : Hid (OwnL w5 w4.heap.size w5.heap.size none 3 Slp.enc ([] : List Slp)) := Lib.hid OwnL.nil
    go_wp2_with fail
    refine (toStringS_any a Aa ca _ ((Hra.out.below Bw5.out (Nat.le_refl _)).more Bw5.out.size) (by omega)).mono ?_
    rintro e w6 ⟨A6, rfl, ho, hb⟩
    have C6 := Lib.hid hb
    clear hb
    have t6 := C6.out.size
    have Bw6 := Lib.hid (Bw5.out.trans (C6.out.mono Bw5.out.size))
    have O_x0_6 := Lib.hid ho
    clear ho
    have O_w0_6 := Lib.hid (O_w0_5.out.later C6.out)
    clear O_w0_5
    go_wp2_with fail
    refine (toStringS_any b Ab cb _ ((Hrb.out.below Bw6.out (Nat.le_refl _)).more Bw6.out.size) (by omega)).mono ?_
    rintro e w7 ⟨A7, rfl, ho, hb⟩
    have C7 := Lib.hid hb
    clear hb
    have t7 := C7.out.size
    have Bw7 := Lib.hid (Bw6.out.trans (C7.out.mono Bw6.out.size))
    have O_x1_7 := Lib.hid ho
    clear ho
    have O_w0_7 := Lib.hid (O_w0_6.out.later C7.out)
    clear O_w0_6
    have O_x0_7 := Lib.hid (O_x0_6.out.later C7.out)
    clear O_x0_6
    go_wp2_with fail
    refine (iSlips_f a b A6 A7 a.length b.length _ (O_x0_7.out.rd encString_len) (O_x1_7.out.rd encString_len) (by omega) (by omega) Hma.out Hmb.out (Nat.le_refl _) H.out).mono ?_
    rintro e w8 ⟨rfl, hb⟩
    have C8 := Lib.hid hb
    clear hb
    have t8 := C8.out.size
    have Bw8 := Lib.hid (Bw7.out.trans (C8.out.mono Bw7.out.size))
    have O_g0_8 : Hid (OwnL w8 w7.heap.size w8.heap.size none 3 Slp.enc ([] : List Slp)) := Lib.hid OwnL.nil
    have O_w0_8 := Lib.hid (O_w0_7.out.later C8.out)
    clear O_w0_7
    have O_x0_8 := Lib.hid (O_x0_7.out.later C8.out)
    clear O_x0_7
    have O_x1_8 := Lib.hid (O_x1_7.out.later C8.out)
    clear O_x1_7
    go_wp2_with fail
    refine (eqSlipS_t ([] : List Slp) none none 0 0 _ (O_g0_8.out.rd Slp_enc_len) (O_w0_8.out.rd Slp_enc_len) (by simp)).mono ?_
    rintro e w9 ⟨rfl, hb⟩
    have C9 := Lib.hid hb
    clear hb
    have t9 := C9.out.size
    have Bw9 := Lib.hid (Bw8.out.trans (C9.out.mono Bw8.out.size))
    have O_w0_9 := Lib.hid (O_w0_8.out.later C9.out)
    clear O_w0_8
    have O_x0_9 := Lib.hid (O_x0_8.out.later C9.out)
    clear O_x0_8
    have O_x1_9 := Lib.hid (O_x1_8.out.later C9.out)
    clear O_x1_8
    have O_g0_9 := Lib.hid (O_g0_8.out.later C9.out)
    clear O_g0_8
    go_wp2_with fail
    refine (toStringS_any a Aa ca _ ((Hra.out.below Bw9.out (Nat.le_refl _)).more Bw9.out.size) (by omega)).mono ?_
    rintro e w10 ⟨A10, rfl, ho, hb⟩
    have C10 := Lib.hid hb
    clear hb
    have t10 := C10.out.size
    have Bw10 := Lib.hid (Bw9.out.trans (C10.out.mono Bw9.out.size))
    have O_t9_10 := Lib.hid ho
    clear ho
    have O_w0_10 := Lib.hid (O_w0_9.out.later C10.out)
    clear O_w0_9
    have O_x0_10 := Lib.hid (O_x0_9.out.later C10.out)
    clear O_x0_9
    have O_x1_10 := Lib.hid (O_x1_9.out.later C10.out)
    clear O_x1_9
    have O_g0_10 := Lib.hid (O_g0_9.out.later C10.out)
    clear O_g0_9
    go_wp2_with fail
    refine (eqStringS_t a A6 A10 a.length a.length _ (O_x0_10.out.rd encString_len) (O_t9_10.out.rd encString_len) (by omega)).mono ?_
    rintro e w11 ⟨rfl, hb⟩
    have C11 := Lib.hid hb
    clear hb
    have t11 := C11.out.size
    have Bw11 := Lib.hid (Bw10.out.trans (C11.out.mono Bw10.out.size))
    have O_w0_11 := Lib.hid (O_w0_10.out.later C11.out)
    clear O_w0_10
    have O_x0_11 := Lib.hid (O_x0_10.out.later C11.out)
    clear O_x0_10
    have O_x1_11 := Lib.hid (O_x1_10.out.later C11.out)
    clear O_x1_10
    have O_g0_11 := Lib.hid (O_g0_10.out.later C11.out)
    clear O_g0_10
    go_wp2_with fail
    refine (toStringS_any b Ab cb _ ((Hrb.out.below Bw11.out (Nat.le_refl _)).more Bw11.out.size) (by omega)).mono ?_
    rintro e w12 ⟨A12, rfl, ho, hb⟩
    have C12 := Lib.hid hb
    clear hb
    have t12 := C12.out.size
    have Bw12 := Lib.hid (Bw11.out.trans (C12.out.mono Bw11.out.size))
    have O_t11_12 := Lib.hid ho
    clear ho
    have O_w0_12 := Lib.hid (O_w0_11.out.later C12.out)
    clear O_w0_11
    have O_x0_12 := Lib.hid (O_x0_11.out.later C12.out)
    clear O_x0_11
    have O_x1_12 := Lib.hid (O_x1_11.out.later C12.out)
    clear O_x1_11
    have O_g0_12 := Lib.hid (O_g0_11.out.later C12.out)
    clear O_g0_11
    go_wp2_with fail
    refine (eqStringS_t b A7 A12 b.length b.length _ (O_x1_12.out.rd encString_len) (O_t11_12.out.rd encString_len) (by omega)).mono ?_
    rintro e w13 ⟨rfl, hb⟩
    have C13 := Lib.hid hb
    clear hb
    have t13 := C13.out.size
    have Bw13 := Lib.hid (Bw12.out.trans (C13.out.mono Bw12.out.size))
    have O_w0_13 := Lib.hid (O_w0_12.out.later C13.out)
    clear O_w0_12
    have O_x0_13 := Lib.hid (O_x0_12.out.later C13.out)
    clear O_x0_12
    have O_x1_13 := Lib.hid (O_x1_12.out.later C13.out)
    clear O_x1_12
    have O_g0_13 := Lib.hid (O_g0_12.out.later C13.out)
    clear O_g0_12
    go_wp2_with fail
    refine (markStringS_any a _ _ A6 a.length 1 _ O_x0_13.out (by omega) (by omega) (by omega)).mono ?_
    rintro e w14 ⟨he, ho, hc⟩
    obtain ⟨q14, hq⟩ : ∃ q : Nat, q = 1 + a.length * 1 := ⟨_, rfl⟩
    rw [← hq] at he
    subst he
    have Hq14 := Lib.hid hq
    have b14 : 0 < q14 ∧ q14 ≤ 10000001 := by omega
    obtain ⟨b14a, b14b⟩ := b14
    clear hq
    have C14 := Lib.hid hc
    clear hc
    have t14 := C14.out.size
    have Bw14 := Lib.hid (Below.chg Bw13.out C14.out (by omega) Bw13.out.size)
    have O_x0_14 := Lib.hid ho
    clear ho
    have O_w0_14 := Lib.hid (O_w0_13.out.chg C14.out (by omega))
    clear O_w0_13
    have O_x1_14 := Lib.hid (O_x1_13.out.chg C14.out (by omega))
    clear O_x1_13
    have O_g0_14 := Lib.hid (O_g0_13.out.chg C14.out (by omega))
    clear O_g0_13
    go_wp2_with fail
    refine (markStringS_any b _ _ A7 b.length q14 _ O_x1_14.out (by omega) (by omega) (by omega)).mono ?_
    rintro e w15 ⟨he, ho, hc⟩
    obtain ⟨q15, hq⟩ : ∃ q : Nat, q = q14 + b.length * 1 := ⟨_, rfl⟩
    rw [← hq] at he
    subst he
    have Hq15 := Lib.hid hq
    have b15 : 0 < q15 ∧ q15 ≤ 20000001 := by omega
    obtain ⟨b15a, b15b⟩ := b15
    clear hq
    have C15 := Lib.hid hc
    clear hc
    have t15 := C15.out.size
    have Bw15 := Lib.hid (Below.chg Bw14.out C15.out (by omega) Bw14.out.size)
    have O_x1_15 := Lib.hid ho
    clear ho
    have O_w0_15 := Lib.hid (O_w0_14.out.chg C15.out (by omega))
    clear O_w0_14
    have O_g0_15 := Lib.hid (O_g0_14.out.chg C15.out (by omega))
    clear O_g0_14
    go_wp2_with fail
    refine (eqSlipS_t ([] : List Slp) none none 0 0 _ (O_g0_15.out.rd Slp_enc_len) (O_w0_15.out.rd Slp_enc_len) (by simp)).mono ?_
    rintro e w16 ⟨rfl, hb⟩
    have C16 := Lib.hid hb
    clear hb
    have t16 := C16.out.size
    have Bw16 := Lib.hid (Bw15.out.trans (C16.out.mono Bw15.out.size))
    have O_w0_16 := Lib.hid (O_w0_15.out.later C16.out)
    clear O_w0_15
    have O_g0_16 := Lib.hid (O_g0_15.out.later C16.out)
    clear O_g0_15
    go_wp2_with fail
    refine (markSlipS_any ([] : List Slp) _ _ none 0 1 _ O_g0_16.out (by simp) (by omega) (by omega)).mono ?_
    rintro e w17 ⟨he, ho, hc⟩
    obtain ⟨q17, hq⟩ : ∃ q : Nat, q = 1 + ([] : List Slp).length * 3 := ⟨_, rfl⟩
    rw [← hq] at he
    subst he
    have Hq17 := Lib.hid hq
    have b17 : 0 < q17 ∧ q17 ≤ 10000001 := by simp at hq; omega
    obtain ⟨b17a, b17b⟩ := b17
    clear hq
    have C17 := Lib.hid hc
    clear hc
    have t17 := C17.out.size
    have Bw17 := Lib.hid (Below.chg Bw16.out C17.out (by omega) Bw16.out.size)
    have O_g0_17 := Lib.hid ho
    clear ho
    have O_w0_17 := Lib.hid (O_w0_16.out.chg C17.out (by omega))
    clear O_w0_16
    go_wp2_with fail
    refine (heldSlipS_any ([] : List Slp).length none 0 1 _ (O_g0_17.out.rd Slp_enc_len) (by simp) (by omega) (by omega)).mono ?_
    rintro e w18 ⟨he, hb⟩
    rw [← Hq17.out] at he
    subst he
    have C18 := Lib.hid hb
    clear hb
    have t18 := C18.out.size
    have Bw18 := Lib.hid (Bw17.out.trans (C18.out.mono Bw17.out.size))
    have O_w0_18 := Lib.hid (O_w0_17.out.later C18.out)
    clear O_w0_17
    have O_g0_18 := Lib.hid (O_g0_17.out.later C18.out)
    clear O_g0_17
    go_wp2_with fail
    refine (toStringS_any a Aa ca _ ((Hra.out.below Bw18.out (Nat.le_refl _)).more Bw18.out.size) (by omega)).mono ?_
    rintro e w19 ⟨A19, rfl, ho, hb⟩
    have C19 := Lib.hid hb
    clear hb
    have t19 := C19.out.size
    have Bw19 := Lib.hid (Bw18.out.trans (C19.out.mono Bw18.out.size))
    have O_t21_19 := Lib.hid ho
    clear ho
    have O_w0_19 := Lib.hid (O_w0_18.out.later C19.out)
    clear O_w0_18
    have O_g0_19 := Lib.hid (O_g0_18.out.later C19.out)
    clear O_g0_18
    go_wp2_with fail
    refine (toStringS_any b Ab cb _ ((Hrb.out.below Bw19.out (Nat.le_refl _)).more Bw19.out.size) (by omega)).mono ?_
    rintro e w20 ⟨A20, rfl, ho, hb⟩
    have C20 := Lib.hid hb
    clear hb
    have t20 := C20.out.size
    have Bw20 := Lib.hid (Bw19.out.trans (C20.out.mono Bw19.out.size))
    have O_t22_20 := Lib.hid ho
    clear ho
    have O_w0_20 := Lib.hid (O_w0_19.out.later C20.out)
    clear O_w0_19
    have O_g0_20 := Lib.hid (O_g0_19.out.later C20.out)
    clear O_g0_19
    have O_t21_20 := Lib.hid (O_t21_19.out.later C20.out)
    clear O_t21_19
    go_wp2_with fail
    refine (iSlips_f a b A19 A20 a.length b.length _ (O_t21_20.out.rd encString_len) (O_t22_20.out.rd encString_len) (by omega) (by omega) Hma.out Hmb.out (Nat.le_refl _) H.out).mono ?_
    rintro e w21 ⟨rfl, hb⟩
    have C21 := Lib.hid hb
    clear hb
    have t21 := C21.out.size
    have Bw21 := Lib.hid (Bw20.out.trans (C21.out.mono Bw20.out.size))
    have O_h0_21 : Hid (OwnL w21 w20.heap.size w21.heap.size none 3 Slp.enc ([] : List Slp)) := Lib.hid OwnL.nil
    have O_w0_21 := Lib.hid (O_w0_20.out.later C21.out)
    clear O_w0_20
    have O_g0_21 := Lib.hid (O_g0_20.out.later C21.out)
    clear O_g0_20
    go_wp2_with fail
    refine (eqSlipS_t ([] : List Slp) none none 0 0 _ (O_h0_21.out.rd Slp_enc_len) (O_w0_21.out.rd Slp_enc_len) (by simp)).mono ?_
    rintro e w22 ⟨rfl, hb⟩
    have C22 := Lib.hid hb
    clear hb
    have t22 := C22.out.size
    have Bw22 := Lib.hid (Bw21.out.trans (C22.out.mono Bw21.out.size))
    have O_g0_22 := Lib.hid (O_g0_21.out.later C22.out)
    clear O_g0_21
    go_wp2_with fail
    refine (heldSlipS_any ([] : List Slp).length none 0 1 _ (O_g0_22.out.rd Slp_enc_len) (by simp) (by omega) (by omega)).mono ?_
    rintro e w23 ⟨he, hb⟩
    rw [← Hq17.out] at he
    subst he
    have C23 := Lib.hid hb
    clear hb
    have t23 := C23.out.size
    have Bw23 := Lib.hid (Bw22.out.trans (C23.out.mono Bw22.out.size))
    go_wp2_with fail
    go_ret
    exact ⟨rfl, Bw23.out⟩

namespace fnExactSlipsOf
open Go.ChangeShapes Go.WideShapes Go.ChangeAt Go.RowKit Go.Deep
open Go.ChangeMaps (open_string shut_string)
theorem own : ownKnob Try.prog.godebug = none := by kernel_rfl
theorem laid : laidOutB Try.prog = true := by kernel_rfl
theorem reads : Try.f9.params.toList.all (fun t => Try.prog.readableRec t && decide (t < Try.prog.types.size)) = true := by kernel_rfl
set_option maxRecDepth 100000 in
theorem lifted (os : Os) (started : os.Started) (H : Type) (enc : TypeId × Value → H) :
    ReturnsInHanded {} Try.checked os 9 .any (Rows.fnExactSlipsOfSpec.pre6 enc Try.prog Try.f9 Rows.fnExactSlipsOfRow.domain false) (Rows.fnExactSlipsOfSpec.post enc Try.prog Try.f9 false true false false) := by
  refine returnsInHanded_of_change (C := Try.checked) own started (by kernel_rfl) Try.func9
    (ChangeSpec.witness6 (enc := enc) (C := Try.checked) false ⟨#[], #[.slice none 0 0, .slice none 0 0], []⟩ 8 (by kernel_rfl) (by kernel_rfl) (by kernel_rfl) (by kernel_rfl)) ?_
  intro W base args ds gs before hval0 hW hcnd _
  have hval : ∀ (j : Nat) t v, Try.f9.params[j]? = some t → args[j]? = some v → Value.okWide Try.prog W .any base t v := hval0
  have hW' := hW
  obtain ⟨p, q, hA0, hV, rfl, hfz, hnd⟩ := hW
  have hA : DataW.TrodAll enc Try.prog W 0 (fun _ => true) true Try.f9.params.toList args.toList ds p := hA0
  rw [Try.params9] at hA hval
  obtain ⟨rfl, rfl⟩ := trodVars_none hV
  have hlt : ∀ x ∈ p, x.block < W.heap.size := fun x hx => by simpa using hW'.lt x (List.mem_append.2 (.inl hx))
  clear hA0 hval0
  obtain ⟨v0, vs0, d0, ds0, p0, q0, hargs, rfl, rfl, h0, r0⟩ := trodAll_cons hA
  obtain ⟨v1, vs1, d1, ds1, p1, q1, rfl, rfl, rfl, h1, r1⟩ := trodAll_cons r0
  obtain ⟨rfl, rfl, rfl⟩ := trodAll_nil r1
  obtain rfl : args = #[v0, v1] := by cases args; simp_all
  clear hargs
  obtain ⟨A0, a0, c0, rfl, y0, x0, z0⟩ := open_list Try.underlying45 1 (by kernel_rfl) (by omega) encString _ String_el (hval 0 45 v0 rfl rfl) h0
  obtain ⟨A1, a1, c1, rfl, y1, x1, z1⟩ := open_list Try.underlying45 1 (by kernel_rfl) (by omega) encString _ String_el (hval 1 45 v1 rfl rfl) h1
  refine (slipsOfLaw W a0 A0 c0 x0 (by unfold maxLen at y0; omega) z0 a1 A1 c1 x1 (by unfold maxLen at y1; omega) z1).mono fun e W' ⟨he, hg⟩ => ?_
  subst he
  exact ⟨_, rfl, law_post laid reads rfl Try.underlying4 rfl rfl hW' hg⟩
theorem over : Rows.fnExactSlipsOfRow.holds Try.pinned (OpenSpec.ofChange Rows.fnExactSlipsOfSpec) :=
  OpenClaim.holds_of_wide 9 Try.f9 rfl rfl rfl rfl rfl rfl rfl ⟨rfl, rfl, rfl, rfl, rfl⟩ rfl rfl rfl rfl rfl (by kernel_rfl) Try.func9 (by kernel_rfl)
    (of_decide_eq_true (by kernel_rfl)) (by unfold Func.isWrapper; first | (rw [if_pos (by decide +kernel)]; kernel_rfl) | (rw [if_neg (by decide +kernel)]; exact ⟨rfl, rfl⟩))
    (fun os started H enc _ => lifted os started H enc)
theorem proved : Rows.FnExactSlipsOfSaid := over
end fnExactSlipsOf
end Go.Proofs.Ytdegbckoejddeaa
