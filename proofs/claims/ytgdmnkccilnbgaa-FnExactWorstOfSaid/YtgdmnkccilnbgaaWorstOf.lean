/-
  WorstOf of the program returns what the reference's returns, for all arguments: no condition.
-/
import Derived.Test.YtgdmnkccilnbgaaWorst
import Derived.Test.YtgdmnkccilnbgaaRow
import Derived.Test.YtgdmnkccilnbgaaOpen
namespace Go.Proofs.Ytgdmnkccilnbgaa
open Go.RowKit Go.ChangeShapes Go.WideShapes
set_option linter.unusedVariables false
set_option linter.unusedSimpArgs false
set_option maxRecDepth 100000

theorem Int_el {H : Type} {en : TypeId × Value → H} {w : World} {base : Nat} {spare : Nat → Bool} {held : Bool} (n : Nat) (cs : List Value) (y : DataW H × List MemPlace) (h : DataW.trod en Try.prog w base spare held n 3 cs = some y) : ∃ x : Int, cs = encInt x ∧ Int_small 9223372036854775807 x := by
  obtain ⟨a, rfl, _, _⟩ := DataW.trod_int Try.underlying3 h
  exact ⟨a, rfl, trivial⟩
set_option maxHeartbeats 4000000 in
theorem worstLaw (w : World) (es : List Int) (Aes : Option Addr) (ces : Nat) (hres : RdL w w.heap.size Aes 1 encInt es) (hles : es.length ≤ 9223372036854775807) (hses : ∀ x ∈ es, Int_small 9223372036854775807 x) (rows : List ByteArray) (Arows : Option Addr) (crows : Nat) (hrrows : RdL w w.heap.size Arows 1 encString rows) (hlrows : rows.length ≤ 9223372036854775807) (hsrows : ∀ x ∈ rows, String_small 9223372036854775807 x) (l : List Blw) (Al : Option Addr) (cl : Nat) (hrl : RdL w w.heap.size Al 3 Blw.enc l) (hll : l.length ≤ 9223372036854775807) (hsl : ∀ x ∈ l, Blow_small 9223372036854775807 x) :
    Calls Try.prog 3 #[.slice Aes es.length ces, .slice Arows rows.length crows, .slice Al l.length cl] w fun e w' => e = .returned (.bool true) ∧ Below w.heap.size w w' := by
  have Hres := Lib.hid hres
  have Hses := Lib.hid hses
  clear hres hses
  have Hrrows := Lib.hid hrrows
  have Hsrows := Lib.hid hsrows
  clear hrrows hsrows
  have Hrl := Lib.hid hrl
  have Hsl := Lib.hid hsl
  clear hrl hsl
  by_cases ges : 1048576 < es.length
  · go_enter Try.func3, Try.ntmps3
    go_wp2
    go_ret
    exact ⟨rfl, Below.refl _ _⟩
  have hles' : es.length ≤ 1048576 := by omega
  have Bw0 := Lib.hid (Below.refl w.heap.size w)
  go_enter Try.func3, Try.ntmps3
  go_wp2_with fail
  refine (szStringS_any rows Arows crows (1048576 : Int) _ ((Hrrows.out.below Bw0.out (Nat.le_refl _)).more Bw0.out.size) (by omega) (by omega) (by omega) Hsrows.out).mono ?_
  rintro e w1 ⟨r1, rfl, hz, hb⟩
  have C1 := Lib.hid hb
  clear hb
  have t1 := C1.out.size
  have Bw1 := Lib.hid (Bw0.out.trans (C1.out.mono Bw0.out.size))
  have Z1 := Lib.hid hz
  clear hz
  by_cases n1 : r1 < 0
  · go_wp2_with fail
    go_ret
    exact ⟨rfl, Bw1.out⟩
  have z1 := Z1.out.resolve_left n1
  have y1 : 0 ≤ r1 ∧ r1 ≤ 1048576 ∧ rows.length ≤ 1048576 := ⟨z1.1, by have := z1.2.1; omega, by have := z1.2.2.1; omega⟩
  obtain ⟨y1a, y1b, hlrows'⟩ := y1
  have Hmrows : Hid (∀ x ∈ rows, String_small 1048576 x) := Lib.hid (fun x hx => by have := z1.2.2.2 x hx; simp only [String_small] at this ⊢; omega)
  clear z1
  go_wp2_with fail
  refine (szBlowS_any l Al cl r1 _ (by omega) (by omega) (by omega)).mono ?_
  rintro e w2 ⟨r2, rfl, hz, hb⟩
  have C2 := Lib.hid hb
  clear hb
  have t2 := C2.out.size
  have Bw2 := Lib.hid (Bw1.out.trans (C2.out.mono Bw1.out.size))
  have Z2 := Lib.hid hz
  clear hz
  by_cases n2 : r2 < 0
  · go_wp2_with fail
    go_ret
    exact ⟨rfl, Bw2.out⟩
  have z2 := Z2.out.resolve_left n2
  have y2 : 0 ≤ r2 ∧ r2 ≤ 1048576 ∧ l.length ≤ 1048576 := ⟨z2.1, by have := z2.2.1; omega, by have := z2.2.2.1; omega⟩
  obtain ⟨y2a, y2b, hll'⟩ := y2
  clear z2
  by_cases h : worstP es rows l
  · have H := Lib.hid h
    have hlen := worst_len8 h
    clear h
    go_wp2_with fail
    refine (toIntS_any es Aes ces _ ((Hres.out.below Bw2.out (Nat.le_refl _)).more Bw2.out.size) (by omega)).mono ?_
    rintro e w3 ⟨A3, rfl, ho, hb⟩
    have C3 := Lib.hid hb
    clear hb
    have t3 := C3.out.size
    have Bw3 := Lib.hid (Bw2.out.trans (C3.out.mono Bw2.out.size))
    have O_t2_3 := Lib.hid ho
    clear ho
    go_wp2_with fail
    refine (toStringS_any rows Arows crows _ ((Hrrows.out.below Bw3.out (Nat.le_refl _)).more Bw3.out.size) (by omega)).mono ?_
    rintro e w4 ⟨A4, rfl, ho, hb⟩
    have C4 := Lib.hid hb
    clear hb
    have t4 := C4.out.size
    have Bw4 := Lib.hid (Bw3.out.trans (C4.out.mono Bw3.out.size))
    have O_t3_4 := Lib.hid ho
    clear ho
    have O_t2_4 := Lib.hid (O_t2_3.out.later C4.out)
    clear O_t2_3
    go_wp2_with fail
    refine (toBlowS_any l Al cl _ ((Hrl.out.below Bw4.out (Nat.le_refl _)).more Bw4.out.size) (by omega)).mono ?_
    rintro e w5 ⟨A5, rfl, ho, hb⟩
    have C5 := Lib.hid hb
    clear hb
    have t5 := C5.out.size
    have Bw5 := Lib.hid (Bw4.out.trans (C5.out.mono Bw4.out.size))
    have O_t4_5 := Lib.hid ho
    clear ho
    have O_t2_5 := Lib.hid (O_t2_4.out.later C5.out)
    clear O_t2_4
    have O_t3_5 := Lib.hid (O_t3_4.out.later C5.out)
    clear O_t3_4
    go_wp2_with fail
    refine (sWorst_t es rows l A3 A4 A5 es.length rows.length l.length _ (O_t2_5.out.rd encInt_len) (O_t3_5.out.rd encString_len) (O_t4_5.out.rd Blw_enc_len) (by omega) (by omega) (by omega) Hmrows.out (Nat.le_refl _) H.out.1 H.out.all H.out.2).mono ?_
    rintro e w6 ⟨A_w0, c_w0, rfl, ho0, hb⟩
    have C6 := Lib.hid hb
    clear hb
    have t6 := C6.out.size
    have Bw6 := Lib.hid (Bw5.out.trans (C6.out.mono Bw5.out.size))
    have O_w0_6 := Lib.hid ho0
    clear ho0
    go_wp2_with fail
    refine (toIntS_any es Aes ces _ ((Hres.out.below Bw6.out (Nat.le_refl _)).more Bw6.out.size) (by omega)).mono ?_
    rintro e w7 ⟨A7, rfl, ho, hb⟩
    have C7 := Lib.hid hb
    clear hb
    have t7 := C7.out.size
    have Bw7 := Lib.hid (Bw6.out.trans (C7.out.mono Bw6.out.size))
    have O_x0_7 := Lib.hid ho
    clear ho
    have O_w0_7 := Lib.hid (O_w0_6.out.later C7.out)
    clear O_w0_6
    go_wp2_with fail
    refine (toStringS_any rows Arows crows _ ((Hrrows.out.below Bw7.out (Nat.le_refl _)).more Bw7.out.size) (by omega)).mono ?_
    rintro e w8 ⟨A8, rfl, ho, hb⟩
    have C8 := Lib.hid hb
    clear hb
    have t8 := C8.out.size
    have Bw8 := Lib.hid (Bw7.out.trans (C8.out.mono Bw7.out.size))
    have O_x1_8 := Lib.hid ho
    clear ho
    have O_w0_8 := Lib.hid (O_w0_7.out.later C8.out)
    clear O_w0_7
    have O_x0_8 := Lib.hid (O_x0_7.out.later C8.out)
    clear O_x0_7
    go_wp2_with fail
    refine (toBlowS_any l Al cl _ ((Hrl.out.below Bw8.out (Nat.le_refl _)).more Bw8.out.size) (by omega)).mono ?_
    rintro e w9 ⟨A9, rfl, ho, hb⟩
    have C9 := Lib.hid hb
    clear hb
    have t9 := C9.out.size
    have Bw9 := Lib.hid (Bw8.out.trans (C9.out.mono Bw8.out.size))
    have O_x2_9 := Lib.hid ho
    clear ho
    have O_w0_9 := Lib.hid (O_w0_8.out.later C9.out)
    clear O_w0_8
    have O_x0_9 := Lib.hid (O_x0_8.out.later C9.out)
    clear O_x0_8
    have O_x1_9 := Lib.hid (O_x1_8.out.later C9.out)
    clear O_x1_8
    go_wp2_with fail
    refine (iWorst_t es rows l A7 A8 A9 es.length rows.length l.length _ (O_x0_9.out.rd encInt_len) (O_x1_9.out.rd encString_len) (O_x2_9.out.rd Blw_enc_len) (by omega) (by omega) (by omega) Hmrows.out (Nat.le_refl _) H.out.1 H.out.2).mono ?_
    rintro e w10 ⟨A_g0, c_g0, rfl, ho0, hb⟩
    have C10 := Lib.hid hb
    clear hb
    have t10 := C10.out.size
    have Bw10 := Lib.hid (Bw9.out.trans (C10.out.mono Bw9.out.size))
    have O_g0_10 := Lib.hid ho0
    clear ho0
    have O_w0_10 := Lib.hid (O_w0_9.out.later C10.out)
    clear O_w0_9
    have O_x0_10 := Lib.hid (O_x0_9.out.later C10.out)
    clear O_x0_9
    have O_x1_10 := Lib.hid (O_x1_9.out.later C10.out)
    clear O_x1_9
    have O_x2_10 := Lib.hid (O_x2_9.out.later C10.out)
    clear O_x2_9
    go_wp2_with fail
    refine (eqIntS_t (worstTo rows l es (sz0 rows) es.length) A_g0 A_w0 c_g0 c_w0 _ (O_g0_10.out.rd encInt_len) (O_w0_10.out.rd encInt_len) (by omega)).mono ?_
    rintro e w11 ⟨rfl, hb⟩
    have C11 := Lib.hid hb
    clear hb
    have t11 := C11.out.size
    have Bw11 := Lib.hid (Bw10.out.trans (C11.out.mono Bw10.out.size))
    have O_w0_11 := Lib.hid (O_w0_10.out.later C11.out)
    clear O_w0_10
    have O_x0_11 := Lib.hid (O_x0_10.out.later C11.out)
    clear O_x0_10
    have O_x1_11 := Lib.hid (O_x1_10.out.later C11.out)
    clear O_x1_10
    have O_x2_11 := Lib.hid (O_x2_10.out.later C11.out)
    clear O_x2_10
    have O_g0_11 := Lib.hid (O_g0_10.out.later C11.out)
    clear O_g0_10
    go_wp2_with fail
    refine (toIntS_any es Aes ces _ ((Hres.out.below Bw11.out (Nat.le_refl _)).more Bw11.out.size) (by omega)).mono ?_
    rintro e w12 ⟨A12, rfl, ho, hb⟩
    have C12 := Lib.hid hb
    clear hb
    have t12 := C12.out.size
    have Bw12 := Lib.hid (Bw11.out.trans (C12.out.mono Bw11.out.size))
    have O_t11_12 := Lib.hid ho
    clear ho
    have O_w0_12 := Lib.hid (O_w0_11.out.later C12.out)
    clear O_w0_11
    have O_x0_12 := Lib.hid (O_x0_11.out.later C12.out)
    clear O_x0_11
    have O_x1_12 := Lib.hid (O_x1_11.out.later C12.out)
    clear O_x1_11
    have O_x2_12 := Lib.hid (O_x2_11.out.later C12.out)
    clear O_x2_11
    have O_g0_12 := Lib.hid (O_g0_11.out.later C12.out)
    clear O_g0_11
    go_wp2_with fail
    refine (eqIntS_t es A7 A12 es.length es.length _ (O_x0_12.out.rd encInt_len) (O_t11_12.out.rd encInt_len) (by omega)).mono ?_
    rintro e w13 ⟨rfl, hb⟩
    have C13 := Lib.hid hb
    clear hb
    have t13 := C13.out.size
    have Bw13 := Lib.hid (Bw12.out.trans (C13.out.mono Bw12.out.size))
    have O_w0_13 := Lib.hid (O_w0_12.out.later C13.out)
    clear O_w0_12
    have O_x0_13 := Lib.hid (O_x0_12.out.later C13.out)
    clear O_x0_12
    have O_x1_13 := Lib.hid (O_x1_12.out.later C13.out)
    clear O_x1_12
    have O_x2_13 := Lib.hid (O_x2_12.out.later C13.out)
    clear O_x2_12
    have O_g0_13 := Lib.hid (O_g0_12.out.later C13.out)
    clear O_g0_12
    go_wp2_with fail
    refine (toStringS_any rows Arows crows _ ((Hrrows.out.below Bw13.out (Nat.le_refl _)).more Bw13.out.size) (by omega)).mono ?_
    rintro e w14 ⟨A14, rfl, ho, hb⟩
    have C14 := Lib.hid hb
    clear hb
    have t14 := C14.out.size
    have Bw14 := Lib.hid (Bw13.out.trans (C14.out.mono Bw13.out.size))
    have O_t13_14 := Lib.hid ho
    clear ho
    have O_w0_14 := Lib.hid (O_w0_13.out.later C14.out)
    clear O_w0_13
    have O_x0_14 := Lib.hid (O_x0_13.out.later C14.out)
    clear O_x0_13
    have O_x1_14 := Lib.hid (O_x1_13.out.later C14.out)
    clear O_x1_13
    have O_x2_14 := Lib.hid (O_x2_13.out.later C14.out)
    clear O_x2_13
    have O_g0_14 := Lib.hid (O_g0_13.out.later C14.out)
    clear O_g0_13
    go_wp2_with fail
    refine (eqStringS_t rows A8 A14 rows.length rows.length _ (O_x1_14.out.rd encString_len) (O_t13_14.out.rd encString_len) (by omega)).mono ?_
    rintro e w15 ⟨rfl, hb⟩
    have C15 := Lib.hid hb
    clear hb
    have t15 := C15.out.size
    have Bw15 := Lib.hid (Bw14.out.trans (C15.out.mono Bw14.out.size))
    have O_w0_15 := Lib.hid (O_w0_14.out.later C15.out)
    clear O_w0_14
    have O_x0_15 := Lib.hid (O_x0_14.out.later C15.out)
    clear O_x0_14
    have O_x1_15 := Lib.hid (O_x1_14.out.later C15.out)
    clear O_x1_14
    have O_x2_15 := Lib.hid (O_x2_14.out.later C15.out)
    clear O_x2_14
    have O_g0_15 := Lib.hid (O_g0_14.out.later C15.out)
    clear O_g0_14
    go_wp2_with fail
    refine (toBlowS_any l Al cl _ ((Hrl.out.below Bw15.out (Nat.le_refl _)).more Bw15.out.size) (by omega)).mono ?_
    rintro e w16 ⟨A16, rfl, ho, hb⟩
    have C16 := Lib.hid hb
    clear hb
    have t16 := C16.out.size
    have Bw16 := Lib.hid (Bw15.out.trans (C16.out.mono Bw15.out.size))
    have O_t15_16 := Lib.hid ho
    clear ho
    have O_w0_16 := Lib.hid (O_w0_15.out.later C16.out)
    clear O_w0_15
    have O_x0_16 := Lib.hid (O_x0_15.out.later C16.out)
    clear O_x0_15
    have O_x1_16 := Lib.hid (O_x1_15.out.later C16.out)
    clear O_x1_15
    have O_x2_16 := Lib.hid (O_x2_15.out.later C16.out)
    clear O_x2_15
    have O_g0_16 := Lib.hid (O_g0_15.out.later C16.out)
    clear O_g0_15
    go_wp2_with fail
    refine (eqBlowS_t l A9 A16 l.length l.length _ (O_x2_16.out.rd Blw_enc_len) (O_t15_16.out.rd Blw_enc_len) (by omega)).mono ?_
    rintro e w17 ⟨rfl, hb⟩
    have C17 := Lib.hid hb
    clear hb
    have t17 := C17.out.size
    have Bw17 := Lib.hid (Bw16.out.trans (C17.out.mono Bw16.out.size))
    have O_w0_17 := Lib.hid (O_w0_16.out.later C17.out)
    clear O_w0_16
    have O_x0_17 := Lib.hid (O_x0_16.out.later C17.out)
    clear O_x0_16
    have O_x1_17 := Lib.hid (O_x1_16.out.later C17.out)
    clear O_x1_16
    have O_x2_17 := Lib.hid (O_x2_16.out.later C17.out)
    clear O_x2_16
    have O_g0_17 := Lib.hid (O_g0_16.out.later C17.out)
    clear O_g0_16
    go_wp2_with fail
    refine (markIntS_any es _ _ A7 es.length 1 _ O_x0_17.out (by omega) (by omega) (by omega)).mono ?_
    rintro e w18 ⟨he, ho, hc⟩
    obtain ⟨q18, hq⟩ : ∃ q : Nat, q = 1 + es.length * 1 := ⟨_, rfl⟩
    rw [← hq] at he
    subst he
    have Hq18 := Lib.hid hq
    have b18 : 0 < q18 ∧ q18 ≤ 10000001 := by omega
    obtain ⟨b18a, b18b⟩ := b18
    clear hq
    have C18 := Lib.hid hc
    clear hc
    have t18 := C18.out.size
    have Bw18 := Lib.hid (Below.chg Bw17.out C18.out (by omega) Bw17.out.size)
    have O_x0_18 := Lib.hid ho
    clear ho
    have O_w0_18 := Lib.hid (O_w0_17.out.chg C18.out (by omega))
    clear O_w0_17
    have O_x1_18 := Lib.hid (O_x1_17.out.chg C18.out (by omega))
    clear O_x1_17
    have O_x2_18 := Lib.hid (O_x2_17.out.chg C18.out (by omega))
    clear O_x2_17
    have O_g0_18 := Lib.hid (O_g0_17.out.chg C18.out (by omega))
    clear O_g0_17
    go_wp2_with fail
    refine (markStringS_any rows _ _ A8 rows.length q18 _ O_x1_18.out (by omega) (by omega) (by omega)).mono ?_
    rintro e w19 ⟨he, ho, hc⟩
    obtain ⟨q19, hq⟩ : ∃ q : Nat, q = q18 + rows.length * 1 := ⟨_, rfl⟩
    rw [← hq] at he
    subst he
    have Hq19 := Lib.hid hq
    have b19 : 0 < q19 ∧ q19 ≤ 20000001 := by omega
    obtain ⟨b19a, b19b⟩ := b19
    clear hq
    have C19 := Lib.hid hc
    clear hc
    have t19 := C19.out.size
    have Bw19 := Lib.hid (Below.chg Bw18.out C19.out (by omega) Bw18.out.size)
    have O_x1_19 := Lib.hid ho
    clear ho
    have O_w0_19 := Lib.hid (O_w0_18.out.chg C19.out (by omega))
    clear O_w0_18
    have O_x2_19 := Lib.hid (O_x2_18.out.chg C19.out (by omega))
    clear O_x2_18
    have O_g0_19 := Lib.hid (O_g0_18.out.chg C19.out (by omega))
    clear O_g0_18
    go_wp2_with fail
    refine (markBlowS_any l _ _ A9 l.length q19 _ O_x2_19.out (by omega) (by omega) (by omega)).mono ?_
    rintro e w20 ⟨he, ho, hc⟩
    obtain ⟨q20, hq⟩ : ∃ q : Nat, q = q19 + l.length * 3 := ⟨_, rfl⟩
    rw [← hq] at he
    subst he
    have Hq20 := Lib.hid hq
    have b20 : 0 < q20 ∧ q20 ≤ 30000001 := by omega
    obtain ⟨b20a, b20b⟩ := b20
    clear hq
    have C20 := Lib.hid hc
    clear hc
    have t20 := C20.out.size
    have Bw20 := Lib.hid (Below.chg Bw19.out C20.out (by omega) Bw19.out.size)
    have O_x2_20 := Lib.hid ho
    clear ho
    have O_w0_20 := Lib.hid (O_w0_19.out.chg C20.out (by omega))
    clear O_w0_19
    have O_g0_20 := Lib.hid (O_g0_19.out.chg C20.out (by omega))
    clear O_g0_19
    go_wp2_with fail
    refine (eqIntS_t (worstTo rows l es (sz0 rows) es.length) A_g0 A_w0 c_g0 c_w0 _ (O_g0_20.out.rd encInt_len) (O_w0_20.out.rd encInt_len) (by omega)).mono ?_
    rintro e w21 ⟨rfl, hb⟩
    have C21 := Lib.hid hb
    clear hb
    have t21 := C21.out.size
    have Bw21 := Lib.hid (Bw20.out.trans (C21.out.mono Bw20.out.size))
    have O_w0_21 := Lib.hid (O_w0_20.out.later C21.out)
    clear O_w0_20
    have O_g0_21 := Lib.hid (O_g0_20.out.later C21.out)
    clear O_g0_20
    go_wp2_with fail
    refine (markIntS_any (worstTo rows l es (sz0 rows) es.length) _ _ A_g0 c_g0 1 _ O_g0_21.out (by omega) (by omega) (by omega)).mono ?_
    rintro e w22 ⟨he, ho, hc⟩
    obtain ⟨q22, hq⟩ : ∃ q : Nat, q = 1 + (worstTo rows l es (sz0 rows) es.length).length * 1 := ⟨_, rfl⟩
    rw [← hq] at he
    subst he
    have Hq22 := Lib.hid hq
    have b22 : 0 < q22 ∧ q22 ≤ 10000001 := by omega
    obtain ⟨b22a, b22b⟩ := b22
    clear hq
    have C22 := Lib.hid hc
    clear hc
    have t22 := C22.out.size
    have Bw22 := Lib.hid (Below.chg Bw21.out C22.out (by omega) Bw21.out.size)
    have O_g0_22 := Lib.hid ho
    clear ho
    have O_w0_22 := Lib.hid (O_w0_21.out.chg C22.out (by omega))
    clear O_w0_21
    go_wp2_with fail
    refine (heldIntS_any (worstTo rows l es (sz0 rows) es.length).length A_g0 c_g0 1 _ (O_g0_22.out.rd encInt_len) (by omega) (by omega) (by omega)).mono ?_
    rintro e w23 ⟨he, hb⟩
    rw [← Hq22.out] at he
    subst he
    have C23 := Lib.hid hb
    clear hb
    have t23 := C23.out.size
    have Bw23 := Lib.hid (Bw22.out.trans (C23.out.mono Bw22.out.size))
    have O_w0_23 := Lib.hid (O_w0_22.out.later C23.out)
    clear O_w0_22
    have O_g0_23 := Lib.hid (O_g0_22.out.later C23.out)
    clear O_g0_22
    go_wp2_with fail
    refine (toIntS_any es Aes ces _ ((Hres.out.below Bw23.out (Nat.le_refl _)).more Bw23.out.size) (by omega)).mono ?_
    rintro e w24 ⟨A24, rfl, ho, hb⟩
    have C24 := Lib.hid hb
    clear hb
    have t24 := C24.out.size
    have Bw24 := Lib.hid (Bw23.out.trans (C24.out.mono Bw23.out.size))
    have O_t26_24 := Lib.hid ho
    clear ho
    have O_w0_24 := Lib.hid (O_w0_23.out.later C24.out)
    clear O_w0_23
    have O_g0_24 := Lib.hid (O_g0_23.out.later C24.out)
    clear O_g0_23
    go_wp2_with fail
    refine (toStringS_any rows Arows crows _ ((Hrrows.out.below Bw24.out (Nat.le_refl _)).more Bw24.out.size) (by omega)).mono ?_
    rintro e w25 ⟨A25, rfl, ho, hb⟩
    have C25 := Lib.hid hb
    clear hb
    have t25 := C25.out.size
    have Bw25 := Lib.hid (Bw24.out.trans (C25.out.mono Bw24.out.size))
    have O_t27_25 := Lib.hid ho
    clear ho
    have O_w0_25 := Lib.hid (O_w0_24.out.later C25.out)
    clear O_w0_24
    have O_g0_25 := Lib.hid (O_g0_24.out.later C25.out)
    clear O_g0_24
    have O_t26_25 := Lib.hid (O_t26_24.out.later C25.out)
    clear O_t26_24
    go_wp2_with fail
    refine (toBlowS_any l Al cl _ ((Hrl.out.below Bw25.out (Nat.le_refl _)).more Bw25.out.size) (by omega)).mono ?_
    rintro e w26 ⟨A26, rfl, ho, hb⟩
    have C26 := Lib.hid hb
    clear hb
    have t26 := C26.out.size
    have Bw26 := Lib.hid (Bw25.out.trans (C26.out.mono Bw25.out.size))
    have O_t28_26 := Lib.hid ho
    clear ho
    have O_w0_26 := Lib.hid (O_w0_25.out.later C26.out)
    clear O_w0_25
    have O_g0_26 := Lib.hid (O_g0_25.out.later C26.out)
    clear O_g0_25
    have O_t26_26 := Lib.hid (O_t26_25.out.later C26.out)
    clear O_t26_25
    have O_t27_26 := Lib.hid (O_t27_25.out.later C26.out)
    clear O_t27_25
    go_wp2_with fail
    refine (iWorst_t es rows l A24 A25 A26 es.length rows.length l.length _ (O_t26_26.out.rd encInt_len) (O_t27_26.out.rd encString_len) (O_t28_26.out.rd Blw_enc_len) (by omega) (by omega) (by omega) Hmrows.out (Nat.le_refl _) H.out.1 H.out.2).mono ?_
    rintro e w27 ⟨A_h0, c_h0, rfl, ho0, hb⟩
    have C27 := Lib.hid hb
    clear hb
    have t27 := C27.out.size
    have Bw27 := Lib.hid (Bw26.out.trans (C27.out.mono Bw26.out.size))
    have O_h0_27 := Lib.hid ho0
    clear ho0
    have O_w0_27 := Lib.hid (O_w0_26.out.later C27.out)
    clear O_w0_26
    have O_g0_27 := Lib.hid (O_g0_26.out.later C27.out)
    clear O_g0_26
    go_wp2_with fail
    refine (eqIntS_t (worstTo rows l es (sz0 rows) es.length) A_h0 A_w0 c_h0 c_w0 _ (O_h0_27.out.rd encInt_len) (O_w0_27.out.rd encInt_len) (by omega)).mono ?_
    rintro e w28 ⟨rfl, hb⟩
    have C28 := Lib.hid hb
    clear hb
    have t28 := C28.out.size
    have Bw28 := Lib.hid (Bw27.out.trans (C28.out.mono Bw27.out.size))
    have O_g0_28 := Lib.hid (O_g0_27.out.later C28.out)
    clear O_g0_27
    go_wp2_with fail
    refine (heldIntS_any (worstTo rows l es (sz0 rows) es.length).length A_g0 c_g0 1 _ (O_g0_28.out.rd encInt_len) (by omega) (by omega) (by omega)).mono ?_
    rintro e w29 ⟨he, hb⟩
    rw [← Hq22.out] at he
    subst he
    have C29 := Lib.hid hb
    clear hb
    have t29 := C29.out.size
    have Bw29 := Lib.hid (Bw28.out.trans (C29.out.mono Bw28.out.size))
    go_wp2_with fail
    go_ret
    exact ⟨rfl, Bw29.out⟩
  · have H := Lib.hid h
    clear h
    go_wp2_with fail
    refine (toIntS_any es Aes ces _ ((Hres.out.below Bw2.out (Nat.le_refl _)).more Bw2.out.size) (by omega)).mono ?_
    rintro e w3 ⟨A3, rfl, ho, hb⟩
    have C3 := Lib.hid hb
    clear hb
    have t3 := C3.out.size
    have Bw3 := Lib.hid (Bw2.out.trans (C3.out.mono Bw2.out.size))
    have O_t2_3 := Lib.hid ho
    clear ho
    go_wp2_with fail
    refine (toStringS_any rows Arows crows _ ((Hrrows.out.below Bw3.out (Nat.le_refl _)).more Bw3.out.size) (by omega)).mono ?_
    rintro e w4 ⟨A4, rfl, ho, hb⟩
    have C4 := Lib.hid hb
    clear hb
    have t4 := C4.out.size
    have Bw4 := Lib.hid (Bw3.out.trans (C4.out.mono Bw3.out.size))
    have O_t3_4 := Lib.hid ho
    clear ho
    have O_t2_4 := Lib.hid (O_t2_3.out.later C4.out)
    clear O_t2_3
    go_wp2_with fail
    refine (toBlowS_any l Al cl _ ((Hrl.out.below Bw4.out (Nat.le_refl _)).more Bw4.out.size) (by omega)).mono ?_
    rintro e w5 ⟨A5, rfl, ho, hb⟩
    have C5 := Lib.hid hb
    clear hb
    have t5 := C5.out.size
    have Bw5 := Lib.hid (Bw4.out.trans (C5.out.mono Bw4.out.size))
    have O_t4_5 := Lib.hid ho
    clear ho
    have O_t2_5 := Lib.hid (O_t2_4.out.later C5.out)
    clear O_t2_4
    have O_t3_5 := Lib.hid (O_t3_4.out.later C5.out)
    clear O_t3_4
    go_wp2_with fail
    refine (sWorst_f es rows l A3 A4 A5 es.length rows.length l.length _ (O_t2_5.out.rd encInt_len) (O_t3_5.out.rd encString_len) (O_t4_5.out.rd Blw_enc_len) (by omega) (by omega) (by omega) Hmrows.out (Nat.le_refl _) H.out).mono ?_
    rintro e w6 ⟨rfl, hb⟩
    have C6 := Lib.hid hb
    clear hb
    have t6 := C6.out.size
    have Bw6 := Lib.hid (Bw5.out.trans (C6.out.mono Bw5.out.size))
    have O_w0_6 : Hid (OwnL w6 w5.heap.size w6.heap.size none 1 encInt ([] : List Int)) := Lib.hid OwnL.nil
    go_wp2_with fail
    refine (toIntS_any es Aes ces _ ((Hres.out.below Bw6.out (Nat.le_refl _)).more Bw6.out.size) (by omega)).mono ?_
    rintro e w7 ⟨A7, rfl, ho, hb⟩
    have C7 := Lib.hid hb
    clear hb
    have t7 := C7.out.size
    have Bw7 := Lib.hid (Bw6.out.trans (C7.out.mono Bw6.out.size))
    have O_x0_7 := Lib.hid ho
    clear ho
    have O_w0_7 := Lib.hid (O_w0_6.out.later C7.out)
    clear O_w0_6
    go_wp2_with fail
    refine (toStringS_any rows Arows crows _ ((Hrrows.out.below Bw7.out (Nat.le_refl _)).more Bw7.out.size) (by omega)).mono ?_
    rintro e w8 ⟨A8, rfl, ho, hb⟩
    have C8 := Lib.hid hb
    clear hb
    have t8 := C8.out.size
    have Bw8 := Lib.hid (Bw7.out.trans (C8.out.mono Bw7.out.size))
    have O_x1_8 := Lib.hid ho
    clear ho
    have O_w0_8 := Lib.hid (O_w0_7.out.later C8.out)
    clear O_w0_7
    have O_x0_8 := Lib.hid (O_x0_7.out.later C8.out)
    clear O_x0_7
    go_wp2_with fail
    refine (toBlowS_any l Al cl _ ((Hrl.out.below Bw8.out (Nat.le_refl _)).more Bw8.out.size) (by omega)).mono ?_
    rintro e w9 ⟨A9, rfl, ho, hb⟩
    have C9 := Lib.hid hb
    clear hb
    have t9 := C9.out.size
    have Bw9 := Lib.hid (Bw8.out.trans (C9.out.mono Bw8.out.size))
    have O_x2_9 := Lib.hid ho
    clear ho
    have O_w0_9 := Lib.hid (O_w0_8.out.later C9.out)
    clear O_w0_8
    have O_x0_9 := Lib.hid (O_x0_8.out.later C9.out)
    clear O_x0_8
    have O_x1_9 := Lib.hid (O_x1_8.out.later C9.out)
    clear O_x1_8
    go_wp2_with fail
    refine (iWorst_f es rows l A7 A8 A9 es.length rows.length l.length _ (O_x0_9.out.rd encInt_len) (O_x1_9.out.rd encString_len) (O_x2_9.out.rd Blw_enc_len) (by omega) (by omega) (by omega) Hmrows.out (Nat.le_refl _) H.out).mono ?_
    rintro e w10 ⟨rfl, hb⟩
    have C10 := Lib.hid hb
    clear hb
    have t10 := C10.out.size
    have Bw10 := Lib.hid (Bw9.out.trans (C10.out.mono Bw9.out.size))
    have O_g0_10 : Hid (OwnL w10 w9.heap.size w10.heap.size none 1 encInt ([] : List Int)) := Lib.hid OwnL.nil
    have O_w0_10 := Lib.hid (O_w0_9.out.later C10.out)
    clear O_w0_9
    have O_x0_10 := Lib.hid (O_x0_9.out.later C10.out)
    clear O_x0_9
    have O_x1_10 := Lib.hid (O_x1_9.out.later C10.out)
    clear O_x1_9
    have O_x2_10 := Lib.hid (O_x2_9.out.later C10.out)
    clear O_x2_9
    go_wp2_with fail
    refine (eqIntS_t ([] : List Int) none none 0 0 _ (O_g0_10.out.rd encInt_len) (O_w0_10.out.rd encInt_len) (by simp)).mono ?_
    rintro e w11 ⟨rfl, hb⟩
    have C11 := Lib.hid hb
    clear hb
    have t11 := C11.out.size
    have Bw11 := Lib.hid (Bw10.out.trans (C11.out.mono Bw10.out.size))
    have O_w0_11 := Lib.hid (O_w0_10.out.later C11.out)
    clear O_w0_10
    have O_x0_11 := Lib.hid (O_x0_10.out.later C11.out)
    clear O_x0_10
    have O_x1_11 := Lib.hid (O_x1_10.out.later C11.out)
    clear O_x1_10
    have O_x2_11 := Lib.hid (O_x2_10.out.later C11.out)
    clear O_x2_10
    have O_g0_11 := Lib.hid (O_g0_10.out.later C11.out)
    clear O_g0_10
    go_wp2_with fail
    refine (toIntS_any es Aes ces _ ((Hres.out.below Bw11.out (Nat.le_refl _)).more Bw11.out.size) (by omega)).mono ?_
    rintro e w12 ⟨A12, rfl, ho, hb⟩
    have C12 := Lib.hid hb
    clear hb
    have t12 := C12.out.size
    have Bw12 := Lib.hid (Bw11.out.trans (C12.out.mono Bw11.out.size))
    have O_t11_12 := Lib.hid ho
    clear ho
    have O_w0_12 := Lib.hid (O_w0_11.out.later C12.out)
    clear O_w0_11
    have O_x0_12 := Lib.hid (O_x0_11.out.later C12.out)
    clear O_x0_11
    have O_x1_12 := Lib.hid (O_x1_11.out.later C12.out)
    clear O_x1_11
    have O_x2_12 := Lib.hid (O_x2_11.out.later C12.out)
    clear O_x2_11
    have O_g0_12 := Lib.hid (O_g0_11.out.later C12.out)
    clear O_g0_11
    go_wp2_with fail
    refine (eqIntS_t es A7 A12 es.length es.length _ (O_x0_12.out.rd encInt_len) (O_t11_12.out.rd encInt_len) (by omega)).mono ?_
    rintro e w13 ⟨rfl, hb⟩
    have C13 := Lib.hid hb
    clear hb
    have t13 := C13.out.size
    have Bw13 := Lib.hid (Bw12.out.trans (C13.out.mono Bw12.out.size))
    have O_w0_13 := Lib.hid (O_w0_12.out.later C13.out)
    clear O_w0_12
    have O_x0_13 := Lib.hid (O_x0_12.out.later C13.out)
    clear O_x0_12
    have O_x1_13 := Lib.hid (O_x1_12.out.later C13.out)
    clear O_x1_12
    have O_x2_13 := Lib.hid (O_x2_12.out.later C13.out)
    clear O_x2_12
    have O_g0_13 := Lib.hid (O_g0_12.out.later C13.out)
    clear O_g0_12
    go_wp2_with fail
    refine (toStringS_any rows Arows crows _ ((Hrrows.out.below Bw13.out (Nat.le_refl _)).more Bw13.out.size) (by omega)).mono ?_
    rintro e w14 ⟨A14, rfl, ho, hb⟩
    have C14 := Lib.hid hb
    clear hb
    have t14 := C14.out.size
    have Bw14 := Lib.hid (Bw13.out.trans (C14.out.mono Bw13.out.size))
    have O_t13_14 := Lib.hid ho
    clear ho
    have O_w0_14 := Lib.hid (O_w0_13.out.later C14.out)
    clear O_w0_13
    have O_x0_14 := Lib.hid (O_x0_13.out.later C14.out)
    clear O_x0_13
    have O_x1_14 := Lib.hid (O_x1_13.out.later C14.out)
    clear O_x1_13
    have O_x2_14 := Lib.hid (O_x2_13.out.later C14.out)
    clear O_x2_13
    have O_g0_14 := Lib.hid (O_g0_13.out.later C14.out)
    clear O_g0_13
    go_wp2_with fail
    refine (eqStringS_t rows A8 A14 rows.length rows.length _ (O_x1_14.out.rd encString_len) (O_t13_14.out.rd encString_len) (by omega)).mono ?_
    rintro e w15 ⟨rfl, hb⟩
    have C15 := Lib.hid hb
    clear hb
    have t15 := C15.out.size
    have Bw15 := Lib.hid (Bw14.out.trans (C15.out.mono Bw14.out.size))
    have O_w0_15 := Lib.hid (O_w0_14.out.later C15.out)
    clear O_w0_14
    have O_x0_15 := Lib.hid (O_x0_14.out.later C15.out)
    clear O_x0_14
    have O_x1_15 := Lib.hid (O_x1_14.out.later C15.out)
    clear O_x1_14
    have O_x2_15 := Lib.hid (O_x2_14.out.later C15.out)
    clear O_x2_14
    have O_g0_15 := Lib.hid (O_g0_14.out.later C15.out)
    clear O_g0_14
    go_wp2_with fail
    refine (toBlowS_any l Al cl _ ((Hrl.out.below Bw15.out (Nat.le_refl _)).more Bw15.out.size) (by omega)).mono ?_
    rintro e w16 ⟨A16, rfl, ho, hb⟩
    have C16 := Lib.hid hb
    clear hb
    have t16 := C16.out.size
    have Bw16 := Lib.hid (Bw15.out.trans (C16.out.mono Bw15.out.size))
    have O_t15_16 := Lib.hid ho
    clear ho
    have O_w0_16 := Lib.hid (O_w0_15.out.later C16.out)
    clear O_w0_15
    have O_x0_16 := Lib.hid (O_x0_15.out.later C16.out)
    clear O_x0_15
    have O_x1_16 := Lib.hid (O_x1_15.out.later C16.out)
    clear O_x1_15
    have O_x2_16 := Lib.hid (O_x2_15.out.later C16.out)
    clear O_x2_15
    have O_g0_16 := Lib.hid (O_g0_15.out.later C16.out)
    clear O_g0_15
    go_wp2_with fail
    refine (eqBlowS_t l A9 A16 l.length l.length _ (O_x2_16.out.rd Blw_enc_len) (O_t15_16.out.rd Blw_enc_len) (by omega)).mono ?_
    rintro e w17 ⟨rfl, hb⟩
    have C17 := Lib.hid hb
    clear hb
    have t17 := C17.out.size
    have Bw17 := Lib.hid (Bw16.out.trans (C17.out.mono Bw16.out.size))
    have O_w0_17 := Lib.hid (O_w0_16.out.later C17.out)
    clear O_w0_16
    have O_x0_17 := Lib.hid (O_x0_16.out.later C17.out)
    clear O_x0_16
    have O_x1_17 := Lib.hid (O_x1_16.out.later C17.out)
    clear O_x1_16
    have O_x2_17 := Lib.hid (O_x2_16.out.later C17.out)
    clear O_x2_16
    have O_g0_17 := Lib.hid (O_g0_16.out.later C17.out)
    clear O_g0_16
    go_wp2_with fail
    refine (markIntS_any es _ _ A7 es.length 1 _ O_x0_17.out (by omega) (by omega) (by omega)).mono ?_
    rintro e w18 ⟨he, ho, hc⟩
    obtain ⟨q18, hq⟩ : ∃ q : Nat, q = 1 + es.length * 1 := ⟨_, rfl⟩
    rw [← hq] at he
    subst he
    have Hq18 := Lib.hid hq
    have b18 : 0 < q18 ∧ q18 ≤ 10000001 := by omega
    obtain ⟨b18a, b18b⟩ := b18
    clear hq
    have C18 := Lib.hid hc
    clear hc
    have t18 := C18.out.size
    have Bw18 := Lib.hid (Below.chg Bw17.out C18.out (by omega) Bw17.out.size)
    have O_x0_18 := Lib.hid ho
    clear ho
    have O_w0_18 := Lib.hid (O_w0_17.out.chg C18.out (by omega))
    clear O_w0_17
    have O_x1_18 := Lib.hid (O_x1_17.out.chg C18.out (by omega))
    clear O_x1_17
    have O_x2_18 := Lib.hid (O_x2_17.out.chg C18.out (by omega))
    clear O_x2_17
    have O_g0_18 := Lib.hid (O_g0_17.out.chg C18.out (by omega))
    clear O_g0_17
    go_wp2_with fail
    refine (markStringS_any rows _ _ A8 rows.length q18 _ O_x1_18.out (by omega) (by omega) (by omega)).mono ?_
    rintro e w19 ⟨he, ho, hc⟩
    obtain ⟨q19, hq⟩ : ∃ q : Nat, q = q18 + rows.length * 1 := ⟨_, rfl⟩
    rw [← hq] at he
    subst he
    have Hq19 := Lib.hid hq
    have b19 : 0 < q19 ∧ q19 ≤ 20000001 := by omega
    obtain ⟨b19a, b19b⟩ := b19
    clear hq
    have C19 := Lib.hid hc
    clear hc
    have t19 := C19.out.size
    have Bw19 := Lib.hid (Below.chg Bw18.out C19.out (by omega) Bw18.out.size)
    have O_x1_19 := Lib.hid ho
    clear ho
    have O_w0_19 := Lib.hid (O_w0_18.out.chg C19.out (by omega))
    clear O_w0_18
    have O_x2_19 := Lib.hid (O_x2_18.out.chg C19.out (by omega))
    clear O_x2_18
    have O_g0_19 := Lib.hid (O_g0_18.out.chg C19.out (by omega))
    clear O_g0_18
    go_wp2_with fail
    refine (markBlowS_any l _ _ A9 l.length q19 _ O_x2_19.out (by omega) (by omega) (by omega)).mono ?_
    rintro e w20 ⟨he, ho, hc⟩
    obtain ⟨q20, hq⟩ : ∃ q : Nat, q = q19 + l.length * 3 := ⟨_, rfl⟩
    rw [← hq] at he
    subst he
    have Hq20 := Lib.hid hq
    have b20 : 0 < q20 ∧ q20 ≤ 30000001 := by omega
    obtain ⟨b20a, b20b⟩ := b20
    clear hq
    have C20 := Lib.hid hc
    clear hc
    have t20 := C20.out.size
    have Bw20 := Lib.hid (Below.chg Bw19.out C20.out (by omega) Bw19.out.size)
    have O_x2_20 := Lib.hid ho
    clear ho
    have O_w0_20 := Lib.hid (O_w0_19.out.chg C20.out (by omega))
    clear O_w0_19
    have O_g0_20 := Lib.hid (O_g0_19.out.chg C20.out (by omega))
    clear O_g0_19
    go_wp2_with fail
    refine (eqIntS_t ([] : List Int) none none 0 0 _ (O_g0_20.out.rd encInt_len) (O_w0_20.out.rd encInt_len) (by simp)).mono ?_
    rintro e w21 ⟨rfl, hb⟩
    have C21 := Lib.hid hb
    clear hb
    have t21 := C21.out.size
    have Bw21 := Lib.hid (Bw20.out.trans (C21.out.mono Bw20.out.size))
    have O_w0_21 := Lib.hid (O_w0_20.out.later C21.out)
    clear O_w0_20
    have O_g0_21 := Lib.hid (O_g0_20.out.later C21.out)
    clear O_g0_20
    go_wp2_with fail
    refine (markIntS_any ([] : List Int) _ _ none 0 1 _ O_g0_21.out (by simp) (by omega) (by omega)).mono ?_
    rintro e w22 ⟨he, ho, hc⟩
    obtain ⟨q22, hq⟩ : ∃ q : Nat, q = 1 + ([] : List Int).length * 1 := ⟨_, rfl⟩
    rw [← hq] at he
    subst he
    have Hq22 := Lib.hid hq
    have b22 : 0 < q22 ∧ q22 ≤ 10000001 := by simp at hq; omega
    obtain ⟨b22a, b22b⟩ := b22
    clear hq
    have C22 := Lib.hid hc
    clear hc
    have t22 := C22.out.size
    have Bw22 := Lib.hid (Below.chg Bw21.out C22.out (by omega) Bw21.out.size)
    have O_g0_22 := Lib.hid ho
    clear ho
    have O_w0_22 := Lib.hid (O_w0_21.out.chg C22.out (by omega))
    clear O_w0_21
    go_wp2_with fail
    refine (heldIntS_any ([] : List Int).length none 0 1 _ (O_g0_22.out.rd encInt_len) (by simp) (by omega) (by omega)).mono ?_
    rintro e w23 ⟨he, hb⟩
    rw [← Hq22.out] at he
    subst he
    have C23 := Lib.hid hb
    clear hb
    have t23 := C23.out.size
    have Bw23 := Lib.hid (Bw22.out.trans (C23.out.mono Bw22.out.size))
    have O_w0_23 := Lib.hid (O_w0_22.out.later C23.out)
    clear O_w0_22
    have O_g0_23 := Lib.hid (O_g0_22.out.later C23.out)
    clear O_g0_22
    go_wp2_with fail
    refine (toIntS_any es Aes ces _ ((Hres.out.below Bw23.out (Nat.le_refl _)).more Bw23.out.size) (by omega)).mono ?_
    rintro e w24 ⟨A24, rfl, ho, hb⟩
    have C24 := Lib.hid hb
    clear hb
    have t24 := C24.out.size
    have Bw24 := Lib.hid (Bw23.out.trans (C24.out.mono Bw23.out.size))
    have O_t26_24 := Lib.hid ho
    clear ho
    have O_w0_24 := Lib.hid (O_w0_23.out.later C24.out)
    clear O_w0_23
    have O_g0_24 := Lib.hid (O_g0_23.out.later C24.out)
    clear O_g0_23
    go_wp2_with fail
    refine (toStringS_any rows Arows crows _ ((Hrrows.out.below Bw24.out (Nat.le_refl _)).more Bw24.out.size) (by omega)).mono ?_
    rintro e w25 ⟨A25, rfl, ho, hb⟩
    have C25 := Lib.hid hb
    clear hb
    have t25 := C25.out.size
    have Bw25 := Lib.hid (Bw24.out.trans (C25.out.mono Bw24.out.size))
    have O_t27_25 := Lib.hid ho
    clear ho
    have O_w0_25 := Lib.hid (O_w0_24.out.later C25.out)
    clear O_w0_24
    have O_g0_25 := Lib.hid (O_g0_24.out.later C25.out)
    clear O_g0_24
    have O_t26_25 := Lib.hid (O_t26_24.out.later C25.out)
    clear O_t26_24
    go_wp2_with fail
    refine (toBlowS_any l Al cl _ ((Hrl.out.below Bw25.out (Nat.le_refl _)).more Bw25.out.size) (by omega)).mono ?_
    rintro e w26 ⟨A26, rfl, ho, hb⟩
    have C26 := Lib.hid hb
    clear hb
    have t26 := C26.out.size
    have Bw26 := Lib.hid (Bw25.out.trans (C26.out.mono Bw25.out.size))
    have O_t28_26 := Lib.hid ho
    clear ho
    have O_w0_26 := Lib.hid (O_w0_25.out.later C26.out)
    clear O_w0_25
    have O_g0_26 := Lib.hid (O_g0_25.out.later C26.out)
    clear O_g0_25
    have O_t26_26 := Lib.hid (O_t26_25.out.later C26.out)
    clear O_t26_25
    have O_t27_26 := Lib.hid (O_t27_25.out.later C26.out)
    clear O_t27_25
    go_wp2_with fail
    refine (iWorst_f es rows l A24 A25 A26 es.length rows.length l.length _ (O_t26_26.out.rd encInt_len) (O_t27_26.out.rd encString_len) (O_t28_26.out.rd Blw_enc_len) (by omega) (by omega) (by omega) Hmrows.out (Nat.le_refl _) H.out).mono ?_
    rintro e w27 ⟨rfl, hb⟩
    have C27 := Lib.hid hb
    clear hb
    have t27 := C27.out.size
    have Bw27 := Lib.hid (Bw26.out.trans (C27.out.mono Bw26.out.size))
    have O_h0_27 : Hid (OwnL w27 w26.heap.size w27.heap.size none 1 encInt ([] : List Int)) := Lib.hid OwnL.nil
    have O_w0_27 := Lib.hid (O_w0_26.out.later C27.out)
    clear O_w0_26
    have O_g0_27 := Lib.hid (O_g0_26.out.later C27.out)
    clear O_g0_26
    go_wp2_with fail
    refine (eqIntS_t ([] : List Int) none none 0 0 _ (O_h0_27.out.rd encInt_len) (O_w0_27.out.rd encInt_len) (by simp)).mono ?_
    rintro e w28 ⟨rfl, hb⟩
    have C28 := Lib.hid hb
    clear hb
    have t28 := C28.out.size
    have Bw28 := Lib.hid (Bw27.out.trans (C28.out.mono Bw27.out.size))
    have O_g0_28 := Lib.hid (O_g0_27.out.later C28.out)
    clear O_g0_27
    go_wp2_with fail
    refine (heldIntS_any ([] : List Int).length none 0 1 _ (O_g0_28.out.rd encInt_len) (by simp) (by omega) (by omega)).mono ?_
    rintro e w29 ⟨he, hb⟩
    rw [← Hq22.out] at he
    subst he
    have C29 := Lib.hid hb
    clear hb
    have t29 := C29.out.size
    have Bw29 := Lib.hid (Bw28.out.trans (C29.out.mono Bw28.out.size))
    go_wp2_with fail
    go_ret
    exact ⟨rfl, Bw29.out⟩

namespace fnExactWorstOf
open Go.ChangeShapes Go.WideShapes Go.ChangeAt Go.RowKit Go.Deep
open Go.ChangeMaps (open_string shut_string)
theorem own : ownKnob Try.prog.godebug = none := by kernel_rfl
theorem laid : laidOutB Try.prog = true := by kernel_rfl
theorem reads : Try.f3.params.toList.all (fun t => Try.prog.readableRec t && decide (t < Try.prog.types.size)) = true := by kernel_rfl
set_option maxRecDepth 100000 in
theorem lifted (os : Os) (started : os.Started) (H : Type) (enc : TypeId × Value → H) :
    ReturnsInHanded {} Try.checked os 3 .any (Rows.fnExactWorstOfSpec.pre6 enc Try.prog Try.f3 Rows.fnExactWorstOfRow.domain false) (Rows.fnExactWorstOfSpec.post enc Try.prog Try.f3 false true false false) := by
  refine returnsInHanded_of_change (C := Try.checked) own started (by kernel_rfl) Try.func3
    (ChangeSpec.witness6 (enc := enc) (C := Try.checked) false ⟨#[], #[.slice none 0 0, .slice none 0 0, .slice none 0 0], []⟩ 8 (by kernel_rfl) (by kernel_rfl) (by kernel_rfl) (by kernel_rfl)) ?_
  intro W base args ds gs before hval0 hW hcnd _
  have hval : ∀ (j : Nat) t v, Try.f3.params[j]? = some t → args[j]? = some v → Value.okWide Try.prog W .any base t v := hval0
  have hW' := hW
  obtain ⟨p, q, hA0, hV, rfl, hfz, hnd⟩ := hW
  have hA : DataW.TrodAll enc Try.prog W 0 (fun _ => true) true Try.f3.params.toList args.toList ds p := hA0
  rw [Try.params3] at hA hval
  obtain ⟨rfl, rfl⟩ := trodVars_none hV
  have hlt : ∀ x ∈ p, x.block < W.heap.size := fun x hx => by simpa using hW'.lt x (List.mem_append.2 (.inl hx))
  clear hA0 hval0
  obtain ⟨v0, vs0, d0, ds0, p0, q0, hargs, rfl, rfl, h0, r0⟩ := trodAll_cons hA
  obtain ⟨v1, vs1, d1, ds1, p1, q1, rfl, rfl, rfl, h1, r1⟩ := trodAll_cons r0
  obtain ⟨v2, vs2, d2, ds2, p2, q2, rfl, rfl, rfl, h2, r2⟩ := trodAll_cons r1
  obtain ⟨rfl, rfl, rfl⟩ := trodAll_nil r2
  obtain rfl : args = #[v0, v1, v2] := by cases args; simp_all
  clear hargs
  obtain ⟨A0, a0, c0, rfl, y0, x0, z0⟩ := open_list Try.underlying22 1 (by kernel_rfl) (by omega) encInt _ Int_el (hval 0 22 v0 rfl rfl) h0
  obtain ⟨A1, a1, c1, rfl, y1, x1, z1⟩ := open_list Try.underlying23 1 (by kernel_rfl) (by omega) encString _ String_el (hval 1 23 v1 rfl rfl) h1
  obtain ⟨A2, a2, c2, rfl, y2, x2, z2⟩ := open_list Try.underlying24 3 (by kernel_rfl) (by omega) Blw.enc _ Blow_el (hval 2 24 v2 rfl rfl) h2
  refine (worstLaw W a0 A0 c0 x0 (by unfold maxLen at y0; omega) z0 a1 A1 c1 x1 (by unfold maxLen at y1; omega) z1 a2 A2 c2 x2 (by unfold maxLen at y2; omega) z2).mono fun e W' ⟨he, hg⟩ => ?_
  subst he
  exact ⟨_, rfl, law_post laid reads rfl Try.underlying4 rfl rfl hW' hg⟩
theorem over : Rows.fnExactWorstOfRow.holds Try.pinned (OpenSpec.ofChange Rows.fnExactWorstOfSpec) :=
  OpenClaim.holds_of_wide 3 Try.f3 rfl rfl rfl rfl rfl rfl rfl ⟨rfl, rfl, rfl, rfl, rfl⟩ rfl rfl rfl rfl rfl (by kernel_rfl) Try.func3 (by kernel_rfl)
    (of_decide_eq_true (by kernel_rfl)) (by unfold Func.isWrapper; first | (rw [if_pos (by decide +kernel)]; kernel_rfl) | (rw [if_neg (by decide +kernel)]; exact ⟨rfl, rfl⟩))
    (fun os started H enc _ => lifted os started H enc)
theorem proved : Rows.FnExactWorstOfSaid := over
end fnExactWorstOf
end Go.Proofs.Ytgdmnkccilnbgaa
