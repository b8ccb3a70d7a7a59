/-
  ReadPlacing of the program returns what the reference's returns, for all arguments; the tied card.
-/
import Derived.Test.YtkblldbilofdgaaDoorCardPin
import Derived.Test.YtkblldbilofdgaaDoorReadPlacing
import Derived.Test.YtkblldbilofdgaaDoorFaReadPlacing
namespace Go.Proofs.YtkblldbilofdgaaDoor
open Go.RowKit
set_option linter.unusedVariables false
set_option linter.unusedSimpArgs false
set_option maxRecDepth 100000

def TabM (w : World) : Prop := Tab w ∧ Mlen w
theorem TabM.later {w w' : World} (h : TabM w) (hb : Below w.heap.size w w') : TabM w' := ⟨h.1.later hb, h.2.later hb⟩


theorem sReadPlacing_t (l : List Pk) (A : Option Addr) (c : Nat) (n : Int) (s : ByteArray) (w : World) (h : RdP w w.heap.size A l) (hl : l.length ≤ 1048576) (hc : l.length ≤ c) (hs : ∀ x ∈ l, Person_small 1048576 x) (hsz : s.size ≤ 1048576) (ht : TabM w) (who : List Int) (h0 : TxtP l n who s) : Calls Tryd.prog 5 #[.slice A l.length c, .int .i64 n, .string s] w fun e w' => ∃ A' c', e = .returned (.tuple #[.slice A' who.length c', .bool true]) ∧ OwnL w' w.heap.size w'.heap.size A' 1 encInt who ∧ Below w.heap.size w w' := by
  refine (sReadPlacing_any l A c n s w h hl hc hs hsz ht.1).mono ?_
  rintro e w' ⟨⟨l', A, c, h1, rfl, hc, ho⟩ | ⟨h1, _⟩, hb⟩
  · obtain rfl := h1.uniq h0; exact ⟨A, c, rfl, ho, hb⟩
  · exact absurd h0 (h1 who)
theorem sReadPlacing_f (l : List Pk) (A : Option Addr) (c : Nat) (n : Int) (s : ByteArray) (w : World) (h : RdP w w.heap.size A l) (hl : l.length ≤ 1048576) (hc : l.length ≤ c) (hs : ∀ x ∈ l, Person_small 1048576 x) (hsz : s.size ≤ 1048576) (ht : TabM w) (h0 : ¬ ∃ who, TxtP l n who s) : Calls Tryd.prog 5 #[.slice A l.length c, .int .i64 n, .string s] w fun e w' => e = .returned (.tuple #[.slice none 0 0, .bool false]) ∧ Below w.heap.size w w' := by
  refine (sReadPlacing_any l A c n s w h hl hc hs hsz ht.1).mono ?_
  rintro e w' ⟨⟨l', A, c, h1, rfl, hc, ho⟩ | ⟨_, rfl⟩, hb⟩
  · exact absurd ⟨l', h1⟩ h0
  · exact ⟨rfl, hb⟩
theorem iReadPlacing_t (l : List Pk) (A : Option Addr) (c : Nat) (n : Int) (s : ByteArray) (w : World) (h : RdP w w.heap.size A l) (hl : l.length ≤ 1048576) (hc : l.length ≤ c) (hs : ∀ x ∈ l, Person_small 1048576 x) (hsz : s.size ≤ 1048576) (ht : TabM w) (who : List Int) (h0 : TxtP l n who s) : Calls Tryd.prog 7 #[.slice A l.length c, .int .i64 n, .string s] w fun e w' => ∃ A' c', e = .returned (.tuple #[.slice A' who.length c', .bool true]) ∧ OwnL w' w.heap.size w'.heap.size A' 1 encInt who ∧ Below w.heap.size w w' := by
  refine (iReadPlacing_any l A c n s w h hl hc hs hsz ht.1 ht.2).mono ?_
  rintro e w' ⟨⟨l', A, c, h1, rfl, hc, ho⟩ | ⟨h1, _⟩, hb⟩
  · obtain rfl := h1.uniq h0; exact ⟨A, c, rfl, ho, hb⟩
  · exact absurd h0 (h1 who)
theorem iReadPlacing_f (l : List Pk) (A : Option Addr) (c : Nat) (n : Int) (s : ByteArray) (w : World) (h : RdP w w.heap.size A l) (hl : l.length ≤ 1048576) (hc : l.length ≤ c) (hs : ∀ x ∈ l, Person_small 1048576 x) (hsz : s.size ≤ 1048576) (ht : TabM w) (h0 : ¬ ∃ who, TxtP l n who s) : Calls Tryd.prog 7 #[.slice A l.length c, .int .i64 n, .string s] w fun e w' => e = .returned (.tuple #[.slice none 0 0, .bool false]) ∧ Below w.heap.size w w' := by
  refine (iReadPlacing_any l A c n s w h hl hc hs hsz ht.1 ht.2).mono ?_
  rintro e w' ⟨⟨l', A, c, h1, rfl, hc, ho⟩ | ⟨_, rfl⟩, hb⟩
  · exact absurd ⟨l', h1⟩ h0
  · exact ⟨rfl, hb⟩
set_option maxHeartbeats 4000000 in
theorem readPlacingLaw (w : World) (l : List Pk) (Al : Option Addr) (cl : Nat) (hrl : RdP w w.heap.size Al l) (hll : l.length ≤ 9223372036854775807) (hsl : ∀ x ∈ l, Person_small 9223372036854775807 x) (n : Int) (hszn : -9223372036854775808 ≤ n ∧ n ≤ 9223372036854775807) (s : ByteArray) (hszs : s.size ≤ 9223372036854775807) (htab : TabM w) :
    Calls Tryd.prog 3 #[.slice Al l.length cl, .int .i64 n, .string s] w fun e w' => e = .returned (.bool true) ∧ Below w.heap.size w w' := by
  have Htab := Lib.hid htab
  clear htab
  have Hrl := Lib.hid hrl
  have Hsl := Lib.hid hsl
  clear hrl hsl
  by_cases gs : 1048576 < s.size
  · go_enter Tryd.func3, Tryd.ntmps3
    go_wp2
    go_ret
    exact ⟨rfl, Below.refl _ _⟩
  have Bw0 := Lib.hid (Below.refl w.heap.size w)
  go_enter Tryd.func3, Tryd.ntmps3
  go_wp2_with fail
  refine (szPersonS_any l Al cl (1048576 : Int) _ ((Hrl.out.below Bw0.out (Nat.le_refl _)).more Bw0.out.size) (by omega) (by omega) (by omega) Hsl.out).mono ?_
  rintro e w1 ⟨r1, rfl, hz, hb⟩
  have C1 := Lib.hid hb
  clear hb
  have t1 := C1.out.size
  have Bw1 := Lib.hid (Bw0.out.trans (C1.out.mono Bw0.out.size))
  have Z1 := Lib.hid hz
  clear hz
  by_cases n1 : r1 < 0
  · go_wp2_with fail
    go_ret
    exact ⟨rfl, Bw1.out⟩
  have z1 := Z1.out.resolve_left n1
  have y1 : 0 ≤ r1 ∧ r1 ≤ 1048576 ∧ l.length ≤ 1048576 := ⟨z1.1, by have := z1.2.1; omega, by have := z1.2.2.1; omega⟩
  obtain ⟨y1a, y1b, hll'⟩ := y1
  have htl : totP l ≤ 1048576 := by have := z1.2.2.2.2; omega
  have hcntl : cntP l ≤ 2097152 := by unfold cntP; omega
  have Hml : Hid (∀ x ∈ l, Person_small 1048576 x) := Lib.hid (fun x hx => by have := z1.2.2.2.1 x hx; simp only [Person_small] at this ⊢; omega)
  clear z1
  by_cases h : ∃ who, TxtP l n who s
  · obtain ⟨who, h⟩ := h
    have H := Lib.hid h
    have hlen : who.length ≤ 7 := by have h1 := h.1.2.1; have h2 := h.1.1.1.2; omega
    clear h
    go_wp2_with fail
    refine (toPersonS_any l Al cl _ ((Hrl.out.below Bw1.out (Nat.le_refl _)).more Bw1.out.size) (by omega) Hml.out).mono ?_
    rintro e w2 ⟨A2, rfl, ho, hb⟩
    have C2 := Lib.hid hb
    clear hb
    have t2 := C2.out.size
    have Bw2 := Lib.hid (Bw1.out.trans (C2.out.mono Bw1.out.size))
    have O_t1_2 := Lib.hid ho
    clear ho
    go_wp2_with fail
    refine (sReadPlacing_t l A2 l.length n s _ (O_t1_2.out.rd trivial) (by omega) (Nat.le_refl _) Hml.out (by omega) (Htab.out.later Bw2.out) who H.out).mono ?_
    rintro e w3 ⟨A_w0, c_w0, rfl, ho0, hb⟩
    have C3 := Lib.hid hb
    clear hb
    have t3 := C3.out.size
    have Bw3 := Lib.hid (Bw2.out.trans (C3.out.mono Bw2.out.size))
    have O_w0_3 := Lib.hid ho0
    clear ho0
    go_wp2_with fail
    refine (toPersonS_any l Al cl _ ((Hrl.out.below Bw3.out (Nat.le_refl _)).more Bw3.out.size) (by omega) Hml.out).mono ?_
    rintro e w4 ⟨A4, rfl, ho, hb⟩
    have C4 := Lib.hid hb
    clear hb
    have t4 := C4.out.size
    have Bw4 := Lib.hid (Bw3.out.trans (C4.out.mono Bw3.out.size))
    have O_x0_4 := Lib.hid ho
    clear ho
    have O_w0_4 := Lib.hid (O_w0_3.out.later C4.out)
    clear O_w0_3
    go_wp2_with fail
    refine (iReadPlacing_t l A4 l.length n s _ (O_x0_4.out.rd trivial) (by omega) (Nat.le_refl _) Hml.out (by omega) (Htab.out.later Bw4.out) who H.out).mono ?_
    rintro e w5 ⟨A_g0, c_g0, rfl, ho0, hb⟩
    have C5 := Lib.hid hb
    clear hb
    have t5 := C5.out.size
    have Bw5 := Lib.hid (Bw4.out.trans (C5.out.mono Bw4.out.size))
    have O_g0_5 := Lib.hid ho0
    clear ho0
    have O_w0_5 := Lib.hid (O_w0_4.out.later C5.out)
    clear O_w0_4
    have O_x0_5 := Lib.hid (O_x0_4.out.later C5.out)
    clear O_x0_4
    go_wp2_with fail
    refine (eqIntS_t who A_g0 A_w0 c_g0 c_w0 _ (O_g0_5.out.rd encInt_len) (O_w0_5.out.rd encInt_len) (by omega)).mono ?_
    rintro e w6 ⟨rfl, hb⟩
    have C6 := Lib.hid hb
    clear hb
    have t6 := C6.out.size
    have Bw6 := Lib.hid (Bw5.out.trans (C6.out.mono Bw5.out.size))
    have O_w0_6 := Lib.hid (O_w0_5.out.later C6.out)
    clear O_w0_5
    have O_x0_6 := Lib.hid (O_x0_5.out.later C6.out)
    clear O_x0_5
    have O_g0_6 := Lib.hid (O_g0_5.out.later C6.out)
    clear O_g0_5
    go_wp2_with fail
    refine (toPersonS_any l Al cl _ ((Hrl.out.below Bw6.out (Nat.le_refl _)).more Bw6.out.size) (by omega) Hml.out).mono ?_
    rintro e w7 ⟨A7, rfl, ho, hb⟩
    have C7 := Lib.hid hb
    clear hb
    have t7 := C7.out.size
    have Bw7 := Lib.hid (Bw6.out.trans (C7.out.mono Bw6.out.size))
    have O_t6_7 := Lib.hid ho
    clear ho
    have O_w0_7 := Lib.hid (O_w0_6.out.later C7.out)
    clear O_w0_6
    have O_x0_7 := Lib.hid (O_x0_6.out.later C7.out)
    clear O_x0_6
    have O_g0_7 := Lib.hid (O_g0_6.out.later C7.out)
    clear O_g0_6
    go_wp2_with fail
    refine (eqPersonS_t l A4 A7 l.length l.length _ (O_x0_7.out.rd trivial) (O_t6_7.out.rd trivial) (by omega) Hml.out).mono ?_
    rintro e w8 ⟨rfl, hb⟩
    have C8 := Lib.hid hb
    clear hb
    have t8 := C8.out.size
    have Bw8 := Lib.hid (Bw7.out.trans (C8.out.mono Bw7.out.size))
    have O_w0_8 := Lib.hid (O_w0_7.out.later C8.out)
    clear O_w0_7
    have O_x0_8 := Lib.hid (O_x0_7.out.later C8.out)
    clear O_x0_7
    have O_g0_8 := Lib.hid (O_g0_7.out.later C8.out)
    clear O_g0_7
    go_wp2_with fail
    refine (markPersonS_any l _ _ A4 l.length 1 _ O_x0_8.out (by omega) (by omega) (by omega)).mono ?_
    rintro e w9 ⟨he, ho, hc⟩
    obtain ⟨q9, hq⟩ : ∃ q : Nat, q = 1 + cntP l := ⟨_, rfl⟩
    rw [← hq] at he
    subst he
    have Hq9 := Lib.hid hq
    have b9 : 0 < q9 ∧ q9 ≤ 10000001 := by omega
    obtain ⟨b9a, b9b⟩ := b9
    clear hq
    have C9 := Lib.hid hc
    clear hc
    have t9 := C9.out.size
    have Bw9 := Lib.hid (Below.chg Bw8.out C9.out (by omega) Bw8.out.size)
    have O_x0_9 := Lib.hid ho
    clear ho
    have O_w0_9 := Lib.hid (O_w0_8.out.chg C9.out (by omega))
    clear O_w0_8
    have O_g0_9 := Lib.hid (O_g0_8.out.chg C9.out (by omega))
    clear O_g0_8
    go_wp2_with fail
    refine (eqIntS_t who A_g0 A_w0 c_g0 c_w0 _ (O_g0_9.out.rd encInt_len) (O_w0_9.out.rd encInt_len) (by omega)).mono ?_
    rintro e w10 ⟨rfl, hb⟩
    have C10 := Lib.hid hb
    clear hb
    have t10 := C10.out.size
    have Bw10 := Lib.hid (Bw9.out.trans (C10.out.mono Bw9.out.size))
    have O_w0_10 := Lib.hid (O_w0_9.out.later C10.out)
    clear O_w0_9
    have O_g0_10 := Lib.hid (O_g0_9.out.later C10.out)
    clear O_g0_9
    go_wp2_with fail
    refine (markIntS_any who _ _ A_g0 c_g0 1 _ O_g0_10.out (by omega) (by omega) (by omega)).mono ?_
    rintro e w11 ⟨he, ho, hc⟩
    obtain ⟨q11, hq⟩ : ∃ q : Nat, q = 1 + who.length * 1 := ⟨_, rfl⟩
    rw [← hq] at he
    subst he
    have Hq11 := Lib.hid hq
    have b11 : 0 < q11 ∧ q11 ≤ 10000001 := by omega
    obtain ⟨b11a, b11b⟩ := b11
    clear hq
    have C11 := Lib.hid hc
    clear hc
    have t11 := C11.out.size
    have Bw11 := Lib.hid (Below.chg Bw10.out C11.out (by omega) Bw10.out.size)
    have O_g0_11 := Lib.hid ho
    clear ho
    have O_w0_11 := Lib.hid (O_w0_10.out.chg C11.out (by omega))
    clear O_w0_10
    go_wp2_with fail
    refine (heldIntS_any who.length A_g0 c_g0 1 _ (O_g0_11.out.rd encInt_len) (by omega) (by omega) (by omega)).mono ?_
    rintro e w12 ⟨he, hb⟩
    rw [← Hq11.out] at he
    subst he
    have C12 := Lib.hid hb
    clear hb
    have t12 := C12.out.size
    have Bw12 := Lib.hid (Bw11.out.trans (C12.out.mono Bw11.out.size))
    have O_w0_12 := Lib.hid (O_w0_11.out.later C12.out)
    clear O_w0_11
    have O_g0_12 := Lib.hid (O_g0_11.out.later C12.out)
    clear O_g0_11
    go_wp2_with fail
    refine (toPersonS_any l Al cl _ ((Hrl.out.below Bw12.out (Nat.le_refl _)).more Bw12.out.size) (by omega) Hml.out).mono ?_
    rintro e w13 ⟨A13, rfl, ho, hb⟩
    have C13 := Lib.hid hb
    clear hb
    have t13 := C13.out.size
    have Bw13 := Lib.hid (Bw12.out.trans (C13.out.mono Bw12.out.size))
    have O_t15_13 := Lib.hid ho
    clear ho
    have O_w0_13 := Lib.hid (O_w0_12.out.later C13.out)
    clear O_w0_12
    have O_g0_13 := Lib.hid (O_g0_12.out.later C13.out)
    clear O_g0_12
    go_wp2_with fail
    refine (iReadPlacing_t l A13 l.length n s _ (O_t15_13.out.rd trivial) (by omega) (Nat.le_refl _) Hml.out (by omega) (Htab.out.later Bw13.out) who H.out).mono ?_
    rintro e w14 ⟨A_h0, c_h0, rfl, ho0, hb⟩
    have C14 := Lib.hid hb
    clear hb
    have t14 := C14.out.size
    have Bw14 := Lib.hid (Bw13.out.trans (C14.out.mono Bw13.out.size))
    have O_h0_14 := Lib.hid ho0
    clear ho0
    have O_w0_14 := Lib.hid (O_w0_13.out.later C14.out)
    clear O_w0_13
    have O_g0_14 := Lib.hid (O_g0_13.out.later C14.out)
    clear O_g0_13
    go_wp2_with fail
    refine (eqIntS_t who A_h0 A_w0 c_h0 c_w0 _ (O_h0_14.out.rd encInt_len) (O_w0_14.out.rd encInt_len) (by omega)).mono ?_
    rintro e w15 ⟨rfl, hb⟩
    have C15 := Lib.hid hb
    clear hb
    have t15 := C15.out.size
    have Bw15 := Lib.hid (Bw14.out.trans (C15.out.mono Bw14.out.size))
    have O_g0_15 := Lib.hid (O_g0_14.out.later C15.out)
    clear O_g0_14
    go_wp2_with fail
    refine (heldIntS_any who.length A_g0 c_g0 1 _ (O_g0_15.out.rd encInt_len) (by omega) (by omega) (by omega)).mono ?_
    rintro e w16 ⟨he, hb⟩
    rw [← Hq11.out] at he
    subst he
    have C16 := Lib.hid hb
    clear hb
    have t16 := C16.out.size
    have Bw16 := Lib.hid (Bw15.out.trans (C16.out.mono Bw15.out.size))
    go_wp2_with fail
    go_ret
    exact ⟨rfl, Bw16.out⟩
  · have H := Lib.hid h
    clear h
    go_wp2_with fail
    refine (toPersonS_any l Al cl _ ((Hrl.out.below Bw1.out (Nat.le_refl _)).more Bw1.out.size) (by omega) Hml.out).mono ?_
    rintro e w2 ⟨A2, rfl, ho, hb⟩
    have C2 := Lib.hid hb
    clear hb
    have t2 := C2.out.size
    have Bw2 := Lib.hid (Bw1.out.trans (C2.out.mono Bw1.out.size))
    have O_t1_2 := Lib.hid ho
    clear ho
    go_wp2_with fail
    refine (sReadPlacing_f l A2 l.length n s _ (O_t1_2.out.rd trivial) (by omega) (Nat.le_refl _) Hml.out (by omega) (Htab.out.later Bw2.out) H.out).mono ?_
    rintro e w3 ⟨rfl, hb⟩
    have C3 := Lib.hid hb
    clear hb
    have t3 := C3.out.size
    have Bw3 := Lib.hid (Bw2.out.trans (C3.out.mono Bw2.out.size))
    have O_w0_3 : Hid (OwnL w3 w2.heap.size w3.heap.size none 1 encInt ([] : List Int)) := Lib.hid OwnL.nil
    go_wp2_with fail
    refine (toPersonS_any l Al cl _ ((Hrl.out.below Bw3.out (Nat.le_refl _)).more Bw3.out.size) (by omega) Hml.out).mono ?_
    rintro e w4 ⟨A4, rfl, ho, hb⟩
    have C4 := Lib.hid hb
    clear hb
    have t4 := C4.out.size
    have Bw4 := Lib.hid (Bw3.out.trans (C4.out.mono Bw3.out.size))
    have O_x0_4 := Lib.hid ho
    clear ho
    have O_w0_4 := Lib.hid (O_w0_3.out.later C4.out)
    clear O_w0_3
    go_wp2_with fail
    refine (iReadPlacing_f l A4 l.length n s _ (O_x0_4.out.rd trivial) (by omega) (Nat.le_refl _) Hml.out (by omega) (Htab.out.later Bw4.out) H.out).mono ?_
    rintro e w5 ⟨rfl, hb⟩
    have C5 := Lib.hid hb
    clear hb
    have t5 := C5.out.size
    have Bw5 := Lib.hid (Bw4.out.trans (C5.out.mono Bw4.out.size))
    have O_g0_5 : Hid (OwnL w5 w4.heap.size w5.heap.size none 1 encInt ([] : List Int)) := Lib.hid OwnL.nil
    have O_w0_5 := Lib.hid (O_w0_4.out.later C5.out)
    clear O_w0_4
    have O_x0_5 := Lib.hid (O_x0_4.out.later C5.out)
    clear O_x0_4
    go_wp2_with fail
    refine (eqIntS_t ([] : List Int) none none 0 0 _ (O_g0_5.out.rd encInt_len) (O_w0_5.out.rd encInt_len) (by simp)).mono ?_
    rintro e w6 ⟨rfl, hb⟩
    have C6 := Lib.hid hb
    clear hb
    have t6 := C6.out.size
    have Bw6 := Lib.hid (Bw5.out.trans (C6.out.mono Bw5.out.size))
    have O_w0_6 := Lib.hid (O_w0_5.out.later C6.out)
    clear O_w0_5
    have O_x0_6 := Lib.hid (O_x0_5.out.later C6.out)
    clear O_x0_5
    have O_g0_6 := Lib.hid (O_g0_5.out.later C6.out)
    clear O_g0_5
    go_wp2_with fail
    refine (toPersonS_any l Al cl _ ((Hrl.out.below Bw6.out (Nat.le_refl _)).more Bw6.out.size) (by omega) Hml.out).mono ?_
    rintro e w7 ⟨A7, rfl, ho, hb⟩
    have C7 := Lib.hid hb
    clear hb
    have t7 := C7.out.size
    have Bw7 := Lib.hid (Bw6.out.trans (C7.out.mono Bw6.out.size))
    have O_t6_7 := Lib.hid ho
    clear ho
    have O_w0_7 := Lib.hid (O_w0_6.out.later C7.out)
    clear O_w0_6
    have O_x0_7 := Lib.hid (O_x0_6.out.later C7.out)
    clear O_x0_6
    have O_g0_7 := Lib.hid (O_g0_6.out.later C7.out)
    clear O_g0_6
    go_wp2_with fail
    refine (eqPersonS_t l A4 A7 l.length l.length _ (O_x0_7.out.rd trivial) (O_t6_7.out.rd trivial) (by omega) Hml.out).mono ?_
    rintro e w8 ⟨rfl, hb⟩
    have C8 := Lib.hid hb
    clear hb
    have t8 := C8.out.size
    have Bw8 := Lib.hid (Bw7.out.trans (C8.out.mono Bw7.out.size))
    have O_w0_8 := Lib.hid (O_w0_7.out.later C8.out)
    clear O_w0_7
    have O_x0_8 := Lib.hid (O_x0_7.out.later C8.out)
    clear O_x0_7
    have O_g0_8 := Lib.hid (O_g0_7.out.later C8.out)
    clear O_g0_7
    go_wp2_with fail
    refine (markPersonS_any l _ _ A4 l.length 1 _ O_x0_8.out (by omega) (by omega) (by omega)).mono ?_
    rintro e w9 ⟨he, ho, hc⟩
    obtain ⟨q9, hq⟩ : ∃ q : Nat, q = 1 + cntP l := ⟨_, rfl⟩
    rw [← hq] at he
    subst he
    have Hq9 := Lib.hid hq
    have b9 : 0 < q9 ∧ q9 ≤ 10000001 := by omega
    obtain ⟨b9a, b9b⟩ := b9
    clear hq
    have C9 := Lib.hid hc
    clear hc
    have t9 := C9.out.size
    have Bw9 := Lib.hid (Below.chg Bw8.out C9.out (by omega) Bw8.out.size)
    have O_x0_9 := Lib.hid ho
    clear ho
    have O_w0_9 := Lib.hid (O_w0_8.out.chg C9.out (by omega))
    clear O_w0_8
    have O_g0_9 := Lib.hid (O_g0_8.out.chg C9.out (by omega))
    clear O_g0_8
    go_wp2_with fail
    refine (eqIntS_t ([] : List Int) none none 0 0 _ (O_g0_9.out.rd encInt_len) (O_w0_9.out.rd encInt_len) (by simp)).mono ?_
    rintro e w10 ⟨rfl, hb⟩
    have C10 := Lib.hid hb
    clear hb
    have t10 := C10.out.size
    have Bw10 := Lib.hid (Bw9.out.trans (C10.out.mono Bw9.out.size))
    have O_w0_10 := Lib.hid (O_w0_9.out.later C10.out)
    clear O_w0_9
    have O_g0_10 := Lib.hid (O_g0_9.out.later C10.out)
    clear O_g0_9
    go_wp2_with fail
    refine (markIntS_any ([] : List Int) _ _ none 0 1 _ O_g0_10.out (by simp) (by omega) (by omega)).mono ?_
    rintro e w11 ⟨he, ho, hc⟩
    obtain ⟨q11, hq⟩ : ∃ q : Nat, q = 1 + ([] : List Int).length * 1 := ⟨_, rfl⟩
    rw [← hq] at he
    subst he
    have Hq11 := Lib.hid hq
    have b11 : 0 < q11 ∧ q11 ≤ 10000001 := by simp at hq; omega
    obtain ⟨b11a, b11b⟩ := b11
    clear hq
    have C11 := Lib.hid hc
    clear hc
    have t11 := C11.out.size
    have Bw11 := Lib.hid (Below.chg Bw10.out C11.out (by omega) Bw10.out.size)
    have O_g0_11 := Lib.hid ho
    clear ho
    have O_w0_11 := Lib.hid (O_w0_10.out.chg C11.out (by omega))
    clear O_w0_10
    go_wp2_with fail
    refine (heldIntS_any ([] : List Int).length none 0 1 _ (O_g0_11.out.rd encInt_len) (by simp) (by omega) (by omega)).mono ?_
    rintro e w12 ⟨he, hb⟩
    rw [← Hq11.out] at he
    subst he
    have C12 := Lib.hid hb
    clear hb
    have t12 := C12.out.size
    have Bw12 := Lib.hid (Bw11.out.trans (C12.out.mono Bw11.out.size))
    have O_w0_12 := Lib.hid (O_w0_11.out.later C12.out)
    clear O_w0_11
    have O_g0_12 := Lib.hid (O_g0_11.out.later C12.out)
    clear O_g0_11
    go_wp2_with fail
    refine (toPersonS_any l Al cl _ ((Hrl.out.below Bw12.out (Nat.le_refl _)).more Bw12.out.size) (by omega) Hml.out).mono ?_
    rintro e w13 ⟨A13, rfl, ho, hb⟩
    have C13 := Lib.hid hb
    clear hb
    have t13 := C13.out.size
    have Bw13 := Lib.hid (Bw12.out.trans (C13.out.mono Bw12.out.size))
    have O_t15_13 := Lib.hid ho
    clear ho
    have O_w0_13 := Lib.hid (O_w0_12.out.later C13.out)
    clear O_w0_12
    have O_g0_13 := Lib.hid (O_g0_12.out.later C13.out)
    clear O_g0_12
    go_wp2_with fail
    refine (iReadPlacing_f l A13 l.length n s _ (O_t15_13.out.rd trivial) (by omega) (Nat.le_refl _) Hml.out (by omega) (Htab.out.later Bw13.out) H.out).mono ?_
    rintro e w14 ⟨rfl, hb⟩
    have C14 := Lib.hid hb
    clear hb
    have t14 := C14.out.size
    have Bw14 := Lib.hid (Bw13.out.trans (C14.out.mono Bw13.out.size))
    have O_h0_14 : Hid (OwnL w14 w13.heap.size w14.heap.size none 1 encInt ([] : List Int)) := Lib.hid OwnL.nil
    have O_w0_14 := Lib.hid (O_w0_13.out.later C14.out)
    clear O_w0_13
    have O_g0_14 := Lib.hid (O_g0_13.out.later C14.out)
    clear O_g0_13
    go_wp2_with fail
    refine (eqIntS_t ([] : List Int) none none 0 0 _ (O_h0_14.out.rd encInt_len) (O_w0_14.out.rd encInt_len) (by simp)).mono ?_
    rintro e w15 ⟨rfl, hb⟩
    have C15 := Lib.hid hb
    clear hb
    have t15 := C15.out.size
    have Bw15 := Lib.hid (Bw14.out.trans (C15.out.mono Bw14.out.size))
    have O_g0_15 := Lib.hid (O_g0_14.out.later C15.out)
    clear O_g0_14
    go_wp2_with fail
    refine (heldIntS_any ([] : List Int).length none 0 1 _ (O_g0_15.out.rd encInt_len) (by simp) (by omega) (by omega)).mono ?_
    rintro e w16 ⟨he, hb⟩
    rw [← Hq11.out] at he
    subst he
    have C16 := Lib.hid hb
    clear hb
    have t16 := C16.out.size
    have Bw16 := Lib.hid (Bw15.out.trans (C16.out.mono Bw15.out.size))
    go_wp2_with fail
    go_ret
    exact ⟨rfl, Bw16.out⟩

namespace fnExactReadPlacing
open Go.ChangeShapes Go.WideShapes Go.ChangeAt Go.RowKit Go.Deep
open Go.ChangeMaps (open_string shut_string)
theorem own : ownKnob Tryd.prog.godebug = none := by kernel_rfl
theorem laid : laidOutB Tryd.prog = true := by kernel_rfl
theorem reads : Tryd.f3.params.toList.all (fun t => Tryd.prog.readableRec t && decide (t < Tryd.prog.types.size)) = true := by kernel_rfl
set_option maxRecDepth 100000 in
theorem lifted (os : Os) (started : os.Started) (H : Type) (enc : TypeId × Value → H) :
    ReturnsInHanded {} Tryd.checked os 3 .any (fun w args => (Rows.fnExactReadPlacingSpec.pre enc Tryd.prog Tryd.f3 [] false w args ∧ laidMetH Tryd.prog Rows.fnExactReadPlacingRow.laid w) ∧ sizedMet enc Tryd.prog Tryd.f3 (OpenSpec.ofChange Rows.fnExactReadPlacingSpec) false w args) (Rows.fnExactReadPlacingSpec.post enc Tryd.prog Tryd.f3 false true false false) := by
  refine handed_shaped (C := Tryd.checked) (X := fun w _ => laidMetH Tryd.prog Rows.fnExactReadPlacingRow.laid w) (fun _ _ _ hh h => h.of_heap hh) own started (by kernel_rfl) Tryd.func3
    (ChangeSpec.witness_shaped (enc := enc) (C := Tryd.checked) (os := os) (X := fun w _ => laidMetH Tryd.prog Rows.fnExactReadPlacingRow.laid w) false (World.laidAll Tryd.prog os Rows.fnExactReadPlacingRow.laid) #[.slice none 0 0, .int .i64 0, .string ByteArray.empty] 8 (World.laidAll_os _ _ _) (World.shaped_of_ZipB (by kernel_rfl) (by kernel_rfl)) (by kernel_rfl) (by kernel_rfl) (by kernel_rfl) (by rw [MakeChecks.laidMetH_plain _ _ _ (by kernel_rfl)]; exact laidMet_laidAll _ (by kernel_rfl) (by kernel_rfl))) ?_
  intro W base args ds gs before hsh0 hval0 hW _ _ hL _
  have hmlW : Mlen W := mlen_of hsh0
  have htabW : Tab W := tab_of (by rw [MakeChecks.laidMetH_plain _ _ _ (by kernel_rfl)] at hL; exact hL)
  have hval : ∀ (j : Nat) t v, Tryd.f3.params[j]? = some t → args[j]? = some v → Value.okWide Tryd.prog W .any base t v := hval0
  have hW' := hW
  obtain ⟨p, q, hA0, hV, rfl, hfz, hnd⟩ := hW
  have hA : DataW.TrodAll enc Tryd.prog W 0 (fun _ => true) true Tryd.f3.params.toList args.toList ds p := hA0
  rw [Tryd.params3] at hA hval
  obtain ⟨rfl, rfl⟩ := trodVars_none hV
  have hlt : ∀ x ∈ p, x.block < W.heap.size := fun x hx => by simpa using hW'.lt x (List.mem_append.2 (.inl hx))
  clear hA0 hval0
  obtain ⟨v0, vs0, d0, ds0, p0, q0, hargs, rfl, rfl, h0, r0⟩ := trodAll_cons hA
  obtain ⟨v1, vs1, d1, ds1, p1, q1, rfl, rfl, rfl, h1, r1⟩ := trodAll_cons r0
  obtain ⟨v2, vs2, d2, ds2, p2, q2, rfl, rfl, rfl, h2, r2⟩ := trodAll_cons r1
  obtain ⟨rfl, rfl, rfl⟩ := trodAll_nil r2
  obtain rfl : args = #[v0, v1, v2] := by cases args; simp_all
  clear hargs
  obtain ⟨A0, a0, c0, rfl, y0, x0, z0⟩ := open_list Tryd.underlying22 2 (by kernel_rfl) (by omega) Psn.enc _ Person_el (hval 0 22 v0 rfl rfl) h0
  obtain ⟨x0, z0⟩ := people_open x0 z0
  obtain ⟨a1, rfl, rfl, rfl, z1⟩ := open_int Tryd.underlying3 (hval 1 3 v1 rfl rfl) h1
  obtain ⟨a2, rfl, rfl, rfl, z2⟩ := open_string Tryd.underlying9 (hval 2 9 v2 rfl rfl) h2
  have hlaw := readPlacingLaw W (a0.map Psn.key) A0 c0 x0 (by rw [List.length_map]; unfold maxLen at y0; omega) z0 a1 (by simpa [Lit.wf, IntKind.min, IntKind.max, IntKind.signed, IntKind.bits] using z1) a2 z2 ⟨htabW, hmlW⟩
  simp only [List.length_map] at hlaw
  refine (hlaw).mono fun e W' ⟨he, hg⟩ => ?_
  subst he
  exact ⟨_, rfl, law_post laid reads rfl Tryd.underlying4 rfl rfl hW' hg⟩
theorem over : Rows.fnExactReadPlacingRow.holds Tryd.pinned (OpenSpec.ofChange Rows.fnExactReadPlacingSpec) :=
  OpenClaim.holds_of_wide 3 Tryd.f3 rfl rfl rfl rfl rfl rfl rfl ⟨rfl, rfl, rfl, rfl, rfl⟩ rfl rfl rfl rfl rfl (by kernel_rfl) Tryd.func3 facts
    (of_decide_eq_true (by kernel_rfl)) (by unfold Func.isWrapper; first | (rw [if_pos (by decide +kernel)]; kernel_rfl) | (rw [if_neg (by decide +kernel)]; exact ⟨rfl, rfl⟩))
    (fun os started H enc _ => lifted os started H enc)
theorem proved : Rows.FnExactReadPlacingCardSaid :=
  Claim7.holds_tied_plain_at .later [] [.data, .data, .data, .data, .pinned] true (true, "e91a3c7c89a735fc6790b2c587fcbe23081ef100aa01b0a350f8c33b15be2bc5") false
    over (fun _ h => by cases h) (by kernel_rfl) (fun _ h => by cases h) fnExactReadPlacing_row_tie rfl ⟨rfl, rfl⟩ (by kernel_rfl) rfl
    (fun f fn hf hfn => by
      obtain rfl : f = 3 := Option.some.inj ((show Tryd.prog.funcNamed "loop.example/g00894/laws.FnExactReadPlacing" = some 3 by kernel_rfl).symm.trans hf) |>.symm
      obtain rfl : fn = Tryd.f3 := (Option.some.inj (Tryd.func3.symm.trans hfn)).symm
      exact ⟨by kernel_rfl, fun j t ht => by
        have hm : t ∈ Tryd.f3.params.toList := Array.mem_toList_iff.2 (Array.mem_of_getElem? ht)
        have hall : (Tryd.f3.params.toList.all fun u => !Tryd.prog.wantsStandIn u) = true := by kernel_rfl
        exact (show Tryd.prog.wantsStandIn t = false by simpa using List.all_eq_true.1 hall t hm)⟩)
    (by kernel_rfl)
end fnExactReadPlacing
end Go.Proofs.YtkblldbilofdgaaDoor
