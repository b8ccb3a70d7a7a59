/-
  GoodSlips of the program returns what the reference's returns, for all arguments: no condition.
-/
import Derived.Test.YtkmakmbdfeojcaaSlipsP
namespace Go.Proofs.Ytkmakmbdfeojcaa
open Go.RowKit
set_option linter.unusedVariables false
set_option linter.unusedSimpArgs false
set_option maxRecDepth 100000

set_option maxHeartbeats 4000000 in
theorem slipsLaw (w : World) (a : List ByteArray) (Aa : Option Addr) (ca : Nat) (hra : RdL w w.heap.size Aa 1 encString a) (hla : a.length ≤ 9223372036854775807) (hsa : ∀ x ∈ a, String_small 9223372036854775807 x) (l : List Slp) (Al : Option Addr) (cl : Nat) (hrl : RdL w w.heap.size Al 3 Slp.enc l) (hll : l.length ≤ 9223372036854775807) (hsl : ∀ x ∈ l, Slip_small 9223372036854775807 x) :
    Calls Try.prog 10 #[.slice Aa a.length ca, .slice Al l.length cl] w fun e w' => e = .returned (.bool true) ∧ Below w.heap.size w w' := by
  have Hra := Lib.hid hra
  have Hsa := Lib.hid hsa
  clear hra hsa
  have Hrl := Lib.hid hrl
  have Hsl := Lib.hid hsl
  clear hrl hsl
  have Bw0 := Lib.hid (Below.refl w.heap.size w)
  go_enter Try.func10, Try.ntmps10
  go_wp2_with fail
  refine (szStringS_any a Aa ca (1048576 : Int) _ ((Hra.out.below Bw0.out (Nat.le_refl _)).more Bw0.out.size) (by omega) (by omega) (by omega) Hsa.out).mono ?_
  rintro e w1 ⟨r1, rfl, hz, hb⟩
  have C1 := Lib.hid hb
  clear hb
  have t1 := C1.out.size
  have Bw1 := Lib.hid (Bw0.out.trans (C1.out.mono Bw0.out.size))
  have Z1 := Lib.hid hz
  clear hz
  by_cases n1 : r1 < 0
  · go_wp2_with fail
    go_ret
    exact ⟨rfl, Bw1.out⟩
  have z1 := Z1.out.resolve_left n1
  have y1 : 0 ≤ r1 ∧ r1 ≤ 1048576 ∧ a.length ≤ 1048576 := ⟨z1.1, by have := z1.2.1; omega, by have := z1.2.2.1; omega⟩
  obtain ⟨y1a, y1b, hla'⟩ := y1
  have Hma : Hid (∀ x ∈ a, String_small 1048576 x) := Lib.hid (fun x hx => by have := z1.2.2.2 x hx; simp only [String_small] at this ⊢; omega)
  clear z1
  go_wp2_with fail
  refine (szSlipS_any l Al cl r1 _ (by omega) (by omega) (by omega)).mono ?_
  rintro e w2 ⟨r2, rfl, hz, hb⟩
  have C2 := Lib.hid hb
  clear hb
  have t2 := C2.out.size
  have Bw2 := Lib.hid (Bw1.out.trans (C2.out.mono Bw1.out.size))
  have Z2 := Lib.hid hz
  clear hz
  by_cases n2 : r2 < 0
  · go_wp2_with fail
    go_ret
    exact ⟨rfl, Bw2.out⟩
  have z2 := Z2.out.resolve_left n2
  have y2 : 0 ≤ r2 ∧ r2 ≤ 1048576 ∧ l.length ≤ 1048576 := ⟨z2.1, by have := z2.2.1; omega, by have := z2.2.2.1; omega⟩
  obtain ⟨y2a, y2b, hll'⟩ := y2
  clear z2
  by_cases h : slipsP a l
  · have e1 := B_t h
    clear h
    go_wp2_with fail
    refine (toStringS_any a Aa ca _ ((Hra.out.below Bw2.out (Nat.le_refl _)).more Bw2.out.size) (by omega)).mono ?_
    rintro e w3 ⟨A3, rfl, ho, hb⟩
    have C3 := Lib.hid hb
    clear hb
    have t3 := C3.out.size
    have Bw3 := Lib.hid (Bw2.out.trans (C3.out.mono Bw2.out.size))
    have O_t2_3 := Lib.hid ho
    clear ho
    go_wp2_with fail
    refine (toSlipS_any l Al cl _ ((Hrl.out.below Bw3.out (Nat.le_refl _)).more Bw3.out.size) (by omega)).mono ?_
    rintro e w4 ⟨A4, rfl, ho, hb⟩
    have C4 := Lib.hid hb
    clear hb
    have t4 := C4.out.size
    have Bw4 := Lib.hid (Bw3.out.trans (C4.out.mono Bw3.out.size))
    have O_t3_4 := Lib.hid ho
    clear ho
    have O_t2_4 := Lib.hid (O_t2_3.out.later C4.out)
    clear O_t2_3
    go_wp2_with fail
    refine (sGoodSlips_any a l A3 A4 a.length l.length _ (O_t2_4.out.rd encString_len) (O_t3_4.out.rd Slp_enc_len) (by omega) (by omega) Hma.out).mono ?_
    rintro e w5 ⟨rfl, hb⟩
    have C5 := Lib.hid hb
    clear hb
    have t5 := C5.out.size
    have Bw5 := Lib.hid (Bw4.out.trans (C5.out.mono Bw4.out.size))
    go_wp2_with fail
    refine (toStringS_any a Aa ca _ ((Hra.out.below Bw5.out (Nat.le_refl _)).more Bw5.out.size) (by omega)).mono ?_
    rintro e w6 ⟨A6, rfl, ho, hb⟩
    have C6 := Lib.hid hb
    clear hb
    have t6 := C6.out.size
    have Bw6 := Lib.hid (Bw5.out.trans (C6.out.mono Bw5.out.size))
    have O_x0_6 := Lib.hid ho
    clear ho
    go_wp2_with fail
    refine (toSlipS_any l Al cl _ ((Hrl.out.below Bw6.out (Nat.le_refl _)).more Bw6.out.size) (by omega)).mono ?_
    rintro e w7 ⟨A7, rfl, ho, hb⟩
    have C7 := Lib.hid hb
    clear hb
    have t7 := C7.out.size
    have Bw7 := Lib.hid (Bw6.out.trans (C7.out.mono Bw6.out.size))
    have O_x1_7 := Lib.hid ho
    clear ho
    have O_x0_7 := Lib.hid (O_x0_6.out.later C7.out)
    clear O_x0_6
    go_wp2_with fail
    refine (iGoodSlips_any a l A6 A7 a.length l.length _ (O_x0_7.out.rd encString_len) (O_x1_7.out.rd Slp_enc_len) (by omega) (by omega) Hma.out).mono ?_
    rintro e w8 ⟨rfl, hb⟩
    have C8 := Lib.hid hb
    clear hb
    have t8 := C8.out.size
    have Bw8 := Lib.hid (Bw7.out.trans (C8.out.mono Bw7.out.size))
    have O_x0_8 := Lib.hid (O_x0_7.out.later C8.out)
    clear O_x0_7
    have O_x1_8 := Lib.hid (O_x1_7.out.later C8.out)
    clear O_x1_7
    go_wp2_with fail
    refine (toStringS_any a Aa ca _ ((Hra.out.below Bw8.out (Nat.le_refl _)).more Bw8.out.size) (by omega)).mono ?_
    rintro e w9 ⟨A9, rfl, ho, hb⟩
    have C9 := Lib.hid hb
    clear hb
    have t9 := C9.out.size
    have Bw9 := Lib.hid (Bw8.out.trans (C9.out.mono Bw8.out.size))
    have O_t8_9 := Lib.hid ho
    clear ho
    have O_x0_9 := Lib.hid (O_x0_8.out.later C9.out)
    clear O_x0_8
    have O_x1_9 := Lib.hid (O_x1_8.out.later C9.out)
    clear O_x1_8
    go_wp2_with fail
    refine (eqStringS_t a A6 A9 a.length a.length _ (O_x0_9.out.rd encString_len) (O_t8_9.out.rd encString_len) (by omega)).mono ?_
    rintro e w10 ⟨rfl, hb⟩
    have C10 := Lib.hid hb
    clear hb
    have t10 := C10.out.size
    have Bw10 := Lib.hid (Bw9.out.trans (C10.out.mono Bw9.out.size))
    have O_x1_10 := Lib.hid (O_x1_9.out.later C10.out)
    clear O_x1_9
    go_wp2_with fail
    refine (toSlipS_any l Al cl _ ((Hrl.out.below Bw10.out (Nat.le_refl _)).more Bw10.out.size) (by omega)).mono ?_
    rintro e w11 ⟨A11, rfl, ho, hb⟩
    have C11 := Lib.hid hb
    clear hb
    have t11 := C11.out.size
    have Bw11 := Lib.hid (Bw10.out.trans (C11.out.mono Bw10.out.size))
    have O_t10_11 := Lib.hid ho
    clear ho
    have O_x1_11 := Lib.hid (O_x1_10.out.later C11.out)
    clear O_x1_10
    go_wp2_with fail
    refine (eqSlipS_t l A7 A11 l.length l.length _ (O_x1_11.out.rd Slp_enc_len) (O_t10_11.out.rd Slp_enc_len) (by omega)).mono ?_
    rintro e w12 ⟨rfl, hb⟩
    have C12 := Lib.hid hb
    clear hb
    have t12 := C12.out.size
    have Bw12 := Lib.hid (Bw11.out.trans (C12.out.mono Bw11.out.size))
    go_wp2_with fail
    go_ret
    exact ⟨rfl, Bw12.out⟩
  · have e1 := B_f h
    clear h
    go_wp2_with fail
    refine (toStringS_any a Aa ca _ ((Hra.out.below Bw2.out (Nat.le_refl _)).more Bw2.out.size) (by omega)).mono ?_
    rintro e w3 ⟨A3, rfl, ho, hb⟩
    have C3 := Lib.hid hb
    clear hb
    have t3 := C3.out.size
    have Bw3 := Lib.hid (Bw2.out.trans (C3.out.mono Bw2.out.size))
    have O_t2_3 := Lib.hid ho
    clear ho
    go_wp2_with fail
    refine (toSlipS_any l Al cl _ ((Hrl.out.below Bw3.out (Nat.le_refl _)).more Bw3.out.size) (by omega)).mono ?_
    rintro e w4 ⟨A4, rfl, ho, hb⟩
    have C4 := Lib.hid hb
    clear hb
    have t4 := C4.out.size
    have Bw4 := Lib.hid (Bw3.out.trans (C4.out.mono Bw3.out.size))
    have O_t3_4 := Lib.hid ho
    clear ho
    have O_t2_4 := Lib.hid (O_t2_3.out.later C4.out)
    clear O_t2_3
    go_wp2_with fail
    refine (sGoodSlips_any a l A3 A4 a.length l.length _ (O_t2_4.out.rd encString_len) (O_t3_4.out.rd Slp_enc_len) (by omega) (by omega) Hma.out).mono ?_
    rintro e w5 ⟨rfl, hb⟩
    have C5 := Lib.hid hb
    clear hb
    have t5 := C5.out.size
    have Bw5 := Lib.hid (Bw4.out.trans (C5.out.mono Bw4.out.size))
    go_wp2_with fail
    refine (toStringS_any a Aa ca _ ((Hra.out.below Bw5.out (Nat.le_refl _)).more Bw5.out.size) (by omega)).mono ?_
    rintro e w6 ⟨A6, rfl, ho, hb⟩
    have C6 := Lib.hid hb
    clear hb
    have t6 := C6.out.size
    have Bw6 := Lib.hid (Bw5.out.trans (C6.out.mono Bw5.out.size))
    have O_x0_6 := Lib.hid ho
    clear ho
    go_wp2_with fail
    refine (toSlipS_any l Al cl _ ((Hrl.out.below Bw6.out (Nat.le_refl _)).more Bw6.out.size) (by omega)).mono ?_
    rintro e w7 ⟨A7, rfl, ho, hb⟩
    have C7 := Lib.hid hb
    clear hb
    have t7 := C7.out.size
    have Bw7 := Lib.hid (Bw6.out.trans (C7.out.mono Bw6.out.size))
    have O_x1_7 := Lib.hid ho
    clear ho
    have O_x0_7 := Lib.hid (O_x0_6.out.later C7.out)
    clear O_x0_6
    go_wp2_with fail
    refine (iGoodSlips_any a l A6 A7 a.length l.length _ (O_x0_7.out.rd encString_len) (O_x1_7.out.rd Slp_enc_len) (by omega) (by omega) Hma.out).mono ?_
    rintro e w8 ⟨rfl, hb⟩
    have C8 := Lib.hid hb
    clear hb
    have t8 := C8.out.size
    have Bw8 := Lib.hid (Bw7.out.trans (C8.out.mono Bw7.out.size))
    have O_x0_8 := Lib.hid (O_x0_7.out.later C8.out)
    clear O_x0_7
    have O_x1_8 := Lib.hid (O_x1_7.out.later C8.out)
    clear O_x1_7
    go_wp2_with fail
    refine (toStringS_any a Aa ca _ ((Hra.out.below Bw8.out (Nat.le_refl _)).more Bw8.out.size) (by omega)).mono ?_
    rintro e w9 ⟨A9, rfl, ho, hb⟩
    have C9 := Lib.hid hb
    clear hb
    have t9 := C9.out.size
    have Bw9 := Lib.hid (Bw8.out.trans (C9.out.mono Bw8.out.size))
    have O_t8_9 := Lib.hid ho
    clear ho
    have O_x0_9 := Lib.hid (O_x0_8.out.later C9.out)
    clear O_x0_8
    have O_x1_9 := Lib.hid (O_x1_8.out.later C9.out)
    clear O_x1_8
    go_wp2_with fail
    refine (eqStringS_t a A6 A9 a.length a.length _ (O_x0_9.out.rd encString_len) (O_t8_9.out.rd encString_len) (by omega)).mono ?_
    rintro e w10 ⟨rfl, hb⟩
    have C10 := Lib.hid hb
    clear hb
    have t10 := C10.out.size
    have Bw10 := Lib.hid (Bw9.out.trans (C10.out.mono Bw9.out.size))
    have O_x1_10 := Lib.hid (O_x1_9.out.later C10.out)
    clear O_x1_9
    go_wp2_with fail
    refine (toSlipS_any l Al cl _ ((Hrl.out.below Bw10.out (Nat.le_refl _)).more Bw10.out.size) (by omega)).mono ?_
    rintro e w11 ⟨A11, rfl, ho, hb⟩
    have C11 := Lib.hid hb
    clear hb
    have t11 := C11.out.size
    have Bw11 := Lib.hid (Bw10.out.trans (C11.out.mono Bw10.out.size))
    have O_t10_11 := Lib.hid ho
    clear ho
    have O_x1_11 := Lib.hid (O_x1_10.out.later C11.out)
    clear O_x1_10
    go_wp2_with fail
    refine (eqSlipS_t l A7 A11 l.length l.length _ (O_x1_11.out.rd Slp_enc_len) (O_t10_11.out.rd Slp_enc_len) (by omega)).mono ?_
    rintro e w12 ⟨rfl, hb⟩
    have C12 := Lib.hid hb
    clear hb
    have t12 := C12.out.size
    have Bw12 := Lib.hid (Bw11.out.trans (C12.out.mono Bw11.out.size))
    go_wp2_with fail
    go_ret
    exact ⟨rfl, Bw12.out⟩

namespace fnExactGoodSlips
open Go.ChangeShapes Go.WideShapes Go.ChangeAt Go.RowKit Go.Deep
open Go.ChangeMaps (open_string shut_string)
theorem own : ownKnob Try.prog.godebug = none := by kernel_rfl
theorem laid : laidOutB Try.prog = true := by kernel_rfl
theorem reads : Try.f10.params.toList.all (fun t => Try.prog.readableRec t && decide (t < Try.prog.types.size)) = true := by kernel_rfl
set_option maxRecDepth 100000 in
theorem lifted (os : Os) (started : os.Started) (H : Type) (enc : TypeId × Value → H) :
    ReturnsInHanded {} Try.checked os 10 .any (Rows.fnExactGoodSlipsSpec.pre6 enc Try.prog Try.f10 Rows.fnExactGoodSlipsRow.domain false) (Rows.fnExactGoodSlipsSpec.post enc Try.prog Try.f10 false true false false) := by
  refine returnsInHanded_of_change (C := Try.checked) own started (by kernel_rfl) Try.func10
    (ChangeSpec.witness6 (enc := enc) (C := Try.checked) false ⟨#[], #[.slice none 0 0, .slice none 0 0], []⟩ 8 (by kernel_rfl) (by kernel_rfl) (by kernel_rfl) (by kernel_rfl)) ?_
  intro W base args ds gs before hval0 hW hcnd _
  have hval : ∀ (j : Nat) t v, Try.f10.params[j]? = some t → args[j]? = some v → Value.okWide Try.prog W .any base t v := hval0
  have hW' := hW
  obtain ⟨p, q, hA0, hV, rfl, hfz, hnd⟩ := hW
  have hA : DataW.TrodAll enc Try.prog W 0 (fun _ => true) true Try.f10.params.toList args.toList ds p := hA0
  rw [Try.params10] at hA hval
  obtain ⟨rfl, rfl⟩ := trodVars_none hV
  have hlt : ∀ x ∈ p, x.block < W.heap.size := fun x hx => by simpa using hW'.lt x (List.mem_append.2 (.inl hx))
  clear hA0 hval0
  obtain ⟨v0, vs0, d0, ds0, p0, q0, hargs, rfl, rfl, h0, r0⟩ := trodAll_cons hA
  obtain ⟨v1, vs1, d1, ds1, p1, q1, rfl, rfl, rfl, h1, r1⟩ := trodAll_cons r0
  obtain ⟨rfl, rfl, rfl⟩ := trodAll_nil r1
  obtain rfl : args = #[v0, v1] := by cases args; simp_all
  clear hargs
  obtain ⟨A0, a0, c0, rfl, y0, x0, z0⟩ := open_list Try.underlying44 1 (by kernel_rfl) (by omega) encString _ String_el (hval 0 44 v0 rfl rfl) h0
  obtain ⟨A1, a1, c1, rfl, y1, x1, z1⟩ := open_list Try.underlying57 3 (by kernel_rfl) (by omega) Slp.enc _ Slip_el (hval 1 57 v1 rfl rfl) h1
  refine (slipsLaw W a0 A0 c0 x0 (by unfold maxLen at y0; omega) z0 a1 A1 c1 x1 (by unfold maxLen at y1; omega) z1).mono fun e W' ⟨he, hg⟩ => ?_
  subst he
  exact ⟨_, rfl, law_post laid reads rfl Try.underlying4 rfl rfl hW' hg⟩
theorem over : Rows.fnExactGoodSlipsRow.holds Try.pinned (OpenSpec.ofChange Rows.fnExactGoodSlipsSpec) :=
  OpenClaim.holds_of_wide 10 Try.f10 rfl rfl rfl rfl rfl rfl rfl ⟨rfl, rfl, rfl, rfl, rfl⟩ rfl rfl rfl rfl rfl (by kernel_rfl) Try.func10 (by kernel_rfl)
    (of_decide_eq_true (by kernel_rfl)) (by unfold Func.isWrapper; first | (rw [if_pos (by decide +kernel)]; kernel_rfl) | (rw [if_neg (by decide +kernel)]; exact ⟨rfl, rfl⟩))
    (fun os started H enc _ => lifted os started H enc)
theorem proved : Rows.FnExactGoodSlipsSaid := over
end fnExactGoodSlips
end Go.Proofs.Ytkmakmbdfeojcaa
