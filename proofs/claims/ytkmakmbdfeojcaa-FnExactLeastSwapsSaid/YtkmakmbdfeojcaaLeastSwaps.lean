/-
  LeastSwaps of the program returns what the reference's returns, for all arguments: no condition.
-/
import Derived.Test.YtkmakmbdfeojcaaLeast
import Derived.Test.YtkmakmbdfeojcaaRow
namespace Go.Proofs.Ytkmakmbdfeojcaa
open Go.RowKit
set_option linter.unusedVariables false
set_option linter.unusedSimpArgs false
set_option maxRecDepth 100000

theorem leastL_len {a b : ByteArray} (h : two a b) : (leastL a b).length ≤ 8 ∧ tot (leastL a b) ≤ 16 := by
  have := lsw_len a b a.size
  have := h.1.2.1
  unfold leastL; omega
theorem sLeast_t (a b : ByteArray) (w : World) (h : two a b) :
    Calls Try.prog 48 #[.string a, .string b] w fun e w' => ∃ A c, e = .returned (.tuple #[.slice A (leastL a b).length c, .bool true]) ∧ OwnS w' w.heap.size w'.heap.size A (leastL a b) ∧ Below w.heap.size w w' := by
  have H := Lib.hid h
  have e1 := B_t h
  clear h
  go_enter Try.func48, Try.ntmps48
  go_wp2_with (first | (go_at_call 63; refine (l1Two_any _ _ _).mono ?_; rintro e w' ⟨rfl, n1, rfl⟩) | (go_at_call 100; refine (l25Least_any a b _ H.out).mono ?_; rintro e w2 ⟨A, c, rfl, ho, hb⟩; have Ho := Lib.hid ho; have Hb := Lib.hid hb; clear ho hb))
  go_ret2
  exact ⟨A, c, rfl, Ho.out, (below_drewN (Below.refl _ _) _).trans Hb.out⟩
theorem sLeast_f (a b : ByteArray) (w : World) (h : ¬ two a b) :
    Calls Try.prog 48 #[.string a, .string b] w fun e w' => e = .returned (.tuple #[.slice none 0 0, .bool false]) ∧ Below w.heap.size w w' := by
  have e1 := B_f h
  clear h
  go_enter Try.func48, Try.ntmps48
  go_wp2_with (go_at_call 63; refine (l1Two_any _ _ _).mono ?_; rintro e w' ⟨rfl, n1, rfl⟩)
  go_ret2
  exact ⟨rfl, below_drewN (Below.refl _ _) _⟩
theorem iLeast_t (a b : ByteArray) (w : World) (h : two a b) :
    Calls Try.prog 49 #[.string a, .string b] w fun e w' => ∃ A c, e = .returned (.tuple #[.slice A (leastL a b).length c, .bool true]) ∧ OwnS w' w.heap.size w'.heap.size A (leastL a b) ∧ Below w.heap.size w w' := by
  have H := Lib.hid h
  have e1 := B_t h.1
  have e2 : B (isRowOf a.size b) = true := B_t ⟨by have := h.2.2; omega, h.2.1⟩
  have h8 := h.1.2.1
  clear h
  go_enter Try.func49, Try.ntmps49
  go_wp2_with (first | (go_at_call 66; refine (goodRow_any _ _).mono ?_; rintro e w' ⟨rfl, rfl⟩) | (go_at_call 67; refine (isRowOf_any _ _ _).mono ?_; rintro e w' ⟨rfl, rfl⟩) | (go_at_call 101; refine (leastSwaps_any a b _ H.out).mono ?_; rintro e w2 ⟨A, c, rfl, ho, hb⟩; have Ho := Lib.hid ho; have Hb := Lib.hid hb; clear ho hb))
  go_ret2
  exact ⟨A, c, rfl, Ho.out, Hb.out⟩
theorem iLeast_f (a b : ByteArray) (w : World) (h : ¬ two a b) :
    Calls Try.prog 49 #[.string a, .string b] w fun e w' => e = .returned (.tuple #[.slice none 0 0, .bool false]) ∧ Below w.heap.size w w' := by
  by_cases h1 : isRow a
  · have e1 := B_t h1
    have e2 : B (isRowOf a.size b) = false := B_f (fun x => h ⟨h1, x.2, by have := x.1; omega⟩)
    have h8 := h1.2.1
    clear h h1
    go_enter Try.func49, Try.ntmps49
    go_wp2_with (first | (go_at_call 66; refine (goodRow_any _ _).mono ?_; rintro e w' ⟨rfl, rfl⟩) | (go_at_call 67; refine (isRowOf_any _ _ _).mono ?_; rintro e w' ⟨rfl, rfl⟩))
    go_ret2
    exact ⟨rfl, Below.refl _ _⟩
  · have e1 := B_f h1
    clear h h1
    go_enter Try.func49, Try.ntmps49
    go_wp2_with (first | (go_at_call 66; refine (goodRow_any _ _).mono ?_; rintro e w' ⟨rfl, rfl⟩) | (go_at_call 67; refine (isRowOf_any _ _ _).mono ?_; rintro e w' ⟨rfl, rfl⟩))
    go_ret2
    exact ⟨rfl, Below.refl _ _⟩

set_option maxHeartbeats 4000000 in
theorem leastLaw (w : World) (a : ByteArray) (hsza : a.size ≤ 9223372036854775807) (b : ByteArray) (hszb : b.size ≤ 9223372036854775807) :
    Calls Try.prog 11 #[.string a, .string b] w fun e w' => e = .returned (.bool true) ∧ Below w.heap.size w w' := by
  by_cases ga : 1048576 < a.size
  · go_enter Try.func11, Try.ntmps11
    go_wp2
    go_ret
    exact ⟨rfl, Below.refl _ _⟩
  by_cases gb : 1048576 < b.size
  · go_enter Try.func11, Try.ntmps11
    go_wp2
    go_ret
    exact ⟨rfl, Below.refl _ _⟩
  have Bw0 := Lib.hid (Below.refl w.heap.size w)
  by_cases h : two a b
  · have H := Lib.hid h
    have hlen := leastL_len h
    obtain ⟨hlen1, hlen2⟩ := hlen
    clear h
    go_enter Try.func11, Try.ntmps11
    go_wp2_with fail
    refine (sLeast_t a b _ H.out).mono ?_
    rintro e w1 ⟨A_w0, c_w0, rfl, ho0, hb⟩
    have C1 := Lib.hid hb
    clear hb
    have t1 := C1.out.size
    have Bw1 := Lib.hid (Bw0.out.trans (C1.out.mono Bw0.out.size))
    have O_w0_1 := Lib.hid ho0
    clear ho0
    go_wp2_with fail
    refine (iLeast_t a b _ H.out).mono ?_
    rintro e w2 ⟨A_g0, c_g0, rfl, ho0, hb⟩
    have C2 := Lib.hid hb
    clear hb
    have t2 := C2.out.size
    have Bw2 := Lib.hid (Bw1.out.trans (C2.out.mono Bw1.out.size))
    have O_g0_2 := Lib.hid ho0
    clear ho0
    have O_w0_2 := Lib.hid (O_w0_1.out.later C2.out)
    clear O_w0_1
    go_wp2_with fail
    refine (eqIntSS_t (leastL a b) A_g0 A_w0 c_g0 c_w0 _ (O_g0_2.out.rd trivial) (O_w0_2.out.rd trivial) (by omega)).mono ?_
    rintro e w3 ⟨rfl, hb⟩
    have C3 := Lib.hid hb
    clear hb
    have t3 := C3.out.size
    have Bw3 := Lib.hid (Bw2.out.trans (C3.out.mono Bw2.out.size))
    have O_w0_3 := Lib.hid (O_w0_2.out.later C3.out)
    clear O_w0_2
    have O_g0_3 := Lib.hid (O_g0_2.out.later C3.out)
    clear O_g0_2
    go_wp2_with fail
    refine (markIntSS_any (leastL a b) _ _ A_g0 c_g0 1 _ O_g0_3.out (by omega) (by omega) (by omega)).mono ?_
    rintro e w4 ⟨he, ho, hc⟩
    obtain ⟨q4, hq⟩ : ∃ q : Nat, q = 1 + tot (leastL a b) := ⟨_, rfl⟩
    rw [← hq] at he
    subst he
    have Hq4 := Lib.hid hq
    have b4 : 0 < q4 ∧ q4 ≤ 90000000000 := by omega
    obtain ⟨b4a, b4b⟩ := b4
    clear hq
    have C4 := Lib.hid hc
    clear hc
    have t4 := C4.out.size
    have Bw4 := Lib.hid (Below.chg Bw3.out C4.out (by omega) Bw3.out.size)
    have O_g0_4 := Lib.hid ho
    clear ho
    have O_w0_4 := Lib.hid (O_w0_3.out.chg C4.out (by omega))
    clear O_w0_3
    go_wp2_with fail
    refine (heldIntSS_any (leastL a b) A_g0 c_g0 1 _ (O_g0_4.out.rd trivial) (by omega) (by omega) (by omega)).mono ?_
    rintro e w5 ⟨he, hb⟩
    rw [← Hq4.out] at he
    subst he
    have C5 := Lib.hid hb
    clear hb
    have t5 := C5.out.size
    have Bw5 := Lib.hid (Bw4.out.trans (C5.out.mono Bw4.out.size))
    have O_w0_5 := Lib.hid (O_w0_4.out.later C5.out)
    clear O_w0_4
    have O_g0_5 := Lib.hid (O_g0_4.out.later C5.out)
    clear O_g0_4
    go_wp2_with fail
    refine (iLeast_t a b _ H.out).mono ?_
    rintro e w6 ⟨A_h0, c_h0, rfl, ho0, hb⟩
    have C6 := Lib.hid hb
    clear hb
    have t6 := C6.out.size
    have Bw6 := Lib.hid (Bw5.out.trans (C6.out.mono Bw5.out.size))
    have O_h0_6 := Lib.hid ho0
    clear ho0
    have O_w0_6 := Lib.hid (O_w0_5.out.later C6.out)
    clear O_w0_5
    have O_g0_6 := Lib.hid (O_g0_5.out.later C6.out)
    clear O_g0_5
    go_wp2_with fail
    refine (eqIntSS_t (leastL a b) A_h0 A_w0 c_h0 c_w0 _ (O_h0_6.out.rd trivial) (O_w0_6.out.rd trivial) (by omega)).mono ?_
    rintro e w7 ⟨rfl, hb⟩
    have C7 := Lib.hid hb
    clear hb
    have t7 := C7.out.size
    have Bw7 := Lib.hid (Bw6.out.trans (C7.out.mono Bw6.out.size))
    have O_g0_7 := Lib.hid (O_g0_6.out.later C7.out)
    clear O_g0_6
    go_wp2_with fail
    refine (heldIntSS_any (leastL a b) A_g0 c_g0 1 _ (O_g0_7.out.rd trivial) (by omega) (by omega) (by omega)).mono ?_
    rintro e w8 ⟨he, hb⟩
    rw [← Hq4.out] at he
    subst he
    have C8 := Lib.hid hb
    clear hb
    have t8 := C8.out.size
    have Bw8 := Lib.hid (Bw7.out.trans (C8.out.mono Bw7.out.size))
    go_wp2_with fail
    go_ret
    exact ⟨rfl, Bw8.out⟩
  · have H := Lib.hid h
    clear h
    go_enter Try.func11, Try.ntmps11
    go_wp2_with fail
    refine (sLeast_f a b _ H.out).mono ?_
    rintro e w1 ⟨rfl, hb⟩
    have C1 := Lib.hid hb
    clear hb
    have t1 := C1.out.size
    have Bw1 := Lib.hid (Bw0.out.trans (C1.out.mono Bw0.out.size))
    have O_w0_1 : Hid (OwnS w1 w.heap.size w1.heap.size none ([] : List (List Int))) := Lib.hid OwnS.nil
    go_wp2_with fail
    refine (iLeast_f a b _ H.out).mono ?_
    rintro e w2 ⟨rfl, hb⟩
    have C2 := Lib.hid hb
    clear hb
    have t2 := C2.out.size
    have Bw2 := Lib.hid (Bw1.out.trans (C2.out.mono Bw1.out.size))
    have O_g0_2 : Hid (OwnS w2 w1.heap.size w2.heap.size none ([] : List (List Int))) := Lib.hid OwnS.nil
    have O_w0_2 := Lib.hid (O_w0_1.out.later C2.out)
    clear O_w0_1
    go_wp2_with fail
    refine (eqIntSS_t ([] : List (List Int)) none none 0 0 _ (O_g0_2.out.rd trivial) (O_w0_2.out.rd trivial) (by simp [tot])).mono ?_
    rintro e w3 ⟨rfl, hb⟩
    have C3 := Lib.hid hb
    clear hb
    have t3 := C3.out.size
    have Bw3 := Lib.hid (Bw2.out.trans (C3.out.mono Bw2.out.size))
    have O_w0_3 := Lib.hid (O_w0_2.out.later C3.out)
    clear O_w0_2
    have O_g0_3 := Lib.hid (O_g0_2.out.later C3.out)
    clear O_g0_2
    go_wp2_with fail
    refine (markIntSS_any ([] : List (List Int)) _ _ none 0 1 _ O_g0_3.out (by simp [tot]) (by omega) (by omega)).mono ?_
    rintro e w4 ⟨he, ho, hc⟩
    obtain ⟨q4, hq⟩ : ∃ q : Nat, q = 1 + tot ([] : List (List Int)) := ⟨_, rfl⟩
    rw [← hq] at he
    subst he
    have Hq4 := Lib.hid hq
    have b4 : 0 < q4 ∧ q4 ≤ 90000000000 := by simp [tot] at hq; omega
    obtain ⟨b4a, b4b⟩ := b4
    clear hq
    have C4 := Lib.hid hc
    clear hc
    have t4 := C4.out.size
    have Bw4 := Lib.hid (Below.chg Bw3.out C4.out (by omega) Bw3.out.size)
    have O_g0_4 := Lib.hid ho
    clear ho
    have O_w0_4 := Lib.hid (O_w0_3.out.chg C4.out (by omega))
    clear O_w0_3
    go_wp2_with fail
    refine (heldIntSS_any ([] : List (List Int)) none 0 1 _ (O_g0_4.out.rd trivial) (by simp [tot]) (by omega) (by omega)).mono ?_
    rintro e w5 ⟨he, hb⟩
    rw [← Hq4.out] at he
    subst he
    have C5 := Lib.hid hb
    clear hb
    have t5 := C5.out.size
    have Bw5 := Lib.hid (Bw4.out.trans (C5.out.mono Bw4.out.size))
    have O_w0_5 := Lib.hid (O_w0_4.out.later C5.out)
    clear O_w0_4
    have O_g0_5 := Lib.hid (O_g0_4.out.later C5.out)
    clear O_g0_4
    go_wp2_with fail
    refine (iLeast_f a b _ H.out).mono ?_
    rintro e w6 ⟨rfl, hb⟩
    have C6 := Lib.hid hb
    clear hb
    have t6 := C6.out.size
    have Bw6 := Lib.hid (Bw5.out.trans (C6.out.mono Bw5.out.size))
    have O_h0_6 : Hid (OwnS w6 w5.heap.size w6.heap.size none ([] : List (List Int))) := Lib.hid OwnS.nil
    have O_w0_6 := Lib.hid (O_w0_5.out.later C6.out)
    clear O_w0_5
    have O_g0_6 := Lib.hid (O_g0_5.out.later C6.out)
    clear O_g0_5
    go_wp2_with fail
    refine (eqIntSS_t ([] : List (List Int)) none none 0 0 _ (O_h0_6.out.rd trivial) (O_w0_6.out.rd trivial) (by simp [tot])).mono ?_
    rintro e w7 ⟨rfl, hb⟩
    have C7 := Lib.hid hb
    clear hb
    have t7 := C7.out.size
    have Bw7 := Lib.hid (Bw6.out.trans (C7.out.mono Bw6.out.size))
    have O_g0_7 := Lib.hid (O_g0_6.out.later C7.out)
    clear O_g0_6
    go_wp2_with fail
    refine (heldIntSS_any ([] : List (List Int)) none 0 1 _ (O_g0_7.out.rd trivial) (by simp [tot]) (by omega) (by omega)).mono ?_
    rintro e w8 ⟨he, hb⟩
    rw [← Hq4.out] at he
    subst he
    have C8 := Lib.hid hb
    clear hb
    have t8 := C8.out.size
    have Bw8 := Lib.hid (Bw7.out.trans (C8.out.mono Bw7.out.size))
    go_wp2_with fail
    go_ret
    exact ⟨rfl, Bw8.out⟩

namespace fnExactLeastSwaps
open Go.ChangeShapes Go.WideShapes Go.ChangeAt Go.RowKit Go.Deep
open Go.ChangeMaps (open_string shut_string)
theorem own : ownKnob Try.prog.godebug = none := by kernel_rfl
theorem laid : laidOutB Try.prog = true := by kernel_rfl
theorem reads : Try.f11.params.toList.all (fun t => Try.prog.readableRec t && decide (t < Try.prog.types.size)) = true := by kernel_rfl
set_option maxRecDepth 100000 in
theorem lifted (os : Os) (started : os.Started) (H : Type) (enc : TypeId × Value → H) :
    ReturnsInHanded {} Try.checked os 11 .any (Rows.fnExactLeastSwapsSpec.pre6 enc Try.prog Try.f11 Rows.fnExactLeastSwapsRow.domain false) (Rows.fnExactLeastSwapsSpec.post enc Try.prog Try.f11 false true false false) := by
  refine returnsInHanded_of_change (C := Try.checked) own started (by kernel_rfl) Try.func11
    (ChangeSpec.witness6 (enc := enc) (C := Try.checked) false ⟨#[], #[.string ByteArray.empty, .string ByteArray.empty], []⟩ 8 (by kernel_rfl) (by kernel_rfl) (by kernel_rfl) (by kernel_rfl)) ?_
  intro W base args ds gs before hval0 hW hcnd _
  have hval : ∀ (j : Nat) t v, Try.f11.params[j]? = some t → args[j]? = some v → Value.okWide Try.prog W .any base t v := hval0
  have hW' := hW
  obtain ⟨p, q, hA0, hV, rfl, hfz, hnd⟩ := hW
  have hA : DataW.TrodAll enc Try.prog W 0 (fun _ => true) true Try.f11.params.toList args.toList ds p := hA0
  rw [Try.params11] at hA hval
  obtain ⟨rfl, rfl⟩ := trodVars_none hV
  have hlt : ∀ x ∈ p, x.block < W.heap.size := fun x hx => by simpa using hW'.lt x (List.mem_append.2 (.inl hx))
  clear hA0 hval0
  obtain ⟨v0, vs0, d0, ds0, p0, q0, hargs, rfl, rfl, h0, r0⟩ := trodAll_cons hA
  obtain ⟨v1, vs1, d1, ds1, p1, q1, rfl, rfl, rfl, h1, r1⟩ := trodAll_cons r0
  obtain ⟨rfl, rfl, rfl⟩ := trodAll_nil r1
  obtain rfl : args = #[v0, v1] := by cases args; simp_all
  clear hargs
  obtain ⟨a0, rfl, rfl, rfl, z0⟩ := open_string Try.underlying9 (hval 0 9 v0 rfl rfl) h0
  obtain ⟨a1, rfl, rfl, rfl, z1⟩ := open_string Try.underlying9 (hval 1 9 v1 rfl rfl) h1
  refine (leastLaw W a0 z0 a1 z1).mono fun e W' ⟨he, hg⟩ => ?_
  subst he
  exact ⟨_, rfl, law_post laid reads rfl Try.underlying4 rfl rfl hW' hg⟩
theorem over : Rows.fnExactLeastSwapsRow.holds Try.pinned (OpenSpec.ofChange Rows.fnExactLeastSwapsSpec) :=
  OpenClaim.holds_of_wide 11 Try.f11 rfl rfl rfl rfl rfl rfl rfl ⟨rfl, rfl, rfl, rfl, rfl⟩ rfl rfl rfl rfl rfl (by kernel_rfl) Try.func11 (by kernel_rfl)
    (of_decide_eq_true (by kernel_rfl)) (by unfold Func.isWrapper; first | (rw [if_pos (by decide +kernel)]; kernel_rfl) | (rw [if_neg (by decide +kernel)]; exact ⟨rfl, rfl⟩))
    (fun os started H enc _ => lifted os started H enc)
theorem proved : Rows.FnExactLeastSwapsSaid := over
end fnExactLeastSwaps
end Go.Proofs.Ytkmakmbdfeojcaa
