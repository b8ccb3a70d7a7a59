/-
  ReadSpoken of the program returns what the reference's returns, for all arguments; the tied card.
-/
import Derived.Test.YtpedfjcidbopiaaDoorCardPin
import Derived.Test.YtpedfjcidbopiaaDoorFaReadSpoken
namespace Go.Proofs.YtpedfjcidbopiaaDoor
open Go.RowKit
set_option linter.unusedVariables false
set_option linter.unusedSimpArgs false
set_option maxRecDepth 100000

theorem sReadSpoken_t (s : ByteArray) (l : List Spk) (w : World) (hsz : s.size ≤ 1048576) (h : TxtOf l s) : Calls Tryd.prog 19 #[.string s] w fun e w' => ∃ A c, e = .returned (.tuple #[.slice A l.length c, .bool true]) ∧ OwnL w' w.heap.size w'.heap.size A 2 Spk.enc l ∧ Below w.heap.size w w' := by
  refine (sReadSpoken_any s w hsz).mono ?_
  rintro e w' ⟨⟨l', A, c, h1, rfl, ho⟩ | ⟨h1, _⟩, hb⟩
  · obtain rfl := h1.uniq h; exact ⟨A, c, rfl, ho, hb⟩
  · exact absurd h (h1 l)
theorem sReadSpoken_f (s : ByteArray) (w : World) (hsz : s.size ≤ 1048576) (h : ¬ ∃ l, TxtOf l s) : Calls Tryd.prog 19 #[.string s] w fun e w' => e = .returned (.tuple #[.slice none 0 0, .bool false]) ∧ Below w.heap.size w w' := by
  refine (sReadSpoken_any s w hsz).mono ?_
  rintro e w' ⟨⟨l', A, c, h1, rfl, ho⟩ | ⟨_, rfl⟩, hb⟩
  · exact absurd ⟨l', h1⟩ h
  · exact ⟨rfl, hb⟩
theorem iReadSpoken_t (s : ByteArray) (l : List Spk) (w : World) (hsz : s.size ≤ 1048576) (hm : Mlen w) (h : TxtOf l s) : Calls Tryd.prog 20 #[.string s] w fun e w' => ∃ A c, e = .returned (.tuple #[.slice A l.length c, .bool true]) ∧ OwnL w' w.heap.size w'.heap.size A 2 Spk.enc l ∧ Below w.heap.size w w' := by
  refine (iReadSpoken_any s w hsz hm).mono ?_
  rintro e w' ⟨⟨l', A, c, h1, rfl, ho⟩ | ⟨h1, _⟩, hb⟩
  · obtain rfl := h1.uniq h; exact ⟨A, c, rfl, ho, hb⟩
  · exact absurd h (h1 l)
theorem iReadSpoken_f (s : ByteArray) (w : World) (hsz : s.size ≤ 1048576) (hm : Mlen w) (h : ¬ ∃ l, TxtOf l s) : Calls Tryd.prog 20 #[.string s] w fun e w' => e = .returned (.tuple #[.slice none 0 0, .bool false]) ∧ Below w.heap.size w w' := by
  refine (iReadSpoken_any s w hsz hm).mono ?_
  rintro e w' ⟨⟨l', A, c, h1, rfl, ho⟩ | ⟨_, rfl⟩, hb⟩
  · exact absurd ⟨l', h1⟩ h
  · exact ⟨rfl, hb⟩
set_option maxHeartbeats 4000000 in
theorem readSpokenLaw (w : World) (s : ByteArray) (hszs : s.size ≤ 9223372036854775807) (htab : Mlen w) :
    Calls Tryd.prog 5 #[.string s] w fun e w' => e = .returned (.bool true) ∧ Below w.heap.size w w' := by
  have Htab := Lib.hid htab
  clear htab
  by_cases gs : 1048576 < s.size
  · go_enter Tryd.func5, Tryd.ntmps5
    go_wp2
    go_ret
    exact ⟨rfl, Below.refl _ _⟩
  have Bw0 := Lib.hid (Below.refl w.heap.size w)
  by_cases h : ∃ l, TxtOf l s
  · obtain ⟨l, h⟩ := h
    have H := Lib.hid h
    have hlen : l.length ≤ 63 := h.1.1
    clear h
    go_enter Tryd.func5, Tryd.ntmps5
    go_wp2_with fail
    refine (sReadSpoken_t s l _ (by omega) H.out).mono ?_
    rintro e w1 ⟨A_w0, c_w0, rfl, ho0, hb⟩
    have C1 := Lib.hid hb
    clear hb
    have t1 := C1.out.size
    have Bw1 := Lib.hid (Bw0.out.trans (C1.out.mono Bw0.out.size))
    have O_w0_1 := Lib.hid ho0
    clear ho0
    go_wp2_with fail
    refine (iReadSpoken_t s l _ (by omega) (Htab.out.later Bw1.out) H.out).mono ?_
    rintro e w2 ⟨A_g0, c_g0, rfl, ho0, hb⟩
    have C2 := Lib.hid hb
    clear hb
    have t2 := C2.out.size
    have Bw2 := Lib.hid (Bw1.out.trans (C2.out.mono Bw1.out.size))
    have O_g0_2 := Lib.hid ho0
    clear ho0
    have O_w0_2 := Lib.hid (O_w0_1.out.later C2.out)
    clear O_w0_1
    go_wp2_with fail
    refine (eqSpokenS_t l A_g0 A_w0 c_g0 c_w0 _ (O_g0_2.out.rd Spk_enc_len) (O_w0_2.out.rd Spk_enc_len) (by omega)).mono ?_
    rintro e w3 ⟨rfl, hb⟩
    have C3 := Lib.hid hb
    clear hb
    have t3 := C3.out.size
    have Bw3 := Lib.hid (Bw2.out.trans (C3.out.mono Bw2.out.size))
    have O_w0_3 := Lib.hid (O_w0_2.out.later C3.out)
    clear O_w0_2
    have O_g0_3 := Lib.hid (O_g0_2.out.later C3.out)
    clear O_g0_2
    go_wp2_with fail
    refine (markSpokenS_any l _ _ A_g0 c_g0 1 _ O_g0_3.out (by omega) (by omega) (by omega)).mono ?_
    rintro e w4 ⟨he, ho, hc⟩
    obtain ⟨q4, hq⟩ : ∃ q : Nat, q = 1 + l.length * 2 := ⟨_, rfl⟩
    rw [← hq] at he
    subst he
    have Hq4 := Lib.hid hq
    have b4 : 0 < q4 ∧ q4 ≤ 10000001 := by omega
    obtain ⟨b4a, b4b⟩ := b4
    clear hq
    have C4 := Lib.hid hc
    clear hc
    have t4 := C4.out.size
    have Bw4 := Lib.hid (Below.chg Bw3.out C4.out (by omega) Bw3.out.size)
    have O_g0_4 := Lib.hid ho
    clear ho
    have O_w0_4 := Lib.hid (O_w0_3.out.chg C4.out (by omega))
    clear O_w0_3
    go_wp2_with fail
    refine (heldSpokenS_any l.length A_g0 c_g0 1 _ (O_g0_4.out.rd Spk_enc_len) (by omega) (by omega) (by omega)).mono ?_
    rintro e w5 ⟨he, hb⟩
    rw [← Hq4.out] at he
    subst he
    have C5 := Lib.hid hb
    clear hb
    have t5 := C5.out.size
    have Bw5 := Lib.hid (Bw4.out.trans (C5.out.mono Bw4.out.size))
    have O_w0_5 := Lib.hid (O_w0_4.out.later C5.out)
    clear O_w0_4
    have O_g0_5 := Lib.hid (O_g0_4.out.later C5.out)
    clear O_g0_4
    go_wp2_with fail
    refine (iReadSpoken_t s l _ (by omega) (Htab.out.later Bw5.out) H.out).mono ?_
    rintro e w6 ⟨A_h0, c_h0, rfl, ho0, hb⟩
    have C6 := Lib.hid hb
    clear hb
    have t6 := C6.out.size
    have Bw6 := Lib.hid (Bw5.out.trans (C6.out.mono Bw5.out.size))
    have O_h0_6 := Lib.hid ho0
    clear ho0
    have O_w0_6 := Lib.hid (O_w0_5.out.later C6.out)
    clear O_w0_5
    have O_g0_6 := Lib.hid (O_g0_5.out.later C6.out)
    clear O_g0_5
    go_wp2_with fail
    refine (eqSpokenS_t l A_h0 A_w0 c_h0 c_w0 _ (O_h0_6.out.rd Spk_enc_len) (O_w0_6.out.rd Spk_enc_len) (by omega)).mono ?_
    rintro e w7 ⟨rfl, hb⟩
    have C7 := Lib.hid hb
    clear hb
    have t7 := C7.out.size
    have Bw7 := Lib.hid (Bw6.out.trans (C7.out.mono Bw6.out.size))
    have O_g0_7 := Lib.hid (O_g0_6.out.later C7.out)
    clear O_g0_6
    go_wp2_with fail
    refine (heldSpokenS_any l.length A_g0 c_g0 1 _ (O_g0_7.out.rd Spk_enc_len) (by omega) (by omega) (by omega)).mono ?_
    rintro e w8 ⟨he, hb⟩
    rw [← Hq4.out] at he
    subst he
    have C8 := Lib.hid hb
    clear hb
    have t8 := C8.out.size
    have Bw8 := Lib.hid (Bw7.out.trans (C8.out.mono Bw7.out.size))
    go_wp2_with fail
    go_ret
    exact ⟨rfl, Bw8.out⟩
  · have H := Lib.hid h
    clear h
    go_enter Tryd.func5, Tryd.ntmps5
    go_wp2_with fail
    refine (sReadSpoken_f s _ (by omega) H.out).mono ?_
    rintro e w1 ⟨rfl, hb⟩
    have C1 := Lib.hid hb
    clear hb
    have t1 := C1.out.size
    have Bw1 := Lib.hid (Bw0.out.trans (C1.out.mono Bw0.out.size))
    have O_w0_1 : Hid (OwnL w1 w.heap.size w1.heap.size none 2 Spk.enc ([] : List Spk)) := Lib.hid OwnL.nil
    go_wp2_with fail
    refine (iReadSpoken_f s _ (by omega) (Htab.out.later Bw1.out) H.out).mono ?_
    rintro e w2 ⟨rfl, hb⟩
    have C2 := Lib.hid hb
    clear hb
    have t2 := C2.out.size
    have Bw2 := Lib.hid (Bw1.out.trans (C2.out.mono Bw1.out.size))
    have O_g0_2 : Hid (OwnL w2 w1.heap.size w2.heap.size none 2 Spk.enc ([] : List Spk)) := Lib.hid OwnL.nil
    have O_w0_2 := Lib.hid (O_w0_1.out.later C2.out)
    clear O_w0_1
    go_wp2_with fail
    refine (eqSpokenS_t ([] : List Spk) none none 0 0 _ (O_g0_2.out.rd Spk_enc_len) (O_w0_2.out.rd Spk_enc_len) (by simp)).mono ?_
    rintro e w3 ⟨rfl, hb⟩
    have C3 := Lib.hid hb
    clear hb
    have t3 := C3.out.size
    have Bw3 := Lib.hid (Bw2.out.trans (C3.out.mono Bw2.out.size))
    have O_w0_3 := Lib.hid (O_w0_2.out.later C3.out)
    clear O_w0_2
    have O_g0_3 := Lib.hid (O_g0_2.out.later C3.out)
    clear O_g0_2
    go_wp2_with fail
    refine (markSpokenS_any ([] : List Spk) _ _ none 0 1 _ O_g0_3.out (by simp) (by omega) (by omega)).mono ?_
    rintro e w4 ⟨he, ho, hc⟩
    obtain ⟨q4, hq⟩ : ∃ q : Nat, q = 1 + ([] : List Spk).length * 2 := ⟨_, rfl⟩
    rw [← hq] at he
    subst he
    have Hq4 := Lib.hid hq
    have b4 : 0 < q4 ∧ q4 ≤ 10000001 := by simp at hq; omega
    obtain ⟨b4a, b4b⟩ := b4
    clear hq
    have C4 := Lib.hid hc
    clear hc
    have t4 := C4.out.size
    have Bw4 := Lib.hid (Below.chg Bw3.out C4.out (by omega) Bw3.out.size)
    have O_g0_4 := Lib.hid ho
    clear ho
    have O_w0_4 := Lib.hid (O_w0_3.out.chg C4.out (by omega))
    clear O_w0_3
    go_wp2_with fail
    refine (heldSpokenS_any ([] : List Spk).length none 0 1 _ (O_g0_4.out.rd Spk_enc_len) (by simp) (by omega) (by omega)).mono ?_
    rintro e w5 ⟨he, hb⟩
    rw [← Hq4.out] at he
    subst he
    have C5 := Lib.hid hb
    clear hb
    have t5 := C5.out.size
    have Bw5 := Lib.hid (Bw4.out.trans (C5.out.mono Bw4.out.size))
    have O_w0_5 := Lib.hid (O_w0_4.out.later C5.out)
    clear O_w0_4
    have O_g0_5 := Lib.hid (O_g0_4.out.later C5.out)
    clear O_g0_4
    go_wp2_with fail
    refine (iReadSpoken_f s _ (by omega) (Htab.out.later Bw5.out) H.out).mono ?_
    rintro e w6 ⟨rfl, hb⟩
    have C6 := Lib.hid hb
    clear hb
    have t6 := C6.out.size
    have Bw6 := Lib.hid (Bw5.out.trans (C6.out.mono Bw5.out.size))
    have O_h0_6 : Hid (OwnL w6 w5.heap.size w6.heap.size none 2 Spk.enc ([] : List Spk)) := Lib.hid OwnL.nil
    have O_w0_6 := Lib.hid (O_w0_5.out.later C6.out)
    clear O_w0_5
    have O_g0_6 := Lib.hid (O_g0_5.out.later C6.out)
    clear O_g0_5
    go_wp2_with fail
    refine (eqSpokenS_t ([] : List Spk) none none 0 0 _ (O_h0_6.out.rd Spk_enc_len) (O_w0_6.out.rd Spk_enc_len) (by simp)).mono ?_
    rintro e w7 ⟨rfl, hb⟩
    have C7 := Lib.hid hb
    clear hb
    have t7 := C7.out.size
    have Bw7 := Lib.hid (Bw6.out.trans (C7.out.mono Bw6.out.size))
    have O_g0_7 := Lib.hid (O_g0_6.out.later C7.out)
    clear O_g0_6
    go_wp2_with fail
    refine (heldSpokenS_any ([] : List Spk).length none 0 1 _ (O_g0_7.out.rd Spk_enc_len) (by simp) (by omega) (by omega)).mono ?_
    rintro e w8 ⟨he, hb⟩
    rw [← Hq4.out] at he
    subst he
    have C8 := Lib.hid hb
    clear hb
    have t8 := C8.out.size
    have Bw8 := Lib.hid (Bw7.out.trans (C8.out.mono Bw7.out.size))
    go_wp2_with fail
    go_ret
    exact ⟨rfl, Bw8.out⟩

namespace fnExactReadSpoken
open Go.ChangeShapes Go.WideShapes Go.ChangeAt Go.RowKit Go.Deep
open Go.ChangeMaps (open_string shut_string)
theorem own : ownKnob Tryd.prog.godebug = none := by kernel_rfl
theorem laid : laidOutB Tryd.prog = true := by kernel_rfl
theorem reads : Tryd.f5.params.toList.all (fun t => Tryd.prog.readableRec t && decide (t < Tryd.prog.types.size)) = true := by kernel_rfl
set_option maxRecDepth 100000 in
theorem lifted (os : Os) (started : os.Started) (H : Type) (enc : TypeId × Value → H) :
    ReturnsInHanded {} Tryd.checked os 5 .any (fun w args => (Rows.fnExactReadSpokenSpec.pre enc Tryd.prog Tryd.f5 [] false w args ∧ laidMetH Tryd.prog Rows.fnExactReadSpokenRow.laid w) ∧ sizedMet enc Tryd.prog Tryd.f5 (OpenSpec.ofChange Rows.fnExactReadSpokenSpec) false w args) (Rows.fnExactReadSpokenSpec.post enc Tryd.prog Tryd.f5 false true false false) := by
  refine handed_shaped (C := Tryd.checked) (X := fun w _ => laidMetH Tryd.prog Rows.fnExactReadSpokenRow.laid w) (fun _ _ _ hh h => h.of_heap hh) own started (by kernel_rfl) Tryd.func5
    (ChangeSpec.witness_shaped (enc := enc) (C := Tryd.checked) (os := os) (X := fun w _ => laidMetH Tryd.prog Rows.fnExactReadSpokenRow.laid w) false (World.laidAll Tryd.prog os Rows.fnExactReadSpokenRow.laid) #[.string ByteArray.empty] 8 (World.laidAll_os _ _ _) (World.shaped_of_ZipB (by kernel_rfl) (by kernel_rfl)) (by kernel_rfl) (by kernel_rfl) (by kernel_rfl) (by rw [MakeChecks.laidMetH_plain _ _ _ (by kernel_rfl)]; exact laidMet_laidAll _ (by kernel_rfl) (by kernel_rfl))) ?_
  intro W base args ds gs before hsh0 hval0 hW _ _ hL _
  have hmlW : Mlen W := mlen_of hsh0
  have hval : ∀ (j : Nat) t v, Tryd.f5.params[j]? = some t → args[j]? = some v → Value.okWide Tryd.prog W .any base t v := hval0
  have hW' := hW
  obtain ⟨p, q, hA0, hV, rfl, hfz, hnd⟩ := hW
  have hA : DataW.TrodAll enc Tryd.prog W 0 (fun _ => true) true Tryd.f5.params.toList args.toList ds p := hA0
  rw [Tryd.params5] at hA hval
  obtain ⟨rfl, rfl⟩ := trodVars_none hV
  have hlt : ∀ x ∈ p, x.block < W.heap.size := fun x hx => by simpa using hW'.lt x (List.mem_append.2 (.inl hx))
  clear hA0 hval0
  obtain ⟨v0, vs0, d0, ds0, p0, q0, hargs, rfl, rfl, h0, r0⟩ := trodAll_cons hA
  obtain ⟨rfl, rfl, rfl⟩ := trodAll_nil r0
  obtain rfl : args = #[v0] := by cases args; simp_all
  clear hargs
  obtain ⟨a0, rfl, rfl, rfl, z0⟩ := open_string Tryd.underlying9 (hval 0 9 v0 rfl rfl) h0
  refine (readSpokenLaw W a0 z0 hmlW).mono fun e W' ⟨he, hg⟩ => ?_
  subst he
  exact ⟨_, rfl, law_post laid reads rfl Tryd.underlying4 rfl rfl hW' hg⟩
theorem over : Rows.fnExactReadSpokenRow.holds Tryd.pinned (OpenSpec.ofChange Rows.fnExactReadSpokenSpec) :=
  OpenClaim.holds_of_wide 5 Tryd.f5 rfl rfl rfl rfl rfl rfl rfl ⟨rfl, rfl, rfl, rfl, rfl⟩ rfl rfl rfl rfl rfl (by kernel_rfl) Tryd.func5 facts
    (of_decide_eq_true (by kernel_rfl)) (by unfold Func.isWrapper; first | (rw [if_pos (by decide +kernel)]; kernel_rfl) | (rw [if_neg (by decide +kernel)]; exact ⟨rfl, rfl⟩))
    (fun os started H enc _ => lifted os started H enc)
theorem proved : Rows.FnExactReadSpokenCardSaid :=
  Claim7.holds_tied_plain_at .later [] [.data, .pinned] true (true, "8fdb6f0415f5832eb9ac773a81c0808de358d28ce214618cbc1653be8f2d6dc7") false
    over (fun _ h => by cases h) (by kernel_rfl) (fun _ h => by cases h) fnExactReadSpoken_row_tie rfl ⟨rfl, rfl⟩ (by kernel_rfl) rfl
    (fun f fn hf hfn => by
      obtain rfl : f = 5 := Option.some.inj ((show Tryd.prog.funcNamed "loop.example/g00894/laws.FnExactReadSpoken" = some 5 by kernel_rfl).symm.trans hf) |>.symm
      obtain rfl : fn = Tryd.f5 := (Option.some.inj (Tryd.func5.symm.trans hfn)).symm
      exact ⟨by kernel_rfl, fun j t ht => by
        have hm : t ∈ Tryd.f5.params.toList := Array.mem_toList_iff.2 (Array.mem_of_getElem? ht)
        have hall : (Tryd.f5.params.toList.all fun u => !Tryd.prog.wantsStandIn u) = true := by kernel_rfl
        exact (show Tryd.prog.wantsStandIn t = false by simpa using List.all_eq_true.1 hall t hm)⟩)
    (by kernel_rfl)
end fnExactReadSpoken
end Go.Proofs.YtpedfjcidbopiaaDoor
