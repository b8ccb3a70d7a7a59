/-
  SpokenText of the program returns what the reference's returns, for all arguments; the tied card.
-/
import Derived.Test.YtpedfjcidbopiaaDoorSpokenText
import Derived.Test.YtpedfjcidbopiaaDoorFaSpokenText
namespace Go.Proofs.YtpedfjcidbopiaaDoor
open Go.RowKit
set_option linter.unusedVariables false
set_option linter.unusedSimpArgs false
set_option maxRecDepth 100000

set_option maxHeartbeats 4000000 in
theorem spokenTextLaw (w : World) (l : List Spk) (Al : Option Addr) (cl : Nat) (hrl : RdL w w.heap.size Al 2 Spk.enc l) (hll : l.length ≤ 9223372036854775807) (hsl : ∀ x ∈ l, Spoken_small 9223372036854775807 x) (htab : Tab w) :
    Calls Tryd.prog 3 #[.slice Al l.length cl] w fun e w' => e = .returned (.bool true) ∧ Below w.heap.size w w' := by
  have Htab := Lib.hid htab
  clear htab
  have Hrl := Lib.hid hrl
  have Hsl := Lib.hid hsl
  clear hrl hsl
  have Bw0 := Lib.hid (Below.refl w.heap.size w)
  go_enter Tryd.func3, Tryd.ntmps3
  go_wp2_with fail
  refine (szSpokenS_any l Al cl (1048576 : Int) _ ((Hrl.out.below Bw0.out (Nat.le_refl _)).more Bw0.out.size) (by omega) (by omega) (by omega) Hsl.out).mono ?_
  rintro e w1 ⟨r1, rfl, hz, hb⟩
  have C1 := Lib.hid hb
  clear hb
  have t1 := C1.out.size
  have Bw1 := Lib.hid (Bw0.out.trans (C1.out.mono Bw0.out.size))
  have Z1 := Lib.hid hz
  clear hz
  by_cases n1 : r1 < 0
  · go_wp2_with fail
    go_ret
    exact ⟨rfl, Bw1.out⟩
  have z1 := Z1.out.resolve_left n1
  have y1 : 0 ≤ r1 ∧ r1 ≤ 1048576 ∧ l.length ≤ 1048576 := ⟨z1.1, by have := z1.2.1; omega, by have := z1.2.2.1; omega⟩
  obtain ⟨y1a, y1b, hll'⟩ := y1
  have Hml : Hid (∀ x ∈ l, Spoken_small 1048576 x) := Lib.hid (fun x hx => by have := z1.2.2.2 x hx; simp only [Spoken_small] at this ⊢; omega)
  clear z1
  by_cases h : spokenLP l
  · have H := Lib.hid h
    clear h
    go_wp2_with fail
    refine (toSpokenS_any l Al cl _ ((Hrl.out.below Bw1.out (Nat.le_refl _)).more Bw1.out.size) (by omega)).mono ?_
    rintro e w2 ⟨A2, rfl, ho, hb⟩
    have C2 := Lib.hid hb
    clear hb
    have t2 := C2.out.size
    have Bw2 := Lib.hid (Bw1.out.trans (C2.out.mono Bw1.out.size))
    have O_t1_2 := Lib.hid ho
    clear ho
    go_wp2_with fail
    refine (sSpokenText_t l A2 l.length _ (O_t1_2.out.rd Spk_enc_len) (by omega) (Htab.out.later Bw2.out) H.out).mono ?_
    rintro e w3 ⟨rfl, hb⟩
    have C3 := Lib.hid hb
    clear hb
    have t3 := C3.out.size
    have Bw3 := Lib.hid (Bw2.out.trans (C3.out.mono Bw2.out.size))
    go_wp2_with fail
    refine (toSpokenS_any l Al cl _ ((Hrl.out.below Bw3.out (Nat.le_refl _)).more Bw3.out.size) (by omega)).mono ?_
    rintro e w4 ⟨A4, rfl, ho, hb⟩
    have C4 := Lib.hid hb
    clear hb
    have t4 := C4.out.size
    have Bw4 := Lib.hid (Bw3.out.trans (C4.out.mono Bw3.out.size))
    have O_x0_4 := Lib.hid ho
    clear ho
    go_wp2_with fail
    refine (iSpokenText_t l A4 l.length _ (O_x0_4.out.rd Spk_enc_len) (by omega) (Htab.out.later Bw4.out) H.out).mono ?_
    rintro e w5 ⟨rfl, hb⟩
    have C5 := Lib.hid hb
    clear hb
    have t5 := C5.out.size
    have Bw5 := Lib.hid (Bw4.out.trans (C5.out.mono Bw4.out.size))
    have O_x0_5 := Lib.hid (O_x0_4.out.later C5.out)
    clear O_x0_4
    go_wp2_with fail
    refine (toSpokenS_any l Al cl _ ((Hrl.out.below Bw5.out (Nat.le_refl _)).more Bw5.out.size) (by omega)).mono ?_
    rintro e w6 ⟨A6, rfl, ho, hb⟩
    have C6 := Lib.hid hb
    clear hb
    have t6 := C6.out.size
    have Bw6 := Lib.hid (Bw5.out.trans (C6.out.mono Bw5.out.size))
    have O_t5_6 := Lib.hid ho
    clear ho
    have O_x0_6 := Lib.hid (O_x0_5.out.later C6.out)
    clear O_x0_5
    go_wp2_with fail
    refine (eqSpokenS_t l A4 A6 l.length l.length _ (O_x0_6.out.rd Spk_enc_len) (O_t5_6.out.rd Spk_enc_len) (by omega)).mono ?_
    rintro e w7 ⟨rfl, hb⟩
    have C7 := Lib.hid hb
    clear hb
    have t7 := C7.out.size
    have Bw7 := Lib.hid (Bw6.out.trans (C7.out.mono Bw6.out.size))
    go_wp2_with fail
    go_ret
    exact ⟨rfl, Bw7.out⟩
  · have H := Lib.hid h
    clear h
    go_wp2_with fail
    refine (toSpokenS_any l Al cl _ ((Hrl.out.below Bw1.out (Nat.le_refl _)).more Bw1.out.size) (by omega)).mono ?_
    rintro e w2 ⟨A2, rfl, ho, hb⟩
    have C2 := Lib.hid hb
    clear hb
    have t2 := C2.out.size
    have Bw2 := Lib.hid (Bw1.out.trans (C2.out.mono Bw1.out.size))
    have O_t1_2 := Lib.hid ho
    clear ho
    go_wp2_with fail
    refine (sSpokenText_f l A2 l.length _ (O_t1_2.out.rd Spk_enc_len) (by omega) H.out).mono ?_
    rintro e w3 ⟨rfl, hb⟩
    have C3 := Lib.hid hb
    clear hb
    have t3 := C3.out.size
    have Bw3 := Lib.hid (Bw2.out.trans (C3.out.mono Bw2.out.size))
    go_wp2_with fail
    refine (toSpokenS_any l Al cl _ ((Hrl.out.below Bw3.out (Nat.le_refl _)).more Bw3.out.size) (by omega)).mono ?_
    rintro e w4 ⟨A4, rfl, ho, hb⟩
    have C4 := Lib.hid hb
    clear hb
    have t4 := C4.out.size
    have Bw4 := Lib.hid (Bw3.out.trans (C4.out.mono Bw3.out.size))
    have O_x0_4 := Lib.hid ho
    clear ho
    go_wp2_with fail
    refine (iSpokenText_f l A4 l.length _ (O_x0_4.out.rd Spk_enc_len) (by omega) H.out).mono ?_
    rintro e w5 ⟨rfl, hb⟩
    have C5 := Lib.hid hb
    clear hb
    have t5 := C5.out.size
    have Bw5 := Lib.hid (Bw4.out.trans (C5.out.mono Bw4.out.size))
    have O_x0_5 := Lib.hid (O_x0_4.out.later C5.out)
    clear O_x0_4
    go_wp2_with fail
    refine (toSpokenS_any l Al cl _ ((Hrl.out.below Bw5.out (Nat.le_refl _)).more Bw5.out.size) (by omega)).mono ?_
    rintro e w6 ⟨A6, rfl, ho, hb⟩
    have C6 := Lib.hid hb
    clear hb
    have t6 := C6.out.size
    have Bw6 := Lib.hid (Bw5.out.trans (C6.out.mono Bw5.out.size))
    have O_t5_6 := Lib.hid ho
    clear ho
    have O_x0_6 := Lib.hid (O_x0_5.out.later C6.out)
    clear O_x0_5
    go_wp2_with fail
    refine (eqSpokenS_t l A4 A6 l.length l.length _ (O_x0_6.out.rd Spk_enc_len) (O_t5_6.out.rd Spk_enc_len) (by omega)).mono ?_
    rintro e w7 ⟨rfl, hb⟩
    have C7 := Lib.hid hb
    clear hb
    have t7 := C7.out.size
    have Bw7 := Lib.hid (Bw6.out.trans (C7.out.mono Bw6.out.size))
    go_wp2_with fail
    go_ret
    exact ⟨rfl, Bw7.out⟩

namespace fnExactSpokenText
open Go.ChangeShapes Go.WideShapes Go.ChangeAt Go.RowKit Go.Deep
open Go.ChangeMaps (open_string shut_string)
theorem own : ownKnob Tryd.prog.godebug = none := by kernel_rfl
theorem laid : laidOutB Tryd.prog = true := by kernel_rfl
theorem reads : Tryd.f3.params.toList.all (fun t => Tryd.prog.readableRec t && decide (t < Tryd.prog.types.size)) = true := by kernel_rfl
theorem door_met (os : Os) (args : Array Value) : laidMetH Tryd.prog Rows.fnExactSpokenTextRow.laid ((World.doorLaid Tryd.prog 400 os).forCall (fun _ _ => 0) ⟨#[], args, []⟩).memory :=
  laidMetH_of_parts3 (fuel := 8) (laidMet_of_run' 8 (by kernel_rfl) (by kernel_rfl)) (by kernel_rfl) (by kernel_rfl)
set_option maxRecDepth 100000 in
theorem lifted (os : Os) (started : os.Started) (H : Type) (enc : TypeId × Value → H) :
    ReturnsInHanded {} Tryd.checked os 3 .any (fun w args => (Rows.fnExactSpokenTextSpec.pre enc Tryd.prog Tryd.f3 [] false w args ∧ laidMetH Tryd.prog Rows.fnExactSpokenTextRow.laid w) ∧ sizedMet enc Tryd.prog Tryd.f3 (OpenSpec.ofChange Rows.fnExactSpokenTextSpec) false w args) (Rows.fnExactSpokenTextSpec.post enc Tryd.prog Tryd.f3 false true false false) := by
  refine returnsInHanded_of_change_and (C := Tryd.checked) (X := fun w _ => laidMetH Tryd.prog Rows.fnExactSpokenTextRow.laid w) (fun _ _ _ hh h => h.of_heap hh) own started (by kernel_rfl) Tryd.func3
    (ChangeSpec.witness_shaped (enc := enc) (C := Tryd.checked) (os := os) (X := fun w _ => laidMetH Tryd.prog Rows.fnExactSpokenTextRow.laid w) false (World.doorLaid Tryd.prog 400 os) #[.slice none 0 0] 8 rfl (World.shaped_of_RefB (by kernel_rfl) (by kernel_rfl)) (by kernel_rfl) (by kernel_rfl) (by kernel_rfl) (door_met os _)) ?_
  intro W base args ds gs before hval0 hW _ _ hL _
  have htabW : Tab W := tab_of (by rw [MakeChecks.laidMetH_plain _ _ _ (by kernel_rfl)] at hL; exact hL)
  have hval : ∀ (j : Nat) t v, Tryd.f3.params[j]? = some t → args[j]? = some v → Value.okWide Tryd.prog W .any base t v := hval0
  have hW' := hW
  obtain ⟨p, q, hA0, hV, rfl, hfz, hnd⟩ := hW
  have hA : DataW.TrodAll enc Tryd.prog W 0 (fun _ => true) true Tryd.f3.params.toList args.toList ds p := hA0
  rw [Tryd.params3] at hA hval
  obtain ⟨rfl, rfl⟩ := trodVars_none hV
  have hlt : ∀ x ∈ p, x.block < W.heap.size := fun x hx => by simpa using hW'.lt x (List.mem_append.2 (.inl hx))
  clear hA0 hval0
  obtain ⟨v0, vs0, d0, ds0, p0, q0, hargs, rfl, rfl, h0, r0⟩ := trodAll_cons hA
  obtain ⟨rfl, rfl, rfl⟩ := trodAll_nil r0
  obtain rfl : args = #[v0] := by cases args; simp_all
  clear hargs
  obtain ⟨A0, a0, c0, rfl, y0, x0, z0⟩ := open_list Tryd.underlying22 2 (by kernel_rfl) (by omega) Spk.enc _ Spoken_el (hval 0 22 v0 rfl rfl) h0
  refine (spokenTextLaw W a0 A0 c0 x0 (by unfold maxLen at y0; omega) z0 htabW).mono fun e W' ⟨he, hg⟩ => ?_
  subst he
  exact ⟨_, rfl, law_post laid reads rfl Tryd.underlying4 rfl rfl hW' hg⟩
theorem over : Rows.fnExactSpokenTextRow.holds Tryd.pinned (OpenSpec.ofChange Rows.fnExactSpokenTextSpec) :=
  OpenClaim.holds_of_wide 3 Tryd.f3 rfl rfl rfl rfl rfl rfl rfl ⟨rfl, rfl, rfl, rfl, rfl⟩ rfl rfl rfl rfl rfl (by kernel_rfl) Tryd.func3 facts
    (of_decide_eq_true (by kernel_rfl)) (by unfold Func.isWrapper; first | (rw [if_pos (by decide +kernel)]; kernel_rfl) | (rw [if_neg (by decide +kernel)]; exact ⟨rfl, rfl⟩))
    (fun os started H enc _ => lifted os started H enc)
theorem proved : Rows.FnExactSpokenTextCardSaid :=
  Claim7.holds_tied_plain_at .later [] [.data, .data, .data] true (true, "8fdb6f0415f5832eb9ac773a81c0808de358d28ce214618cbc1653be8f2d6dc7") false
    over (fun _ h => by cases h) (by kernel_rfl) (fun _ h => by cases h) fnExactSpokenText_row_tie rfl ⟨rfl, rfl⟩ (by kernel_rfl) rfl
    (fun f fn hf hfn => by
      obtain rfl : f = 3 := Option.some.inj ((show Tryd.prog.funcNamed "loop.example/g00894/laws.FnExactSpokenText" = some 3 by kernel_rfl).symm.trans hf) |>.symm
      obtain rfl : fn = Tryd.f3 := (Option.some.inj (Tryd.func3.symm.trans hfn)).symm
      exact ⟨by kernel_rfl, fun j t ht => by
        have hm : t ∈ Tryd.f3.params.toList := Array.mem_toList_iff.2 (Array.mem_of_getElem? ht)
        have hall : (Tryd.f3.params.toList.all fun u => !Tryd.prog.wantsStandIn u) = true := by kernel_rfl
        exact (show Tryd.prog.wantsStandIn t = false by simpa using List.all_eq_true.1 hall t hm)⟩)
    (by kernel_rfl)
end fnExactSpokenText
end Go.Proofs.YtpedfjcidbopiaaDoor
