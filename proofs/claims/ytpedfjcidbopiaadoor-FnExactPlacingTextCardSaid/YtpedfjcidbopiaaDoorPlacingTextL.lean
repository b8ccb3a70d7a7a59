/-
  PlacingText of the program returns what the reference's returns, for all arguments; the tied card.
-/
import Derived.Test.YtpedfjcidbopiaaDoorPlacingText
import Derived.Test.YtpedfjcidbopiaaDoorTyPerson
import Derived.Test.YtpedfjcidbopiaaDoorTyInt
import Derived.Test.YtpedfjcidbopiaaDoorFaPlacingText
namespace Go.Proofs.YtpedfjcidbopiaaDoor
open Go.RowKit
set_option linter.unusedVariables false
set_option linter.unusedSimpArgs false
set_option maxRecDepth 100000

set_option maxHeartbeats 4000000 in
theorem placingTextLaw (w : World) (l : List Pk) (Al : Option Addr) (cl : Nat) (hrl : RdP w w.heap.size Al l) (hll : l.length ≤ 9223372036854775807) (hsl : ∀ x ∈ l, Person_small 9223372036854775807 x) (n : Int) (hszn : -9223372036854775808 ≤ n ∧ n ≤ 9223372036854775807) (who : List Int) (Awho : Option Addr) (cwho : Nat) (hrwho : RdL w w.heap.size Awho 1 encInt who) (hlwho : who.length ≤ 9223372036854775807) (hswho : ∀ x ∈ who, Int_small 9223372036854775807 x) (htab : Tab w) :
    Calls Tryd.prog 6 #[.slice Al l.length cl, .int .i64 n, .slice Awho who.length cwho] w fun e w' => e = .returned (.bool true) ∧ Below w.heap.size w w' := by
  have Htab := Lib.hid htab
  clear htab
  have Hrl := Lib.hid hrl
  have Hsl := Lib.hid hsl
  clear hrl hsl
  have Hrwho := Lib.hid hrwho
  have Hswho := Lib.hid hswho
  clear hrwho hswho
  by_cases gwho : 1048576 < who.length
  · go_enter Tryd.func6, Tryd.ntmps6
    go_wp2
    go_ret
    exact ⟨rfl, Below.refl _ _⟩
  have hlwho' : who.length ≤ 1048576 := by omega
  have Bw0 := Lib.hid (Below.refl w.heap.size w)
  go_enter Tryd.func6, Tryd.ntmps6
  go_wp2_with fail
  refine (szPersonS_any l Al cl (1048576 : Int) _ ((Hrl.out.below Bw0.out (Nat.le_refl _)).more Bw0.out.size) (by omega) (by omega) (by omega) Hsl.out).mono ?_
  rintro e w1 ⟨r1, rfl, hz, hb⟩
  have C1 := Lib.hid hb
  clear hb
  have t1 := C1.out.size
  have Bw1 := Lib.hid (Bw0.out.trans (C1.out.mono Bw0.out.size))
  have Z1 := Lib.hid hz
  clear hz
  by_cases n1 : r1 < 0
  · go_wp2_with fail
    go_ret
    exact ⟨rfl, Bw1.out⟩
  have z1 := Z1.out.resolve_left n1
  have y1 : 0 ≤ r1 ∧ r1 ≤ 1048576 ∧ l.length ≤ 1048576 := ⟨z1.1, by have := z1.2.1; omega, by have := z1.2.2.1; omega⟩
  obtain ⟨y1a, y1b, hll'⟩ := y1
  have htl : totP l ≤ 1048576 := by have := z1.2.2.2.2; omega
  have hcntl : cntP l ≤ 2097152 := by unfold cntP; omega
  have Hml : Hid (∀ x ∈ l, Person_small 1048576 x) := Lib.hid (fun x hx => by have := z1.2.2.2.1 x hx; simp only [Person_small] at this ⊢; omega)
  clear z1
  by_cases h : placingP l n who
  · have H := Lib.hid h
    clear h
    go_wp2_with fail
    refine (toPersonS_any l Al cl _ ((Hrl.out.below Bw1.out (Nat.le_refl _)).more Bw1.out.size) (by omega) Hml.out).mono ?_
    rintro e w2 ⟨A2, rfl, ho, hb⟩
    have C2 := Lib.hid hb
    clear hb
    have t2 := C2.out.size
    have Bw2 := Lib.hid (Bw1.out.trans (C2.out.mono Bw1.out.size))
    have O_t1_2 := Lib.hid ho
    clear ho
    go_wp2_with fail
    refine (toIntS_any who Awho cwho _ ((Hrwho.out.below Bw2.out (Nat.le_refl _)).more Bw2.out.size) (by omega)).mono ?_
    rintro e w3 ⟨A3, rfl, ho, hb⟩
    have C3 := Lib.hid hb
    clear hb
    have t3 := C3.out.size
    have Bw3 := Lib.hid (Bw2.out.trans (C3.out.mono Bw2.out.size))
    have O_t2_3 := Lib.hid ho
    clear ho
    have O_t1_3 := Lib.hid (O_t1_2.out.later C3.out)
    clear O_t1_2
    go_wp2_with fail
    refine (sPlacingText_t l who A2 A3 l.length who.length n _ (O_t1_3.out.rd trivial) (O_t2_3.out.rd encInt_len) (by omega) (Nat.le_refl _) Hml.out (by omega) (Nat.le_refl _) (Htab.out.later Bw3.out) H.out).mono ?_
    rintro e w4 ⟨rfl, hb⟩
    have C4 := Lib.hid hb
    clear hb
    have t4 := C4.out.size
    have Bw4 := Lib.hid (Bw3.out.trans (C4.out.mono Bw3.out.size))
    go_wp2_with fail
    refine (toPersonS_any l Al cl _ ((Hrl.out.below Bw4.out (Nat.le_refl _)).more Bw4.out.size) (by omega) Hml.out).mono ?_
    rintro e w5 ⟨A5, rfl, ho, hb⟩
    have C5 := Lib.hid hb
    clear hb
    have t5 := C5.out.size
    have Bw5 := Lib.hid (Bw4.out.trans (C5.out.mono Bw4.out.size))
    have O_x0_5 := Lib.hid ho
    clear ho
    go_wp2_with fail
    refine (toIntS_any who Awho cwho _ ((Hrwho.out.below Bw5.out (Nat.le_refl _)).more Bw5.out.size) (by omega)).mono ?_
    rintro e w6 ⟨A6, rfl, ho, hb⟩
    have C6 := Lib.hid hb
    clear hb
    have t6 := C6.out.size
    have Bw6 := Lib.hid (Bw5.out.trans (C6.out.mono Bw5.out.size))
    have O_x2_6 := Lib.hid ho
    clear ho
    have O_x0_6 := Lib.hid (O_x0_5.out.later C6.out)
    clear O_x0_5
    go_wp2_with fail
    refine (iPlacingText_t l who A5 A6 l.length who.length n _ (O_x0_6.out.rd trivial) (O_x2_6.out.rd encInt_len) (by omega) (Nat.le_refl _) Hml.out (by omega) (Nat.le_refl _) (Htab.out.later Bw6.out) H.out).mono ?_
    rintro e w7 ⟨rfl, hb⟩
    have C7 := Lib.hid hb
    clear hb
    have t7 := C7.out.size
    have Bw7 := Lib.hid (Bw6.out.trans (C7.out.mono Bw6.out.size))
    have O_x0_7 := Lib.hid (O_x0_6.out.later C7.out)
    clear O_x0_6
    have O_x2_7 := Lib.hid (O_x2_6.out.later C7.out)
    clear O_x2_6
    go_wp2_with fail
    refine (toPersonS_any l Al cl _ ((Hrl.out.below Bw7.out (Nat.le_refl _)).more Bw7.out.size) (by omega) Hml.out).mono ?_
    rintro e w8 ⟨A8, rfl, ho, hb⟩
    have C8 := Lib.hid hb
    clear hb
    have t8 := C8.out.size
    have Bw8 := Lib.hid (Bw7.out.trans (C8.out.mono Bw7.out.size))
    have O_t7_8 := Lib.hid ho
    clear ho
    have O_x0_8 := Lib.hid (O_x0_7.out.later C8.out)
    clear O_x0_7
    have O_x2_8 := Lib.hid (O_x2_7.out.later C8.out)
    clear O_x2_7
    go_wp2_with fail
    refine (eqPersonS_t l A5 A8 l.length l.length _ (O_x0_8.out.rd trivial) (O_t7_8.out.rd trivial) (by omega) Hml.out).mono ?_
    rintro e w9 ⟨rfl, hb⟩
    have C9 := Lib.hid hb
    clear hb
    have t9 := C9.out.size
    have Bw9 := Lib.hid (Bw8.out.trans (C9.out.mono Bw8.out.size))
    have O_x2_9 := Lib.hid (O_x2_8.out.later C9.out)
    clear O_x2_8
    go_wp2_with fail
    refine (toIntS_any who Awho cwho _ ((Hrwho.out.below Bw9.out (Nat.le_refl _)).more Bw9.out.size) (by omega)).mono ?_
    rintro e w10 ⟨A10, rfl, ho, hb⟩
    have C10 := Lib.hid hb
    clear hb
    have t10 := C10.out.size
    have Bw10 := Lib.hid (Bw9.out.trans (C10.out.mono Bw9.out.size))
    have O_t9_10 := Lib.hid ho
    clear ho
    have O_x2_10 := Lib.hid (O_x2_9.out.later C10.out)
    clear O_x2_9
    go_wp2_with fail
    refine (eqIntS_t who A6 A10 who.length who.length _ (O_x2_10.out.rd encInt_len) (O_t9_10.out.rd encInt_len) (by omega)).mono ?_
    rintro e w11 ⟨rfl, hb⟩
    have C11 := Lib.hid hb
    clear hb
    have t11 := C11.out.size
    have Bw11 := Lib.hid (Bw10.out.trans (C11.out.mono Bw10.out.size))
    go_wp2_with fail
    go_ret
    exact ⟨rfl, Bw11.out⟩
  · have H := Lib.hid h
    clear h
    go_wp2_with fail
    refine (toPersonS_any l Al cl _ ((Hrl.out.below Bw1.out (Nat.le_refl _)).more Bw1.out.size) (by omega) Hml.out).mono ?_
    rintro e w2 ⟨A2, rfl, ho, hb⟩
    have C2 := Lib.hid hb
    clear hb
    have t2 := C2.out.size
    have Bw2 := Lib.hid (Bw1.out.trans (C2.out.mono Bw1.out.size))
    have O_t1_2 := Lib.hid ho
    clear ho
    go_wp2_with fail
    refine (toIntS_any who Awho cwho _ ((Hrwho.out.below Bw2.out (Nat.le_refl _)).more Bw2.out.size) (by omega)).mono ?_
    rintro e w3 ⟨A3, rfl, ho, hb⟩
    have C3 := Lib.hid hb
    clear hb
    have t3 := C3.out.size
    have Bw3 := Lib.hid (Bw2.out.trans (C3.out.mono Bw2.out.size))
    have O_t2_3 := Lib.hid ho
    clear ho
    have O_t1_3 := Lib.hid (O_t1_2.out.later C3.out)
    clear O_t1_2
    go_wp2_with fail
    refine (sPlacingText_f l who A2 A3 l.length who.length n _ (O_t1_3.out.rd trivial) (O_t2_3.out.rd encInt_len) (by omega) (Nat.le_refl _) Hml.out (by omega) (Nat.le_refl _) H.out).mono ?_
    rintro e w4 ⟨rfl, hb⟩
    have C4 := Lib.hid hb
    clear hb
    have t4 := C4.out.size
    have Bw4 := Lib.hid (Bw3.out.trans (C4.out.mono Bw3.out.size))
    go_wp2_with fail
    refine (toPersonS_any l Al cl _ ((Hrl.out.below Bw4.out (Nat.le_refl _)).more Bw4.out.size) (by omega) Hml.out).mono ?_
    rintro e w5 ⟨A5, rfl, ho, hb⟩
    have C5 := Lib.hid hb
    clear hb
    have t5 := C5.out.size
    have Bw5 := Lib.hid (Bw4.out.trans (C5.out.mono Bw4.out.size))
    have O_x0_5 := Lib.hid ho
    clear ho
    go_wp2_with fail
    refine (toIntS_any who Awho cwho _ ((Hrwho.out.below Bw5.out (Nat.le_refl _)).more Bw5.out.size) (by omega)).mono ?_
    rintro e w6 ⟨A6, rfl, ho, hb⟩
    have C6 := Lib.hid hb
    clear hb
    have t6 := C6.out.size
    have Bw6 := Lib.hid (Bw5.out.trans (C6.out.mono Bw5.out.size))
    have O_x2_6 := Lib.hid ho
    clear ho
    have O_x0_6 := Lib.hid (O_x0_5.out.later C6.out)
    clear O_x0_5
    go_wp2_with fail
    refine (iPlacingText_f l who A5 A6 l.length who.length n _ (O_x0_6.out.rd trivial) (O_x2_6.out.rd encInt_len) (by omega) (Nat.le_refl _) Hml.out (by omega) (Nat.le_refl _) H.out).mono ?_
    rintro e w7 ⟨rfl, hb⟩
    have C7 := Lib.hid hb
    clear hb
    have t7 := C7.out.size
    have Bw7 := Lib.hid (Bw6.out.trans (C7.out.mono Bw6.out.size))
    have O_x0_7 := Lib.hid (O_x0_6.out.later C7.out)
    clear O_x0_6
    have O_x2_7 := Lib.hid (O_x2_6.out.later C7.out)
    clear O_x2_6
    go_wp2_with fail
    refine (toPersonS_any l Al cl _ ((Hrl.out.below Bw7.out (Nat.le_refl _)).more Bw7.out.size) (by omega) Hml.out).mono ?_
    rintro e w8 ⟨A8, rfl, ho, hb⟩
    have C8 := Lib.hid hb
    clear hb
    have t8 := C8.out.size
    have Bw8 := Lib.hid (Bw7.out.trans (C8.out.mono Bw7.out.size))
    have O_t7_8 := Lib.hid ho
    clear ho
    have O_x0_8 := Lib.hid (O_x0_7.out.later C8.out)
    clear O_x0_7
    have O_x2_8 := Lib.hid (O_x2_7.out.later C8.out)
    clear O_x2_7
    go_wp2_with fail
    refine (eqPersonS_t l A5 A8 l.length l.length _ (O_x0_8.out.rd trivial) (O_t7_8.out.rd trivial) (by omega) Hml.out).mono ?_
    rintro e w9 ⟨rfl, hb⟩
    have C9 := Lib.hid hb
    clear hb
    have t9 := C9.out.size
    have Bw9 := Lib.hid (Bw8.out.trans (C9.out.mono Bw8.out.size))
    have O_x2_9 := Lib.hid (O_x2_8.out.later C9.out)
    clear O_x2_8
    go_wp2_with fail
    refine (toIntS_any who Awho cwho _ ((Hrwho.out.below Bw9.out (Nat.le_refl _)).more Bw9.out.size) (by omega)).mono ?_
    rintro e w10 ⟨A10, rfl, ho, hb⟩
    have C10 := Lib.hid hb
    clear hb
    have t10 := C10.out.size
    have Bw10 := Lib.hid (Bw9.out.trans (C10.out.mono Bw9.out.size))
    have O_t9_10 := Lib.hid ho
    clear ho
    have O_x2_10 := Lib.hid (O_x2_9.out.later C10.out)
    clear O_x2_9
    go_wp2_with fail
    refine (eqIntS_t who A6 A10 who.length who.length _ (O_x2_10.out.rd encInt_len) (O_t9_10.out.rd encInt_len) (by omega)).mono ?_
    rintro e w11 ⟨rfl, hb⟩
    have C11 := Lib.hid hb
    clear hb
    have t11 := C11.out.size
    have Bw11 := Lib.hid (Bw10.out.trans (C11.out.mono Bw10.out.size))
    go_wp2_with fail
    go_ret
    exact ⟨rfl, Bw11.out⟩

namespace fnExactPlacingText
open Go.ChangeShapes Go.WideShapes Go.ChangeAt Go.RowKit Go.Deep
open Go.ChangeMaps (open_string shut_string)
theorem own : ownKnob Tryd.prog.godebug = none := by kernel_rfl
theorem laid : laidOutB Tryd.prog = true := by kernel_rfl
theorem reads : Tryd.f6.params.toList.all (fun t => Tryd.prog.readableRec t && decide (t < Tryd.prog.types.size)) = true := by kernel_rfl
theorem door_met (os : Os) (args : Array Value) : laidMetH Tryd.prog Rows.fnExactPlacingTextRow.laid ((World.doorLaid Tryd.prog 400 os).forCall (fun _ _ => 0) ⟨#[], args, []⟩).memory :=
  laidMetH_of_parts3 (fuel := 8) (laidMet_of_run' 8 (by kernel_rfl) (by kernel_rfl)) (by kernel_rfl) (by kernel_rfl)
set_option maxRecDepth 100000 in
theorem lifted (os : Os) (started : os.Started) (H : Type) (enc : TypeId × Value → H) :
    ReturnsInHanded {} Tryd.checked os 6 .any (fun w args => (Rows.fnExactPlacingTextSpec.pre enc Tryd.prog Tryd.f6 [] false w args ∧ laidMetH Tryd.prog Rows.fnExactPlacingTextRow.laid w) ∧ sizedMet enc Tryd.prog Tryd.f6 (OpenSpec.ofChange Rows.fnExactPlacingTextSpec) false w args) (Rows.fnExactPlacingTextSpec.post enc Tryd.prog Tryd.f6 false true false false) := by
  refine returnsInHanded_of_change_and (C := Tryd.checked) (X := fun w _ => laidMetH Tryd.prog Rows.fnExactPlacingTextRow.laid w) (fun _ _ _ hh h => h.of_heap hh) own started (by kernel_rfl) Tryd.func6
    (ChangeSpec.witness_shaped (enc := enc) (C := Tryd.checked) (os := os) (X := fun w _ => laidMetH Tryd.prog Rows.fnExactPlacingTextRow.laid w) false (World.doorLaid Tryd.prog 400 os) #[.slice none 0 0, .int .i64 0, .slice none 0 0] 8 rfl (World.shaped_of_RefB (by kernel_rfl) (by kernel_rfl)) (by kernel_rfl) (by kernel_rfl) (by kernel_rfl) (door_met os _)) ?_
  intro W base args ds gs before hval0 hW _ _ hL _
  have htabW : Tab W := tab_of (by rw [MakeChecks.laidMetH_plain _ _ _ (by kernel_rfl)] at hL; exact hL)
  have hval : ∀ (j : Nat) t v, Tryd.f6.params[j]? = some t → args[j]? = some v → Value.okWide Tryd.prog W .any base t v := hval0
  have hW' := hW
  obtain ⟨p, q, hA0, hV, rfl, hfz, hnd⟩ := hW
  have hA : DataW.TrodAll enc Tryd.prog W 0 (fun _ => true) true Tryd.f6.params.toList args.toList ds p := hA0
  rw [Tryd.params6] at hA hval
  obtain ⟨rfl, rfl⟩ := trodVars_none hV
  have hlt : ∀ x ∈ p, x.block < W.heap.size := fun x hx => by simpa using hW'.lt x (List.mem_append.2 (.inl hx))
  clear hA0 hval0
  obtain ⟨v0, vs0, d0, ds0, p0, q0, hargs, rfl, rfl, h0, r0⟩ := trodAll_cons hA
  obtain ⟨v1, vs1, d1, ds1, p1, q1, rfl, rfl, rfl, h1, r1⟩ := trodAll_cons r0
  obtain ⟨v2, vs2, d2, ds2, p2, q2, rfl, rfl, rfl, h2, r2⟩ := trodAll_cons r1
  obtain ⟨rfl, rfl, rfl⟩ := trodAll_nil r2
  obtain rfl : args = #[v0, v1, v2] := by cases args; simp_all
  clear hargs
  obtain ⟨A0, a0, c0, rfl, y0, x0, z0⟩ := open_list Tryd.underlying41 2 (by kernel_rfl) (by omega) Psn.enc _ Person_el (hval 0 41 v0 rfl rfl) h0
  obtain ⟨x0, z0⟩ := people_open x0 z0
  obtain ⟨a1, rfl, rfl, rfl, z1⟩ := open_int Tryd.underlying3 (hval 1 3 v1 rfl rfl) h1
  obtain ⟨A2, a2, c2, rfl, y2, x2, z2⟩ := open_list Tryd.underlying42 1 (by kernel_rfl) (by omega) encInt _ Int_el (hval 2 42 v2 rfl rfl) h2
  have hlaw := placingTextLaw W (a0.map Psn.key) A0 c0 x0 (by rw [List.length_map]; unfold maxLen at y0; omega) z0 a1 (by simpa [Lit.wf, IntKind.min, IntKind.max, IntKind.signed, IntKind.bits] using z1) a2 A2 c2 x2 (by unfold maxLen at y2; omega) z2 htabW
  simp only [List.length_map] at hlaw
  refine (hlaw).mono fun e W' ⟨he, hg⟩ => ?_
  subst he
  exact ⟨_, rfl, law_post laid reads rfl Tryd.underlying4 rfl rfl hW' hg⟩
theorem over : Rows.fnExactPlacingTextRow.holds Tryd.pinned (OpenSpec.ofChange Rows.fnExactPlacingTextSpec) :=
  OpenClaim.holds_of_wide 6 Tryd.f6 rfl rfl rfl rfl rfl rfl rfl ⟨rfl, rfl, rfl, rfl, rfl⟩ rfl rfl rfl rfl rfl (by kernel_rfl) Tryd.func6 facts
    (of_decide_eq_true (by kernel_rfl)) (by unfold Func.isWrapper; first | (rw [if_pos (by decide +kernel)]; kernel_rfl) | (rw [if_neg (by decide +kernel)]; exact ⟨rfl, rfl⟩))
    (fun os started H enc _ => lifted os started H enc)
theorem proved : Rows.FnExactPlacingTextCardSaid :=
  Claim7.holds_tied_plain_at .later [] [.data, .data, .data] true (true, "8fdb6f0415f5832eb9ac773a81c0808de358d28ce214618cbc1653be8f2d6dc7") false
    over (fun _ h => by cases h) (by kernel_rfl) (fun _ h => by cases h) fnExactPlacingText_row_tie rfl ⟨rfl, rfl⟩ (by kernel_rfl) rfl
    (fun f fn hf hfn => by
      obtain rfl : f = 6 := Option.some.inj ((show Tryd.prog.funcNamed "loop.example/g00894/laws.FnExactPlacingText" = some 6 by kernel_rfl).symm.trans hf) |>.symm
      obtain rfl : fn = Tryd.f6 := (Option.some.inj (Tryd.func6.symm.trans hfn)).symm
      exact ⟨by kernel_rfl, fun j t ht => by
        have hm : t ∈ Tryd.f6.params.toList := Array.mem_toList_iff.2 (Array.mem_of_getElem? ht)
        have hall : (Tryd.f6.params.toList.all fun u => !Tryd.prog.wantsStandIn u) = true := by kernel_rfl
        exact (show Tryd.prog.wantsStandIn t = false by simpa using List.all_eq_true.1 hall t hm)⟩)
    (by kernel_rfl)
end fnExactPlacingText
end Go.Proofs.YtpedfjcidbopiaaDoor
