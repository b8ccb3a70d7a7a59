/-
  RecordLine of the program returns what the reference's returns, for all arguments; the tied card.
-/
import Derived.Test.YtpedfjcidbopiaaDoorRecordLine
import Derived.Test.YtpedfjcidbopiaaDoorFaRecordLine
namespace Go.Proofs.YtpedfjcidbopiaaDoor
open Go.RowKit
set_option linter.unusedVariables false
set_option linter.unusedSimpArgs false
set_option maxRecDepth 100000

set_option maxHeartbeats 4000000 in
theorem recordLineLaw (w : World) (x : Rcd) (hsx : Record_small 9223372036854775807 x) (htab : Tab w) :
    Calls Tryd.prog 4 #[.agg #[.int .i64 x.day, .string x.meth, .string x.touch, .int .i64 x.rows, .string x.note]] w fun e w' => e = .returned (.bool true) ∧ Below w.heap.size w w' := by
  have Htab := Lib.hid htab
  clear htab
  have Hsx := Lib.hid hsx
  clear hsx
  go_enter Tryd.func4, Tryd.ntmps4
  go_wp2_with fail
  have s0_0_0 : (w.alloc (.cells #[.int .i64 x.day, .string x.meth, .string x.touch, .int .i64 x.rows, .string x.note] 31)).cell? ⟨w.heap.size, 0, none⟩ = some (.int .i64 x.day) := by simp [go_sem]
  have s0_0_1 : (w.alloc (.cells #[.int .i64 x.day, .string x.meth, .string x.touch, .int .i64 x.rows, .string x.note] 31)).cell? ⟨w.heap.size, 1, none⟩ = some (.string x.meth) := by simp [go_sem]
  have s0_0_2 : (w.alloc (.cells #[.int .i64 x.day, .string x.meth, .string x.touch, .int .i64 x.rows, .string x.note] 31)).cell? ⟨w.heap.size, 2, none⟩ = some (.string x.touch) := by simp [go_sem]
  have s0_0_3 : (w.alloc (.cells #[.int .i64 x.day, .string x.meth, .string x.touch, .int .i64 x.rows, .string x.note] 31)).cell? ⟨w.heap.size, 3, none⟩ = some (.int .i64 x.rows) := by simp [go_sem]
  have s0_0_4 : (w.alloc (.cells #[.int .i64 x.day, .string x.meth, .string x.touch, .int .i64 x.rows, .string x.note] 31)).cell? ⟨w.heap.size, 4, none⟩ = some (.string x.note) := by simp [go_sem]
  have t0 : w.heap.size + 1 ≤ (w.alloc (.cells #[.int .i64 x.day, .string x.meth, .string x.touch, .int .i64 x.rows, .string x.note] 31)).heap.size := by simp
  have Bw0 : Hid (Below w.heap.size w (w.alloc (.cells #[.int .i64 x.day, .string x.meth, .string x.touch, .int .i64 x.rows, .string x.note] 31))) := Lib.hid (by repeat (first | exact Below.refl _ _ | (refine Below.alloc ?_ (by simp <;> omega) _)))
  generalize (w.alloc (.cells #[.int .i64 x.day, .string x.meth, .string x.touch, .int .i64 x.rows, .string x.note] 31)) = w0 at *
  refine (szRecord_any x (1048576 : Int) _ (by omega) (by omega) Hsx.out).mono ?_
  rintro e w1 ⟨r1, rfl, hz, hb⟩
  have C1 := Lib.hid hb
  clear hb
  have t1 := C1.out.size
  have Bw1 := Lib.hid (Bw0.out.trans (C1.out.mono Bw0.out.size))
  have Z1 := Lib.hid hz
  clear hz
  have s1_0_0 := (C1.out.cell (p := ⟨w.heap.size, 0, none⟩) (show w.heap.size < w0.heap.size from by omega)).trans s0_0_0
  clear s0_0_0
  have s1_0_1 := (C1.out.cell (p := ⟨w.heap.size, 1, none⟩) (show w.heap.size < w0.heap.size from by omega)).trans s0_0_1
  clear s0_0_1
  have s1_0_2 := (C1.out.cell (p := ⟨w.heap.size, 2, none⟩) (show w.heap.size < w0.heap.size from by omega)).trans s0_0_2
  clear s0_0_2
  have s1_0_3 := (C1.out.cell (p := ⟨w.heap.size, 3, none⟩) (show w.heap.size < w0.heap.size from by omega)).trans s0_0_3
  clear s0_0_3
  have s1_0_4 := (C1.out.cell (p := ⟨w.heap.size, 4, none⟩) (show w.heap.size < w0.heap.size from by omega)).trans s0_0_4
  clear s0_0_4
  by_cases n1 : r1 < 0
  · go_wp2_with fail
    go_ret
    exact ⟨rfl, Bw1.out⟩
  have z1 := Z1.out.resolve_left (by omega)
  obtain ⟨y1a, y1b', hz'⟩ := z1
  have y1b : r1 ≤ 1048576 := by omega
  have Hmx : Hid (Record_small 1048576 x) := Lib.hid (by simp only [Record_small] at hz' ⊢; omega)
  clear hz'
  by_cases h : recP x
  · have H := Lib.hid h
    clear h
    go_wp2_with fail
    refine (toRecord_any x _).mono ?_
    rintro e w2 ⟨rfl, hb⟩
    have C2 := Lib.hid hb
    clear hb
    have t2 := C2.out.size
    have Bw2 := Lib.hid (Bw1.out.trans (C2.out.mono Bw1.out.size))
    have s2_0_0 := (C2.out.cell (p := ⟨w.heap.size, 0, none⟩) (show w.heap.size < w1.heap.size from by omega)).trans s1_0_0
    clear s1_0_0
    have s2_0_1 := (C2.out.cell (p := ⟨w.heap.size, 1, none⟩) (show w.heap.size < w1.heap.size from by omega)).trans s1_0_1
    clear s1_0_1
    have s2_0_2 := (C2.out.cell (p := ⟨w.heap.size, 2, none⟩) (show w.heap.size < w1.heap.size from by omega)).trans s1_0_2
    clear s1_0_2
    have s2_0_3 := (C2.out.cell (p := ⟨w.heap.size, 3, none⟩) (show w.heap.size < w1.heap.size from by omega)).trans s1_0_3
    clear s1_0_3
    have s2_0_4 := (C2.out.cell (p := ⟨w.heap.size, 4, none⟩) (show w.heap.size < w1.heap.size from by omega)).trans s1_0_4
    clear s1_0_4
    go_wp2_with fail
    refine (sRecordLine_t x _ Hmx.out (Htab.out.later Bw2.out) H.out).mono ?_
    rintro e w3 ⟨rfl, hb⟩
    have C3 := Lib.hid hb
    clear hb
    have t3 := C3.out.size
    have Bw3 := Lib.hid (Bw2.out.trans (C3.out.mono Bw2.out.size))
    have s3_0_0 := (C3.out.cell (p := ⟨w.heap.size, 0, none⟩) (show w.heap.size < w2.heap.size from by omega)).trans s2_0_0
    clear s2_0_0
    have s3_0_1 := (C3.out.cell (p := ⟨w.heap.size, 1, none⟩) (show w.heap.size < w2.heap.size from by omega)).trans s2_0_1
    clear s2_0_1
    have s3_0_2 := (C3.out.cell (p := ⟨w.heap.size, 2, none⟩) (show w.heap.size < w2.heap.size from by omega)).trans s2_0_2
    clear s2_0_2
    have s3_0_3 := (C3.out.cell (p := ⟨w.heap.size, 3, none⟩) (show w.heap.size < w2.heap.size from by omega)).trans s2_0_3
    clear s2_0_3
    have s3_0_4 := (C3.out.cell (p := ⟨w.heap.size, 4, none⟩) (show w.heap.size < w2.heap.size from by omega)).trans s2_0_4
    clear s2_0_4
    go_wp2_with fail
    refine (toRecord_any x _).mono ?_
    rintro e w4 ⟨rfl, hb⟩
    have C4 := Lib.hid hb
    clear hb
    have t4 := C4.out.size
    have Bw4 := Lib.hid (Bw3.out.trans (C4.out.mono Bw3.out.size))
    have s4_0_0 := (C4.out.cell (p := ⟨w.heap.size, 0, none⟩) (show w.heap.size < w3.heap.size from by omega)).trans s3_0_0
    clear s3_0_0
    have s4_0_1 := (C4.out.cell (p := ⟨w.heap.size, 1, none⟩) (show w.heap.size < w3.heap.size from by omega)).trans s3_0_1
    clear s3_0_1
    have s4_0_2 := (C4.out.cell (p := ⟨w.heap.size, 2, none⟩) (show w.heap.size < w3.heap.size from by omega)).trans s3_0_2
    clear s3_0_2
    have s4_0_3 := (C4.out.cell (p := ⟨w.heap.size, 3, none⟩) (show w.heap.size < w3.heap.size from by omega)).trans s3_0_3
    clear s3_0_3
    have s4_0_4 := (C4.out.cell (p := ⟨w.heap.size, 4, none⟩) (show w.heap.size < w3.heap.size from by omega)).trans s3_0_4
    clear s3_0_4
    go_wp2_with fail
    refine (iRecordLine_t x _ Hmx.out (Htab.out.later Bw4.out) H.out).mono ?_
    rintro e w5 ⟨rfl, hb⟩
    have C5 := Lib.hid hb
    clear hb
    have t5 := C5.out.size
    have Bw5 := Lib.hid (Bw4.out.trans (C5.out.mono Bw4.out.size))
    have s5_0_0 := (C5.out.cell (p := ⟨w.heap.size, 0, none⟩) (show w.heap.size < w4.heap.size from by omega)).trans s4_0_0
    clear s4_0_0
    have s5_0_1 := (C5.out.cell (p := ⟨w.heap.size, 1, none⟩) (show w.heap.size < w4.heap.size from by omega)).trans s4_0_1
    clear s4_0_1
    have s5_0_2 := (C5.out.cell (p := ⟨w.heap.size, 2, none⟩) (show w.heap.size < w4.heap.size from by omega)).trans s4_0_2
    clear s4_0_2
    have s5_0_3 := (C5.out.cell (p := ⟨w.heap.size, 3, none⟩) (show w.heap.size < w4.heap.size from by omega)).trans s4_0_3
    clear s4_0_3
    have s5_0_4 := (C5.out.cell (p := ⟨w.heap.size, 4, none⟩) (show w.heap.size < w4.heap.size from by omega)).trans s4_0_4
    clear s4_0_4
    go_wp2_with fail
    go_ret
    exact ⟨rfl, Bw5.out⟩
  · have H := Lib.hid h
    clear h
    go_wp2_with fail
    refine (toRecord_any x _).mono ?_
    rintro e w2 ⟨rfl, hb⟩
    have C2 := Lib.hid hb
    clear hb
    have t2 := C2.out.size
    have Bw2 := Lib.hid (Bw1.out.trans (C2.out.mono Bw1.out.size))
    have s2_0_0 := (C2.out.cell (p := ⟨w.heap.size, 0, none⟩) (show w.heap.size < w1.heap.size from by omega)).trans s1_0_0
    clear s1_0_0
    have s2_0_1 := (C2.out.cell (p := ⟨w.heap.size, 1, none⟩) (show w.heap.size < w1.heap.size from by omega)).trans s1_0_1
    clear s1_0_1
    have s2_0_2 := (C2.out.cell (p := ⟨w.heap.size, 2, none⟩) (show w.heap.size < w1.heap.size from by omega)).trans s1_0_2
    clear s1_0_2
    have s2_0_3 := (C2.out.cell (p := ⟨w.heap.size, 3, none⟩) (show w.heap.size < w1.heap.size from by omega)).trans s1_0_3
    clear s1_0_3
    have s2_0_4 := (C2.out.cell (p := ⟨w.heap.size, 4, none⟩) (show w.heap.size < w1.heap.size from by omega)).trans s1_0_4
    clear s1_0_4
    go_wp2_with fail
    refine (sRecordLine_f x _ Hmx.out H.out).mono ?_
    rintro e w3 ⟨rfl, hb⟩
    have C3 := Lib.hid hb
    clear hb
    have t3 := C3.out.size
    have Bw3 := Lib.hid (Bw2.out.trans (C3.out.mono Bw2.out.size))
    have s3_0_0 := (C3.out.cell (p := ⟨w.heap.size, 0, none⟩) (show w.heap.size < w2.heap.size from by omega)).trans s2_0_0
    clear s2_0_0
    have s3_0_1 := (C3.out.cell (p := ⟨w.heap.size, 1, none⟩) (show w.heap.size < w2.heap.size from by omega)).trans s2_0_1
    clear s2_0_1
    have s3_0_2 := (C3.out.cell (p := ⟨w.heap.size, 2, none⟩) (show w.heap.size < w2.heap.size from by omega)).trans s2_0_2
    clear s2_0_2
    have s3_0_3 := (C3.out.cell (p := ⟨w.heap.size, 3, none⟩) (show w.heap.size < w2.heap.size from by omega)).trans s2_0_3
    clear s2_0_3
    have s3_0_4 := (C3.out.cell (p := ⟨w.heap.size, 4, none⟩) (show w.heap.size < w2.heap.size from by omega)).trans s2_0_4
    clear s2_0_4
    go_wp2_with fail
    refine (toRecord_any x _).mono ?_
    rintro e w4 ⟨rfl, hb⟩
    have C4 := Lib.hid hb
    clear hb
    have t4 := C4.out.size
    have Bw4 := Lib.hid (Bw3.out.trans (C4.out.mono Bw3.out.size))
    have s4_0_0 := (C4.out.cell (p := ⟨w.heap.size, 0, none⟩) (show w.heap.size < w3.heap.size from by omega)).trans s3_0_0
    clear s3_0_0
    have s4_0_1 := (C4.out.cell (p := ⟨w.heap.size, 1, none⟩) (show w.heap.size < w3.heap.size from by omega)).trans s3_0_1
    clear s3_0_1
    have s4_0_2 := (C4.out.cell (p := ⟨w.heap.size, 2, none⟩) (show w.heap.size < w3.heap.size from by omega)).trans s3_0_2
    clear s3_0_2
    have s4_0_3 := (C4.out.cell (p := ⟨w.heap.size, 3, none⟩) (show w.heap.size < w3.heap.size from by omega)).trans s3_0_3
    clear s3_0_3
    have s4_0_4 := (C4.out.cell (p := ⟨w.heap.size, 4, none⟩) (show w.heap.size < w3.heap.size from by omega)).trans s3_0_4
    clear s3_0_4
    go_wp2_with fail
    refine (iRecordLine_f x _ Hmx.out H.out).mono ?_
    rintro e w5 ⟨rfl, hb⟩
    have C5 := Lib.hid hb
    clear hb
    have t5 := C5.out.size
    have Bw5 := Lib.hid (Bw4.out.trans (C5.out.mono Bw4.out.size))
    have s5_0_0 := (C5.out.cell (p := ⟨w.heap.size, 0, none⟩) (show w.heap.size < w4.heap.size from by omega)).trans s4_0_0
    clear s4_0_0
    have s5_0_1 := (C5.out.cell (p := ⟨w.heap.size, 1, none⟩) (show w.heap.size < w4.heap.size from by omega)).trans s4_0_1
    clear s4_0_1
    have s5_0_2 := (C5.out.cell (p := ⟨w.heap.size, 2, none⟩) (show w.heap.size < w4.heap.size from by omega)).trans s4_0_2
    clear s4_0_2
    have s5_0_3 := (C5.out.cell (p := ⟨w.heap.size, 3, none⟩) (show w.heap.size < w4.heap.size from by omega)).trans s4_0_3
    clear s4_0_3
    have s5_0_4 := (C5.out.cell (p := ⟨w.heap.size, 4, none⟩) (show w.heap.size < w4.heap.size from by omega)).trans s4_0_4
    clear s4_0_4
    go_wp2_with fail
    go_ret
    exact ⟨rfl, Bw5.out⟩

namespace fnExactRecordLine
open Go.ChangeShapes Go.WideShapes Go.ChangeAt Go.RowKit Go.Deep
open Go.ChangeMaps (open_string shut_string)
theorem own : ownKnob Tryd.prog.godebug = none := by kernel_rfl
theorem laid : laidOutB Tryd.prog = true := by kernel_rfl
theorem reads : Tryd.f4.params.toList.all (fun t => Tryd.prog.readableRec t && decide (t < Tryd.prog.types.size)) = true := by kernel_rfl
theorem door_met (os : Os) (args : Array Value) : laidMetH Tryd.prog Rows.fnExactRecordLineRow.laid ((World.doorLaid Tryd.prog 400 os).forCall (fun _ _ => 0) ⟨#[], args, []⟩).memory :=
  laidMetH_of_parts3 (fuel := 8) (laidMet_of_run' 8 (by kernel_rfl) (by kernel_rfl)) (by kernel_rfl) (by kernel_rfl)
set_option maxRecDepth 100000 in
theorem lifted (os : Os) (started : os.Started) (H : Type) (enc : TypeId × Value → H) :
    ReturnsInHanded {} Tryd.checked os 4 .any (fun w args => (Rows.fnExactRecordLineSpec.pre enc Tryd.prog Tryd.f4 [] false w args ∧ laidMetH Tryd.prog Rows.fnExactRecordLineRow.laid w) ∧ sizedMet enc Tryd.prog Tryd.f4 (OpenSpec.ofChange Rows.fnExactRecordLineSpec) false w args) (Rows.fnExactRecordLineSpec.post enc Tryd.prog Tryd.f4 false true false false) := by
  refine returnsInHanded_of_change_and (C := Tryd.checked) (X := fun w _ => laidMetH Tryd.prog Rows.fnExactRecordLineRow.laid w) (fun _ _ _ hh h => h.of_heap hh) own started (by kernel_rfl) Tryd.func4
    (ChangeSpec.witness_shaped (enc := enc) (C := Tryd.checked) (os := os) (X := fun w _ => laidMetH Tryd.prog Rows.fnExactRecordLineRow.laid w) false (World.doorLaid Tryd.prog 400 os) #[.agg #[.int .i64 0, .string ⟨#[]⟩, .string ⟨#[]⟩, .int .i64 0, .string ⟨#[]⟩]] 8 rfl (World.shaped_of_RefB (by kernel_rfl) (by kernel_rfl)) (by kernel_rfl) (by kernel_rfl) (by kernel_rfl) (door_met os _)) ?_
  intro W base args ds gs before hval0 hW _ _ hL _
  have htabW : Tab W := tab_of (by rw [MakeChecks.laidMetH_plain _ _ _ (by kernel_rfl)] at hL; exact hL)
  have hval : ∀ (j : Nat) t v, Tryd.f4.params[j]? = some t → args[j]? = some v → Value.okWide Tryd.prog W .any base t v := hval0
  have hW' := hW
  obtain ⟨p, q, hA0, hV, rfl, hfz, hnd⟩ := hW
  have hA : DataW.TrodAll enc Tryd.prog W 0 (fun _ => true) true Tryd.f4.params.toList args.toList ds p := hA0
  rw [Tryd.params4] at hA hval
  obtain ⟨rfl, rfl⟩ := trodVars_none hV
  have hlt : ∀ x ∈ p, x.block < W.heap.size := fun x hx => by simpa using hW'.lt x (List.mem_append.2 (.inl hx))
  clear hA0 hval0
  obtain ⟨v0, vs0, d0, ds0, p0, q0, hargs, rfl, rfl, h0, r0⟩ := trodAll_cons hA
  obtain ⟨rfl, rfl, rfl⟩ := trodAll_nil r0
  obtain rfl : args = #[v0] := by cases args; simp_all
  clear hargs
  obtain ⟨a0, rfl, z0⟩ := open_struct Tryd.underlying31 Rcd.enc _ Record_el (hval 0 31 v0 rfl rfl) h0
  refine (recordLineLaw W a0 z0 htabW).mono fun e W' ⟨he, hg⟩ => ?_
  subst he
  exact ⟨_, rfl, law_post laid reads rfl Tryd.underlying4 rfl rfl hW' hg⟩
theorem over : Rows.fnExactRecordLineRow.holds Tryd.pinned (OpenSpec.ofChange Rows.fnExactRecordLineSpec) :=
  OpenClaim.holds_of_wide 4 Tryd.f4 rfl rfl rfl rfl rfl rfl rfl ⟨rfl, rfl, rfl, rfl, rfl⟩ rfl rfl rfl rfl rfl (by kernel_rfl) Tryd.func4 facts
    (of_decide_eq_true (by kernel_rfl)) (by unfold Func.isWrapper; first | (rw [if_pos (by decide +kernel)]; kernel_rfl) | (rw [if_neg (by decide +kernel)]; exact ⟨rfl, rfl⟩))
    (fun os started H enc _ => lifted os started H enc)
theorem proved : Rows.FnExactRecordLineCardSaid :=
  Claim7.holds_tied_plain_at .later [] [.data, .data, .data] true (true, "8fdb6f0415f5832eb9ac773a81c0808de358d28ce214618cbc1653be8f2d6dc7") false
    over (fun _ h => by cases h) (by kernel_rfl) (fun _ h => by cases h) fnExactRecordLine_row_tie rfl ⟨rfl, rfl⟩ (by kernel_rfl) rfl
    (fun f fn hf hfn => by
      obtain rfl : f = 4 := Option.some.inj ((show Tryd.prog.funcNamed "loop.example/g00894/laws.FnExactRecordLine" = some 4 by kernel_rfl).symm.trans hf) |>.symm
      obtain rfl : fn = Tryd.f4 := (Option.some.inj (Tryd.func4.symm.trans hfn)).symm
      exact ⟨by kernel_rfl, fun j t ht => by
        have hm : t ∈ Tryd.f4.params.toList := Array.mem_toList_iff.2 (Array.mem_of_getElem? ht)
        have hall : (Tryd.f4.params.toList.all fun u => !Tryd.prog.wantsStandIn u) = true := by kernel_rfl
        exact (show Tryd.prog.wantsStandIn t = false by simpa using List.all_eq_true.1 hall t hm)⟩)
    (by kernel_rfl)
end fnExactRecordLine
end Go.Proofs.YtpedfjcidbopiaaDoor
