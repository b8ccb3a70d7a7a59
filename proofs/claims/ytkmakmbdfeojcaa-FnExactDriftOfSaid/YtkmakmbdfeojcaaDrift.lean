/-
  DriftOf of the program returns what the reference's returns, for all arguments: no condition.
-/
import Derived.Test.YtkmakmbdfeojcaaL1c
import Derived.Test.YtkmakmbdfeojcaaRow
namespace Go.Proofs.Ytkmakmbdfeojcaa
open Go.RowKit
set_option linter.unusedVariables false
set_option linter.unusedSimpArgs false
set_option maxRecDepth 100000

def driftS (want rung : ByteArray) : ByteArray := timesS rung (turnS want)
theorem two_bytes {a b : ByteArray} (h : two a b) : ∀ i : Nat, i < (turnS a).size → 49 ≤ bat (turnS a) i ∧ bat (turnS a) i < 49 + b.size := by
  intro i hi
  rw [size_turn] at hi
  rw [bat_turn a h.1.2.1 i hi]
  obtain ⟨j, hj, e⟩ := h.1.hit (v := 49 + i) (by omega) (by omega)
  have := h.1.place hj
  rw [e, show (49 : Int) + i - 48 = i + 1 from by omega] at this
  have := h.2.2
  omega
theorem sDrift_t (a b : ByteArray) (w : World) (h : two a b) :
    Calls Try.prog 15 #[.string a, .string b] w fun e w' => e = .returned (.tuple #[.string (driftS a b), .bool true]) ∧ Below w.heap.size w w' := by
  have H := Lib.hid h
  have e1 := B_t h
  clear h
  go_enter Try.func15, Try.ntmps15
  go_wp2_with (first | (go_at_call 63; refine (l1Two_any _ _ _).mono ?_; rintro e w' ⟨rfl, n1, rfl⟩) | (go_at_call 65; refine (l1Turn_any _ _ H.out.1).mono ?_; rintro e w' ⟨rfl, hb1⟩) | (go_at_call 64; refine (l1Times_any _ _ _ (by rw [size_turn]; have := H.out.1.2.1; omega) (by have := H.out.2.1.2.1; omega) (two_bytes H.out)).mono ?_; rintro e w' ⟨rfl, rfl⟩))
  go_ret2
  exact ⟨rfl, (below_drewN (Below.refl _ _) n1).trans hb1⟩
theorem sDrift_f (a b : ByteArray) (w : World) (h : ¬ two a b) :
    Calls Try.prog 15 #[.string a, .string b] w fun e w' => e = .returned (.tuple #[.string ⟨#[]⟩, .bool false]) ∧ Below w.heap.size w w' := by
  have H := Lib.hid h
  have e1 := B_f h
  clear h
  go_enter Try.func15, Try.ntmps15
  go_wp2_with (go_at_call 63; refine (l1Two_any _ _ _).mono ?_; rintro e w' ⟨rfl, n1, rfl⟩)
  go_ret2
  exact ⟨rfl, below_drewN (Below.refl _ _) _⟩
theorem iDrift_t (a b : ByteArray) (w : World) (h : two a b) :
    Calls Try.prog 16 #[.string a, .string b] w fun e w' => e = .returned (.tuple #[.string (driftS a b), .bool true]) ∧ Below w.heap.size w w' := by
  have H := Lib.hid h
  have e1 := B_t h.1
  have e2 : B (isRowOf a.size b) = true := B_t ⟨by have := h.2.2; omega, h.2.1⟩
  have h8 := h.1.2.1
  clear h
  go_enter Try.func16, Try.ntmps16
  go_wp2_with (first | (go_at_call 66; refine (goodRow_any _ _).mono ?_; rintro e w' ⟨rfl, rfl⟩) | (go_at_call 67; refine (isRowOf_any _ _ _).mono ?_; rintro e w' ⟨rfl, rfl⟩) | (go_at_call 69; refine (turned_any _ _ H.out.1).mono ?_; rintro e w' ⟨rfl, hb1⟩) | (go_at_call 68; refine (times_any _ _ _ (by rw [size_turn]; have := H.out.1.2.1; omega) (two_bytes H.out)).mono ?_; rintro e w' ⟨rfl, hb2⟩))
  go_ret2
  exact ⟨rfl, hb1.trans (hb2.mono hb1.size)⟩
theorem iDrift_f (a b : ByteArray) (w : World) (h : ¬ two a b) :
    Calls Try.prog 16 #[.string a, .string b] w fun e w' => e = .returned (.tuple #[.string ⟨#[]⟩, .bool false]) ∧ Below w.heap.size w w' := by
  by_cases h1 : isRow a
  · have e1 := B_t h1
    have e2 : B (isRowOf a.size b) = false := B_f (fun x => h ⟨h1, x.2, by have := x.1; omega⟩)
    have h8 := h1.2.1
    clear h h1
    go_enter Try.func16, Try.ntmps16
    go_wp2_with (first | (go_at_call 66; refine (goodRow_any _ _).mono ?_; rintro e w' ⟨rfl, rfl⟩) | (go_at_call 67; refine (isRowOf_any _ _ _).mono ?_; rintro e w' ⟨rfl, rfl⟩))
    go_ret2
    exact ⟨rfl, Below.refl _ _⟩
  · have e1 := B_f h1
    clear h h1
    go_enter Try.func16, Try.ntmps16
    go_wp2_with (first | (go_at_call 66; refine (goodRow_any _ _).mono ?_; rintro e w' ⟨rfl, rfl⟩) | (go_at_call 67; refine (isRowOf_any _ _ _).mono ?_; rintro e w' ⟨rfl, rfl⟩))
    go_ret2
    exact ⟨rfl, Below.refl _ _⟩

theorem driftLaw (a b : ByteArray) (w : World) (ha : a.size ≤ 9223372036854775807) (hb : b.size ≤ 9223372036854775807) :
    Calls Try.prog 3 #[.string a, .string b] w fun e w' => e = .returned (.bool true) ∧ Below w.heap.size w w' := by
  by_cases c1 : 1048576 < a.size
  · go_enter Try.func3, Try.ntmps3
    go_wp2
    go_ret
    exact ⟨rfl, Below.refl _ _⟩
  by_cases c2 : 1048576 < b.size
  · go_enter Try.func3, Try.ntmps3
    go_wp2
    go_ret
    exact ⟨rfl, Below.refl _ _⟩
  by_cases h : two a b
  · have H := Lib.hid h
    clear h
    go_enter Try.func3, Try.ntmps3
    go_wp2_with (first | (go_at_call 15; refine (sDrift_t _ _ _ H.out).mono ?_; rintro e w' ⟨rfl, hb1⟩) | (go_at_call 16; refine (iDrift_t _ _ _ H.out).mono ?_; rintro e w' ⟨rfl, hb2⟩))
    go_ret
    exact ⟨rfl, hb1.trans (hb2.mono hb1.size)⟩
  · have H := Lib.hid h
    clear h
    go_enter Try.func3, Try.ntmps3
    go_wp2_with (first | (go_at_call 15; refine (sDrift_f _ _ _ H.out).mono ?_; rintro e w' ⟨rfl, hb1⟩) | (go_at_call 16; refine (iDrift_f _ _ _ H.out).mono ?_; rintro e w' ⟨rfl, hb2⟩))
    go_ret
    exact ⟨rfl, hb1.trans (hb2.mono hb1.size)⟩

namespace fnExactDriftOf
open Go.ChangeShapes Go.WideShapes Go.ChangeAt Go.RowKit
open Go.ChangeMaps (open_string shut_string)
theorem own : ownKnob Try.prog.godebug = none := by kernel_rfl
theorem laid : laidOutB Try.prog = true := by kernel_rfl
theorem reads : Try.f3.params.toList.all (fun t => Try.prog.readableRec t && decide (t < Try.prog.types.size)) = true := by kernel_rfl
set_option maxRecDepth 100000 in
theorem lifted (os : Os) (started : os.Started) (H : Type) (enc : TypeId × Value → H) :
    ReturnsInHanded {} Try.checked os 3 .any (Rows.fnExactDriftOfSpec.pre6 enc Try.prog Try.f3 Rows.fnExactDriftOfRow.domain false) (Rows.fnExactDriftOfSpec.post enc Try.prog Try.f3 false true false false) := by
  refine returnsInHanded_of_change (C := Try.checked) own started (by kernel_rfl) Try.func3
    (ChangeSpec.witness6 (enc := enc) (C := Try.checked) false ⟨#[], #[.string ByteArray.empty, .string ByteArray.empty], []⟩ 8 (by kernel_rfl) (by kernel_rfl) (by kernel_rfl) (by kernel_rfl)) ?_
  intro W base args ds gs before hval0 hW hcnd _
  have hval : ∀ (j : Nat) t v, Try.f3.params[j]? = some t → args[j]? = some v → Value.okWide Try.prog W .any base t v := hval0
  have hW' := hW
  obtain ⟨p, q, hA0, hV, rfl, hfz, hnd⟩ := hW
  have hA : DataW.TrodAll enc Try.prog W 0 (fun _ => true) true Try.f3.params.toList args.toList ds p := hA0
  rw [Try.params3] at hA hval
  obtain ⟨rfl, rfl⟩ := trodVars_none hV
  have hlt : ∀ x ∈ p, x.block < W.heap.size := fun x hx => by simpa using hW'.lt x (List.mem_append.2 (.inl hx))
  clear hA0 hval0
  obtain ⟨v0, vs0, d0, ds0, p0, q0, hargs, rfl, rfl, h0, r0⟩ := trodAll_cons hA
  obtain ⟨v1, vs1, d1, ds1, p1, q1, rfl, rfl, rfl, h1, r1⟩ := trodAll_cons r0
  obtain ⟨rfl, rfl, rfl⟩ := trodAll_nil r1
  obtain rfl : args = #[v0, v1] := by cases args; simp_all
  clear hargs
  obtain ⟨a0, rfl, rfl, rfl, w0⟩ := open_string Try.underlying9 (hval 0 9 v0 rfl rfl) h0
  obtain ⟨a1, rfl, rfl, rfl, w1⟩ := open_string Try.underlying9 (hval 1 9 v1 rfl rfl) h1
  refine (driftLaw a0 a1 W w0 w1).mono fun e W' ⟨he, hg⟩ => ?_
  subst he
  exact ⟨_, rfl, law_post laid reads rfl Try.underlying4 rfl rfl hW' hg⟩
theorem over : Rows.fnExactDriftOfRow.holds Try.pinned (OpenSpec.ofChange Rows.fnExactDriftOfSpec) :=
  OpenClaim.holds_of_wide 3 Try.f3 rfl rfl rfl rfl rfl rfl rfl ⟨rfl, rfl, rfl, rfl, rfl⟩ rfl rfl rfl rfl rfl (by kernel_rfl) Try.func3 (by kernel_rfl)
    (of_decide_eq_true (by kernel_rfl)) (by unfold Func.isWrapper; first | (rw [if_pos (by decide +kernel)]; kernel_rfl) | (rw [if_neg (by decide +kernel)]; exact ⟨rfl, rfl⟩))
    (fun os started H enc _ => lifted os started H enc)
theorem proved : Rows.FnExactDriftOfSaid := over
end fnExactDriftOf
end Go.Proofs.Ytkmakmbdfeojcaa
