/-
  SkillOf of the program returns what the reference's returns, for all arguments: no condition.
-/
import Derived.Test.YtpedfjcidbopiaaSkill
namespace Go.Proofs.Ytpedfjcidbopiaa
open Go.RowKit
set_option linter.unusedVariables false
set_option linter.unusedSimpArgs false
set_option maxRecDepth 100000


theorem sSkillOf_t (l : List Pk) (who : List Int) (A A' : Option Addr) (c c' : Nat) (n : Int) (w : World) (h : RdP w w.heap.size A l) (h' : RdL w w.heap.size A' 1 encInt who) (hl : l.length ≤ 1048576) (hc : l.length ≤ c) (hs : ∀ x ∈ l, Person_small 1048576 x) (hl' : who.length ≤ 1048576) (hc' : who.length ≤ c') (hp : placingP l n who) :
    Calls Try.prog 15 #[.slice A l.length c, .int .i64 n, .slice A' who.length c'] w fun e w' => e = .returned (.tuple #[.int .i64 (skTo l who who.length), .bool true]) ∧ Below w.heap.size w w' := by
  have H := Lib.hid h
  have H' := Lib.hid h'
  have Hs := Lib.hid hs
  have e1 := B_t hp
  have HP := Lib.hid hp
  clear h h' hs hp
  go_enter Try.func15, Try.ntmps15
  go_wp2_with (first | (go_at_call 57; refine (sPlacing_any l who A A' c c' n _ H.out H'.out hl hc Hs.out hl' hc').mono ?_; rintro e w1 ⟨rfl, hb1⟩) | (go_at_call 61; refine (l27Skill_any l who A A' c c' n _ ((H.out.below hb1 (Nat.le_refl _)).more hb1.size) ((H'.out.below hb1 (Nat.le_refl _)).more hb1.size) hl hl' HP.out.1 HP.out.2.1 HP.out.2.2).mono ?_; rintro e w2 ⟨rfl, rfl⟩))
  go_ret2
  exact ⟨rfl, hb1⟩
theorem sSkillOf_f (l : List Pk) (who : List Int) (A A' : Option Addr) (c c' : Nat) (n : Int) (w : World) (h : RdP w w.heap.size A l) (h' : RdL w w.heap.size A' 1 encInt who) (hl : l.length ≤ 1048576) (hc : l.length ≤ c) (hs : ∀ x ∈ l, Person_small 1048576 x) (hl' : who.length ≤ 1048576) (hc' : who.length ≤ c') (hp : ¬ placingP l n who) :
    Calls Try.prog 15 #[.slice A l.length c, .int .i64 n, .slice A' who.length c'] w fun e w' => e = .returned (.tuple #[.int .i64 0, .bool false]) ∧ Below w.heap.size w w' := by
  have H := Lib.hid h
  have H' := Lib.hid h'
  have Hs := Lib.hid hs
  have e1 := B_f hp
  clear h h' hs hp
  go_enter Try.func15, Try.ntmps15
  go_wp2_with (go_at_call 57; refine (sPlacing_any l who A A' c c' n _ H.out H'.out hl hc Hs.out hl' hc').mono ?_; rintro e w1 ⟨rfl, hb1⟩)
  go_ret2
  exact ⟨rfl, hb1⟩
theorem iSkillOf_t (l : List Pk) (who : List Int) (A A' : Option Addr) (c c' : Nat) (n : Int) (w : World) (h : RdP w w.heap.size A l) (h' : RdL w w.heap.size A' 1 encInt who) (hl : l.length ≤ 1048576) (hc : l.length ≤ c) (hs : ∀ x ∈ l, Person_small 1048576 x) (hl' : who.length ≤ 1048576) (hc' : who.length ≤ c') (hp : placingP l n who) :
    Calls Try.prog 14 #[.slice A l.length c, .int .i64 n, .slice A' who.length c'] w fun e w' => e = .returned (.tuple #[.int .i64 (skTo l who who.length), .bool true]) ∧ Below w.heap.size w w' := by
  have H := Lib.hid h
  have H' := Lib.hid h'
  have Hs := Lib.hid hs
  have e1 := B_t hp
  have HP := Lib.hid hp
  clear h h' hs hp
  go_enter Try.func14, Try.ntmps14
  go_wp2_with (first | (go_at_call 19; refine (iPlacing_any l who A A' c c' n _ H.out H'.out hl hc Hs.out hl' hc').mono ?_; rintro e w1 ⟨rfl, hb1⟩) | (go_at_call 60; refine (skillOf_any l who A A' c c' n _ ((H.out.below hb1 (Nat.le_refl _)).more hb1.size) ((H'.out.below hb1 (Nat.le_refl _)).more hb1.size) hl hl' HP.out.1 HP.out.2.1 HP.out.2.2).mono ?_; rintro e w2 ⟨rfl, rfl⟩))
  go_ret2
  exact ⟨rfl, hb1⟩
theorem iSkillOf_f (l : List Pk) (who : List Int) (A A' : Option Addr) (c c' : Nat) (n : Int) (w : World) (h : RdP w w.heap.size A l) (h' : RdL w w.heap.size A' 1 encInt who) (hl : l.length ≤ 1048576) (hc : l.length ≤ c) (hs : ∀ x ∈ l, Person_small 1048576 x) (hl' : who.length ≤ 1048576) (hc' : who.length ≤ c') (hp : ¬ placingP l n who) :
    Calls Try.prog 14 #[.slice A l.length c, .int .i64 n, .slice A' who.length c'] w fun e w' => e = .returned (.tuple #[.int .i64 0, .bool false]) ∧ Below w.heap.size w w' := by
  have H := Lib.hid h
  have H' := Lib.hid h'
  have Hs := Lib.hid hs
  have e1 := B_f hp
  clear h h' hs hp
  go_enter Try.func14, Try.ntmps14
  go_wp2_with (go_at_call 19; refine (iPlacing_any l who A A' c c' n _ H.out H'.out hl hc Hs.out hl' hc').mono ?_; rintro e w1 ⟨rfl, hb1⟩)
  go_ret2
  exact ⟨rfl, hb1⟩
end Go.Proofs.Ytpedfjcidbopiaa
