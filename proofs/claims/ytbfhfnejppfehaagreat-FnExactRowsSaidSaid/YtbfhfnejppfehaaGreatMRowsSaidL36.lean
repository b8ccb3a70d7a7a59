import Derived.Test.YtbfhfnejppfehaaGreatMRowsSaidL03
import Derived.Deep.Slices
import Derived.Test.YtbfhfnejppfehaaGreatMRowsSaidL08
/-
  A slice inside a value, opened: it reads as a list.
-/
namespace Go.Proofs.YtbfhfnejppfehaaGreat
open Go.RowKit Go.ChangeShapes Go.WideShapes Go.Deep
set_option linter.unusedVariables false
set_option linter.unusedSimpArgs false

section
variable {H : Type} {enc : TypeId × Value → H} {P : Program} {w : World} {base : Nat} {spare : Nat → Bool} {held : Bool}
/-- A slice inside a value, opened: it reads as a list. -/
theorem open_list_cs {α : Type} {t e : TypeId} {n : Nat} {cs0 : List Value} {y : DataW H × List MemPlace} (ht : P.underlying t = some (.slice e)) (C : Nat) (hC : P.cellsOf e = C) (hC0 : 0 < C)
    (en : α → List Value) (ok : α → Prop) (hel : ∀ (n : Nat) (cs : List Value) (y : DataW H × List MemPlace), DataW.trod enc P w base spare held n e cs = some y → ∃ x : α, cs = en x ∧ ok x)
    (h : DataW.trod enc P w base spare held n t cs0 = some y) :
    ∃ (A : Option Addr) (l : List α) (c : Nat), cs0 = [.slice A l.length c] ∧ l.length ≤ maxLen ∧ RdL w w.heap.size A C en l ∧ ∀ x ∈ l, ok x := by
  rcases open_slice ht h with ⟨h0, _⟩ | ⟨a, len', cap', m, n, D, Pl, hcs, _, hl, hm, hmm, _, hi⟩
  · exact ⟨none, [], 0, h0, by simp, .inl rfl, by simp⟩
  · have hle : len' ≤ m := by rw [hmm]; split <;> omega
    obtain ⟨l, hlen, hq⟩ := choose_list (fun i x => (∀ (j : Nat) (u : Value), (en x)[j]? = some u → w.cell? (a.add (i * C + j)) = some u) ∧ ok x) len' (fun i hi' => by
      obtain ⟨cs', hc, ht'⟩ := hi i (by omega)
      obtain ⟨x, rfl, hok⟩ := hel _ _ _ ht'
      rw [hC] at hc
      obtain ⟨_, hcl, hat⟩ := World.cells?_some hc
      refine ⟨x, fun j u hu => ?_, hok⟩
      have hj : j < C := by rw [← hcl]; exact (List.getElem?_eq_some_iff.1 hu).1
      rw [← Go.Deep.add_add, hat j hj, hu])
    subst hlen
    refine ⟨some a, l, cap', hcs, by omega, ?_, fun x hx => ?_⟩
    · rcases Nat.eq_zero_or_pos l.length with h0 | hpos
      · exact .inl (List.eq_nil_of_length_eq_zero h0)
      · obtain ⟨cs', hc, ht'⟩ := hi 0 (by omega)
        obtain ⟨x, rfl, _⟩ := hel _ _ _ ht'
        rw [hC] at hc
        obtain ⟨_, hcl, hat⟩ := World.cells?_some hc
        have h00 := hat 0 hC0
        have hadd : (a.add (0 * C)).add 0 = a := by rw [Nat.zero_mul]; unfold Addr.add; simp
        rw [hadd, List.getElem?_eq_getElem (by omega)] at h00
        have hlt := World.block_lt_of_cell? _ _ h00
        obtain ⟨g, off, sp⟩ := a
        have hsp : sp = none := by
          unfold World.cell? at h00
          split at h00
          · cases sp with
            | none => rfl
            | some _ => simp at h00
          · cases h00
        subst hsp
        refine .inr ⟨g, off, rfl, hlt, fun i hi' j u hu => ?_⟩
        have := (hq i hi').1 j u hu
        have e : (⟨g, off, none⟩ : Addr).add (i * C + j) = ⟨g, off + (i * C + j), none⟩ := by unfold Addr.add; split <;> simp_all
        rw [e] at this
        exact this
    · obtain ⟨i, hi', rfl⟩ := List.getElem_of_mem hx
      exact (hq i hi').2
end

end Go.Proofs.YtbfhfnejppfehaaGreat

/-
  A law's arguments, opened: a method, its calls, a band.
-/
namespace Go.Proofs.YtbfhfnejppfehaaGreat
open Go.ChangeShapes Go.WideShapes Go.ChangeAt Go.RowKit Go.Deep
set_option linter.unusedVariables false
set_option linter.unusedSimpArgs false
set_option maxRecDepth 100000

theorem Method_el {H : Type} {en : TypeId × Value → H} {w : World} {base : Nat} {spare : Nat → Bool} {held : Bool} (n : Nat) (cs : List Value) (y : DataW H × List MemPlace) (h : DataW.trod en Tryz.prog w base spare held n 45 cs = some y) :
    ∃ x : Mth, cs = Mth.enc x ∧ (x.Fits ∧ RdL w w.heap.size x.A 1 encString x.x ∧ (-9223372036854775808 ≤ x.stage ∧ x.stage ≤ 9223372036854775807)) := by
  obtain ⟨xs, m, _, _, hlen, hxl, hg⟩ := DataW.trod_struct Tryz.underlying45 h
  have hC : Tryz.prog.cellsOf 45 = 3 := by kernel_rfl
  have hC_string : Tryz.prog.cellsOf 9 = 1 := by kernel_rfl
  have hC_int : Tryz.prog.cellsOf 3 = 1 := by kernel_rfl
  have hC_sl : Tryz.prog.cellsOf 25 = 1 := by kernel_rfl
  rw [hC] at hlen
  match cs, hlen, xs, hxl with
  | [c0, c1, c2], _, [x0, x1, x2], _ =>
    have g0 := hg 0 _ rfl
    simp only [hC_string, List.drop_zero, List.drop_succ_cons, List.take_succ_cons, List.take_zero, List.getElem?_cons_zero, List.getElem?_cons_succ] at g0
    obtain ⟨a0, e0, _, s0⟩ := DataW.trod_string Tryz.underlying9 g0
    injection e0 with e0 _
    subst e0
    have g1 := hg 1 _ rfl
    simp only [hC_int, List.drop_zero, List.drop_succ_cons, List.take_succ_cons, List.take_zero, List.getElem?_cons_zero, List.getElem?_cons_succ] at g1
    obtain ⟨a1, e1, _, s1⟩ := DataW.trod_int Tryz.underlying3 g1
    injection e1 with e1 _
    subst e1
    have g2 := hg 2 _ rfl
    simp only [hC_sl, List.drop_zero, List.drop_succ_cons, List.take_succ_cons, List.take_zero, List.getElem?_cons_zero, List.getElem?_cons_succ] at g2
    obtain ⟨A, l, c, e2, hl, hr, hs⟩ := open_list_cs Tryz.underlying25 1 (by kernel_rfl) (by omega) encString (String_small 9223372036854775807) String_el g2
    injection e2 with e2 _
    subst e2
    refine ⟨⟨a0, a1, l, A, c⟩, rfl, ⟨?_, ?_, hs⟩, hr, ?_⟩
    · unfold maxLen at s0; simp only; omega
    · unfold maxLen at hl; simp only; omega
    · simp [Lit.wf, IntKind.min, IntKind.max, IntKind.signed, IntKind.bits] at s1; simp only; omega
theorem Calls_el {H : Type} {en : TypeId × Value → H} {w : World} {base : Nat} {spare : Nat → Bool} {held : Bool} (n : Nat) (cs : List Value) (y : DataW H × List MemPlace) (h : DataW.trod en Tryz.prog w base spare held n 47 cs = some y) :
    ∃ x : ByteArray × ByteArray, cs = [.string x.1, .string x.2] ∧ ((x.1.size : Int) ≤ 9223372036854775807 ∧ (x.2.size : Int) ≤ 9223372036854775807) := by
  obtain ⟨xs, m, _, _, hlen, hxl, hg⟩ := DataW.trod_struct Tryz.underlying47 h
  have hC : Tryz.prog.cellsOf 47 = 2 := by kernel_rfl
  have hC_string : Tryz.prog.cellsOf 9 = 1 := by kernel_rfl
  rw [hC] at hlen
  match cs, hlen, xs, hxl with
  | [c0, c1], _, [x0, x1], _ =>
    have g0 := hg 0 _ rfl
    simp only [hC_string, List.drop_zero, List.drop_succ_cons, List.take_succ_cons, List.take_zero, List.getElem?_cons_zero, List.getElem?_cons_succ] at g0
    obtain ⟨a0, e0, _, s0⟩ := DataW.trod_string Tryz.underlying9 g0
    injection e0 with e0 _
    subst e0
    have g1 := hg 1 _ rfl
    simp only [hC_string, List.drop_zero, List.drop_succ_cons, List.take_succ_cons, List.take_zero, List.getElem?_cons_zero, List.getElem?_cons_succ] at g1
    obtain ⟨a1, e1, _, s1⟩ := DataW.trod_string Tryz.underlying9 g1
    injection e1 with e1 _
    subst e1
    refine ⟨⟨a0, a1⟩, rfl, ?_, ?_⟩
    · unfold maxLen at s0; simp only; omega
    · unfold maxLen at s1; simp only; omega
end Go.Proofs.YtbfhfnejppfehaaGreat
