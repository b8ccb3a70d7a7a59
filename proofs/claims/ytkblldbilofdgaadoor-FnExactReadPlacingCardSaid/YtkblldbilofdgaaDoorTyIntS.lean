/-
  Contracts of the helper functions that the laws use for lists of lists of integers.
-/
import Derived.Test.YtkblldbilofdgaaDoorNest
import Derived.Test.YtkblldbilofdgaaDoorTyInt
namespace Go.Proofs.YtkblldbilofdgaaDoor
open Go.RowKit Go.ChangeShapes Go.WideShapes
set_option linter.unusedVariables false
set_option linter.unusedSimpArgs false
set_option maxRecDepth 100000

/-- A list of integers in memory: what it holds, its address, its room. -/
structure Sl where
  x : List Int
  A : Option Addr
  c : Nat
def Sl.enc (s : Sl) : List Value := [.slice s.A s.x.length s.c]
theorem Sl_enc_len (s : Sl) : (Sl.enc s).length = 1 := rfl
theorem IntS_info : (Tryd.prog.info? 24).map (fun i => (i.zero, i.size, i.bytes)) = some (some (.slice none 0 0), 1, 24) := by kernel_rfl
/-- How many numbers there are. -/
def tot (l : List (List Int)) : Nat := (l.map List.length).sum
theorem tot_cons (x : List Int) (l : List (List Int)) : tot (x :: l) = x.length + tot l := by simp [tot]
theorem tot_append (l m : List (List Int)) : tot (l ++ m) = tot l + tot m := by simp [tot]
theorem tot_le {l : List (List Int)} {x : List Int} (h : x ∈ l) : x.length ≤ tot l := by
  induction l with
  | nil => simp at h
  | cons y l ih =>
    rw [tot_cons]
    rcases List.mem_cons.1 h with rfl | h
    · omega
    · have := ih h; omega
theorem tot_take_succ (l : List (List Int)) (k : Nat) (hk : k < l.length) : tot (l.take (k + 1)) = tot (l.take k) + l[k].length := by
  rw [List.take_succ_eq_append_getElem hk, tot_append]; simp [tot]
theorem tot_take_le (l : List (List Int)) (k : Nat) : tot (l.take k) ≤ tot l := by
  have := tot_append (l.take k) (l.drop k)
  rw [List.take_append_drop] at this; omega

abbrev RdNS (w : World) (b : Nat) (A : Option Addr) (D : List Sl) : Prop := RdN w b A 1 Sl.enc Sl.A Sl.x 1 encInt D
abbrev OwnNS (w : World) (b c : Nat) (A : Option Addr) (D : List Sl) : Prop := OwnN w b c A 1 Sl.enc Sl.A Sl.x 1 encInt D
def RdS (w : World) (b : Nat) (A : Option Addr) (l : List (List Int)) : Prop := ∃ D : List Sl, D.map Sl.x = l ∧ RdNS w b A D
def OwnS (w : World) (b c : Nat) (A : Option Addr) (l : List (List Int)) : Prop := ∃ D : List Sl, D.map Sl.x = l ∧ OwnNS w b c A D
section
variable {w w' : World} {b b' c c' : Nat} {A : Option Addr} {l : List (List Int)}
theorem OwnS.nil : OwnS w b c A [] := ⟨[], rfl, OwnN.nil⟩
theorem OwnS.rd (h : OwnS w b c A l) (_ : True) : RdS w w.heap.size A l := by obtain ⟨D, hD, h⟩ := h; exact ⟨D, hD, h.rd Sl_enc_len encInt_len⟩
theorem OwnS.later (h : OwnS w b c A l) (hb : Below w.heap.size w w') : OwnS w' b c A l := by obtain ⟨D, hD, h⟩ := h; exact ⟨D, hD, h.later hb⟩
theorem OwnS.chg (h : OwnS w b c A l) (k : Chg b' c' w w') (hr : c ≤ b' ∨ c' ≤ b) : OwnS w' b c A l := by obtain ⟨D, hD, h⟩ := h; exact ⟨D, hD, h.chg k hr⟩
theorem OwnS.mono (h : OwnS w b c A l) (hb : b' ≤ b) (hc : c ≤ c') : OwnS w b' c' A l := by obtain ⟨D, hD, h⟩ := h; exact ⟨D, hD, h.mono hb hc⟩
end

/-- What the marks make of lists of such lengths. -/
def markIntSL : List Nat → Nat → List (List Int)
  | [], _ => []
  | n :: ns, q => markIntL n q :: markIntSL ns (q + n)
theorem markIntSL_len : ∀ (ns : List Nat) (q : Nat), (markIntSL ns q).length = ns.length
  | [], _ => rfl
  | n :: ns, q => by simp [markIntSL, markIntSL_len ns]
theorem markIntSL_at : ∀ (ns : List Nat) (q k : Nat) (hk : k < (markIntSL ns q).length) (hk' : k < ns.length), (markIntSL ns q)[k] = markIntL ns[k] (q + (ns.take k).sum)
  | n :: ns, q, 0, _, _ => by simp [markIntSL]
  | n :: ns, q, k + 1, hk, hk' => by
    simp only [markIntSL, List.getElem_cons_succ, List.take_succ_cons, List.sum_cons]
    rw [markIntSL_at ns (q + n) k _ (by simpa using hk')]
    congr 1; omega
end Go.Proofs.YtkblldbilofdgaaDoor
