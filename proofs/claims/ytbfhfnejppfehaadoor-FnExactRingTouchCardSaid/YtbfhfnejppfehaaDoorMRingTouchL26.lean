import Derived.Test.YtbfhfnejppfehaaDoorMRingTouchL25
import Derived.Test.YtbfhfnejppfehaaDoorMRingTouchL11
import Derived.Test.YtbfhfnejppfehaaDoorMRingTouchL10
import Derived.Test.YtbfhfnejppfehaaDoorMRingTouchL05
import Derived.Test.YtbfhfnejppfehaaDoorMRingTouchL06
import Derived.Test.YtbfhfnejppfehaaDoorMRingTouchL24
/-
  The cycles of a row, as the reference makes them.
-/
namespace Go.Proofs.YtbfhfnejppfehaaDoor
open Go.RowKit
open CycT (Cy Part Run)
set_option linter.unusedVariables false
set_option linter.unusedSimpArgs false
set_option maxRecDepth 100000

section
variable {P : Program} {ops : Array Oper} {rest : List Oper} {o : Oper} {a : Act} {Q : Exit → Act → World → Prop} {w : World}
/-- wpList_pushAll; the new slice's block is the old one's, or new. -/
theorem wpList_pushAllA {α : Type} (hgd : o.guard = none) (s x : Operand) (t : TypeId) (ho : o.op = .call { callee := .builtin .append, args := #[s, x], argTypes := #[t, t] })
    (base : Nat) (e : TypeId) (z : Value) (size bytes : Nat) (enc : α → List Value)
    (ht : P.underlying t = some (.slice e)) (hinfo : (P.info? e).map (fun i => (i.zero, i.size, i.bytes)) = some (some z, size, bytes)) (hzs : z.cells.size = size) (hsz : 0 < size)
    (v : Value) (l ys : List α) (A : Option Addr) (c b : Nat) (hs : a.eval s = v) (hx : a.eval x = .slice A ys.length c) (hr : RdL w b A size enc ys) (hne : 0 < ys.length)
    (hown : Grow w base e size enc v l) (henc : ∀ x, (enc x).length = size) (h1 : ∀ x, ∀ u ∈ enc x, u.oneCell' = true)
    (hn : l.length + ys.length ≤ 1000000000) (hb : bytes ≤ 1000) (hbase : base ≤ w.heap.size)
    (h : ∀ v' w', Grow w' base e size enc v' (l ++ ys) → Below base w w' → w.grownBy w' v.ownBlock → (v'.ownBlock = v.ownBlock ∨ v'.ownBlock = some w.heap.size) → wpList P ops Q rest (a.put o.dst v') w') :
    wpList P ops Q (o :: rest) a w := by
  obtain ⟨i, hi, hzz⟩ := Option.map_eq_some_iff.1 hinfo
  simp only [Prod.mk.injEq] at hzz
  obtain ⟨hz, hs', hb'⟩ := hzz
  have hmul : (l.length + ys.length) * bytes ≤ 1000000000 * 1000 := Nat.mul_le_mul hn hb
  obtain ⟨g, off, hA, _, _⟩ := hr.at (k := 0) hne
  subst hA
  refine wpList_append_own_at (P := P) _ hgd s x t ho base e i z size bytes ht hi hz hs' hb' hzs hsz v l.length (flat enc l) hs hown ⟨g, off, none⟩ ys.length c (flat enc ys) hx (flat_len henc ys)
    (fun j u hu => by
      obtain ⟨i, hi, k, rfl, hk⟩ := flat_inv henc ys j u hu
      obtain ⟨g', off', hA', _, hcell⟩ := hr.at hi
      simp only [Option.some.injEq, Addr.mk.injEq, and_true] at hA'
      obtain ⟨rfl, rfl⟩ := hA'
      have e : (⟨g, off, none⟩ : Addr).add (i * size + k) = ⟨g, off + (i * size + k), none⟩ := by unfold Addr.add; split <;> simp_all
      rw [e]; exact hcell k u hk) (fun u hu => by
      obtain ⟨j, hj⟩ := List.getElem?_of_mem hu
      obtain ⟨i, hi, k, _, hk⟩ := flat_inv henc ys j u hj
      exact h1 _ u (List.mem_of_getElem? hk)) (by unfold maxLen; omega) (by omega) hbase ?_
  intro v' w' hown' hg _ hblk
  have hr : ∀ k, v.ownBlock = some k → base ≤ k := fun k hk => by
    rcases hown.2 with ⟨rfl, _⟩ | ⟨g, cap, cur, rfl, hbg, _⟩
    · simp [Value.ownBlock] at hk
    · simp [Value.ownBlock] at hk; omega
  refine h v' w' ?_ ?_ hg hblk
  · unfold Grow
    rw [List.length_append, flat_append]
    exact hown'
  · exact (Below.refl base w).grown hg hbase hr
end
theorem Apart.growL {a b a' : Value} {m : Nat} (h : Apart a b) (hb : ∀ g, b.ownBlock = some g → g < m) (ha : a'.ownBlock = a.ownBlock ∨ a'.ownBlock = some m) : Apart a' b := by
  intro g hg e
  rcases ha with ha | ha
  · exact h g (ha ▸ hg) e
  · rw [ha] at hg
    have := hb g e.symm
    injection hg with hg
    omega
/-- The head of a slice. -/
structure Hd where
  A : Option Addr
  n : Nat
  c : Nat
def Hd.enc (h : Hd) : List Value := [.slice h.A h.n h.c]
theorem Hd_len (h : Hd) : h.enc.length = 1 := rfl
theorem IntsHd_info : (Tryd.prog.info? 42).map (fun i => (i.zero, i.size, i.bytes)) = some (some (.slice none 0 0), 1, 24) := by kernel_rfl
/-- Where a row sends a place. -/
def rowF (a : ByteArray) (i : Nat) : Nat := (bat a i - 49).toNat
def up (l : List Nat) : List Int := l.map fun x : Nat => (x : Int) + 1
theorem up_len (l : List Nat) : (up l).length = l.length := List.length_map _
theorem up_app (l m : List Nat) : up (l ++ m) = up l ++ up m := List.map_append
theorem up_mem {l : List Nat} {x : Nat} : hasUpTo (up l) (up l).length ((x : Int) + 1) ↔ x ∈ l := by
  constructor
  · rintro ⟨j, hj, _, e⟩
    have hj' : j < l.length := by rwa [up_len] at hj
    have : (up l)[j] = ((l[j] : Nat) : Int) + 1 := by simp [up]
    rw [this] at e
    have : l[j] = x := by omega
    exact this ▸ List.getElem_mem hj'
  · intro h
    obtain ⟨j, hj, e⟩ := List.getElem_of_mem h
    exact ⟨j, by rw [up_len]; exact hj, by rw [up_len]; exact hj, by simp [up, e]⟩
theorem rowF_lt {a : ByteArray} (h : isRow a) : ∀ i, i < a.size → rowF a i < a.size := fun i hi => by have := h.2.2.1 i hi; unfold rowF; omega
theorem rowF_inj {a : ByteArray} (h : isRow a) : ∀ i j, i < a.size → j < a.size → rowF a i = rowF a j → i = j := fun i j hi hj e => h.inj hi hj (by have := h.2.2.1 i hi; have := h.2.2.1 j hj; unfold rowF at e; omega)
theorem rowF_bat {a : ByteArray} (h : isRow a) {i : Nat} (hi : i < a.size) : bat a i - 48 = ((rowF a i : Nat) : Int) + 1 := by have := h.2.2.1 i hi; unfold rowF; omega
/-- The heads of the cycles' slices. -/
def HdsOf (hs : List Hd) (C : List Cy) : Prop := hs.map Hd.n = C.map fun c => c.2.length + 1
theorem HdsOf.push {hs : List Hd} {C : List Cy} (h : HdsOf hs C) (x : Hd) (c : Cy) (e : x.n = c.2.length + 1) : HdsOf (hs ++ [x]) (C ++ [c]) := by unfold HdsOf at *; simp [h, e]
theorem HdsOf.len {hs : List Hd} {C : List Cy} (h : HdsOf hs C) : hs.length = C.length := by have := congrArg List.length h; simpa using this
theorem cy_le (C : List Cy) : C.length ≤ (CycT.flat C).length := by
  induction C with
  | nil => simp [CycT.flat]
  | cons c C ih => rw [CycT.flat_cons]; simp [CycT.Cy.all]; omega
def lenV : Value → Nat
  | .slice _ n _ => n
  | _ => 0
end Go.Proofs.YtbfhfnejppfehaaDoor

/-
  The rows of a touch (the reference's side), exactly.
-/
namespace Go.Proofs.YtbfhfnejppfehaaDoor
open Go.RowKit
set_option linter.unusedVariables false
set_option linter.unusedSimpArgs false
set_option maxRecDepth 100000

/-- The rows of the first k leads of a touch. -/
noncomputable def rowsTo (n : Nat) (x : List ByteArray) (b s t : ByteArray) : Nat → List ByteArray
  | 0 => []
  | k + 1 => rowsTo n x b s t k ++ walkL (chF n) (headS n x b s t k) x x.length
theorem rowsTo_len (n : Nat) (x : List ByteArray) (b s t : ByteArray) : ∀ k, (rowsTo n x b s t k).length = k * x.length
  | 0 => by simp [rowsTo]
  | k + 1 => by simp only [rowsTo]; rw [List.length_append, rowsTo_len n x b s t k, walkL_len, Nat.add_mul, Nat.one_mul]
theorem rowsTo_row {n : Nat} (h3 : 3 ≤ n) (h8 : n ≤ 8) (x : List ByteArray) (b s t : ByteArray) : ∀ k, ∀ r ∈ rowsTo n x b s t k, rowN n r
  | 0 => by simp [rowsTo]
  | k + 1 => by
    intro r hr
    simp only [rowsTo, List.mem_append] at hr
    rcases hr with hr | hr
    · exact rowsTo_row h3 h8 x b s t k r hr
    · obtain ⟨i, hi, rfl⟩ := List.getElem_of_mem hr
      rw [walkL_at]
      exact after_rowN (fun r hr c _ => chF_row h3 h8 hr c) (headS_row h3 h8 x b s t k) i
/-- The rows of a touch. -/
noncomputable def touchL (n : Nat) (x : List ByteArray) (b s t : ByteArray) : List ByteArray := rowsTo n x b s t t.size





end Go.Proofs.YtbfhfnejppfehaaDoor
