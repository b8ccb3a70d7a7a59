import Derived.Test.YtbfhfnejppfehaaGreatMRowsSaidL30
import Derived.Test.YtbfhfnejppfehaaGreatMRowsSaidL31
import Derived.Deep.CutRange
import Derived.Test.YtbfhfnejppfehaaGreatMRowsSaidL29
import Derived.Test.YtbfhfnejppfehaaGreatMRowsSaidL13
import Derived.Test.YtbfhfnejppfehaaGreatMRowsSaidL12
import Derived.Test.YtbfhfnejppfehaaGreatMRowsSaidL08
import Derived.Test.YtbfhfnejppfehaaGreatMRowsSaidL09
import Derived.Test.YtbfhfnejppfehaaGreatMRowsSaidL19
import Derived.Test.YtbfhfnejppfehaaGreatMRowsSaidL00
import Derived.Deep.RegionLaw
/-
  The reader of choices: values with weights.
-/
namespace Go.Proofs.YtbfhfnejppfehaaGreat
open Go.RowKit
set_option linter.unusedVariables false
set_option linter.unusedSimpArgs false
set_option maxRecDepth 100000

theorem Grow.keptBy {α : Type} {enc : α → List Value} {w w' : World} {base : Nat} {e : TypeId} {size : Nat} {v : Value} {l : List α} {o : Option Nat} (h : Grow w base e size enc v l) (hg : w.grownBy w' o) (hne : ∀ g, v.ownBlock = some g → some g ≠ o) : Grow w' base e size enc v l := by
  have hlt := h.block_lt
  refine ⟨h.1, ?_⟩
  rcases h.2 with ⟨h1, h2⟩ | ⟨g, cap, cur, h1, h2, h3, h4⟩
  · exact .inl ⟨h1, h2⟩
  · have e1 : v.ownBlock = some g := by rw [h1]; rfl
    exact .inr ⟨g, cap, cur, h1, h2, (hg.block g (hlt g e1) (hne g e1)).trans h3, h4⟩
theorem Grow.turn {α : Type} {enc : α → List Value} {w w' : World} {base : Nat} {e : TypeId} {size : Nat} {v : Value} {l : List α} {g0 : Nat} (h : Grow w base e size enc v l) (hg : Turn g0 w w') (hb : g0 < base) : Grow w' base e size enc v l := by
  have hlt := h.block_lt
  refine ⟨h.1, ?_⟩
  rcases h.2 with ⟨h1, h2⟩ | ⟨g, cap, cur, h1, h2, h3, h4⟩
  · exact .inl ⟨h1, h2⟩
  · have e1 : v.ownBlock = some g := by rw [h1]; rfl
    exact .inr ⟨g, cap, cur, h1, h2, (hg.block g (hlt g e1) (by omega)).trans h3, h4⟩
theorem Turn.thenB {g : Nat} {a b c : World} (h : Turn g a b) (k : Below a.heap.size b c) : Turn g a c :=
  ⟨k.os.trans h.os, k.tape.trans h.tape, k.output.trans h.output, Nat.le_trans h.size k.size, fun i hi hr => (k.block i hi).trans (h.block i hi hr)⟩
/-- Two slices of the call's own lie apart. -/
def Apart (a b : Value) : Prop := ∀ g, a.ownBlock = some g → some g ≠ b.ownBlock
theorem Apart.swap {a b : Value} (h : Apart a b) : Apart b a := fun g hg e => h g (e.symm.trans rfl) hg.symm
theorem Apart.grow {a b a' : Value} {m : Nat} (h : Apart a b) (hb : ∀ g, b.ownBlock = some g → g < m) (ha : a'.ownBlock = a.ownBlock ∨ a'.ownBlock = some (m + 1)) : Apart a' b := by
  intro g hg e
  rcases ha with ha | ha
  · exact h g (ha ▸ hg) e
  · rw [ha] at hg
    have := hb g e.symm
    injection hg with hg
    omega
theorem RdL.tail1 {w : World} {b g o : Nat} {y : Int} {l : List Int} (h : RdL w b (some ⟨g, o, none⟩) 1 encInt (y :: l)) : RdL w b (some ⟨g, o + 1, none⟩) 1 encInt l := by
  rcases h with h | ⟨g', off, hA, hg, hc⟩
  · cases h
  · injection hA with hA; injection hA with h1 h2
    subst h1 h2
    refine .inr ⟨g, o + 1, rfl, hg, fun i hi j u hu => ?_⟩
    have := hc (i + 1) (by simpa using hi) j u (by simpa using hu)
    rw [show o + 1 + (i * 1 + j) = o + ((i + 1) * 1 + j) by omega]
    exact this
theorem RdL.set0 {w : World} {b g : Nat} {x y : Int} {l : List Int} (h : RdL w b (some ⟨g, 0, none⟩) 1 encInt (y :: l)) : RdL (w.setCell ⟨g, 0, none⟩ (.int .i64 x)) b (some ⟨g, 0, none⟩) 1 encInt (x :: l) := by
  rcases h with h | ⟨g', off, hA, hg, hc⟩
  · cases h
  · injection hA with hA; injection hA with h1 h2
    subst h1 h2
    refine .inr ⟨g, 0, rfl, hg, fun i hi j u hu => ?_⟩
    have hj : j = 0 := by
      have := (List.getElem?_eq_some_iff.1 hu).1
      simp [encInt] at this; omega
    subst hj
    cases i with
    | zero =>
      have h0 := hc 0 (by simp) 0 _ rfl
      simp [encInt] at hu h0
      subst hu
      exact World.cell?_setCell_same _ _ _ (by simpa using h0)
    | succ i =>
      have h0 := hc (i + 1) (by simpa using hi) 0 u (by simpa using hu)
      rw [World.cell?_setCell_other _ _ _ _ (fun e => by injection e with _ e; omega)]
      exact h0
theorem RdL.setOther {w : World} {b : Nat} {A : Option Addr} {l : List Int} {p : Addr} {u : Value} (h : RdL w b A 1 encInt l) (hne : ∀ g off, A = some ⟨g, off, none⟩ → g ≠ p.block) : RdL (w.setCell p u) b A 1 encInt l := by
  rcases h with h | ⟨g, off, rfl, hg, hc⟩
  · exact .inl h
  · exact .inr ⟨g, off, rfl, hg, fun i hi j v hv => (World.cell?_setCell_other _ _ _ _ (fun e => hne g off rfl (congrArg Addr.block e).symm)).trans (hc i hi j v hv)⟩
theorem RdL.turn {w w' : World} {b g : Nat} {A : Option Addr} {l : List Int} (h : RdL w b A 1 encInt l) (ht : Turn g w w') (hb : b ≤ w.heap.size) (hne : ∀ q off, A = some ⟨q, off, none⟩ → q ≠ g) : RdL w' b A 1 encInt l := by
  rcases h with h | ⟨q, off, rfl, hg, hc⟩
  · exact .inl h
  · exact .inr ⟨q, off, rfl, hg, fun i hi j v hv => (ht.cell (p := ⟨q, _, none⟩) (Nat.lt_of_lt_of_le hg hb) (hne q off rfl)).trans (hc i hi j v hv)⟩
theorem Grow.lo {α : Type} {enc : α → List Value} {w : World} {base base' : Nat} {e : TypeId} {size : Nat} {v : Value} {l : List α} (h : Grow w base e size enc v l) (hb : base' ≤ base) : Grow w base' e size enc v l := by
  refine ⟨h.1, ?_⟩
  rcases h.2 with h1 | ⟨g, cap, cur, h1, h2, h3⟩
  · exact .inl h1
  · exact .inr ⟨g, cap, cur, h1, Nat.le_trans hb h2, h3⟩
theorem frozen_of_turn {g b : Nat} {w w' : World} (h : Turn g w w') (hb : b < w.heap.size) (hne : b ≠ g) (i : Nat) : w'.frozen? ⟨b, i, none⟩ = w.frozen? ⟨b, i, none⟩ := by
  have := h.block b hb (by omega)
  simp only [World.frozen?, this]
end Go.Proofs.YtbfhfnejppfehaaGreat

/-
  The cycles of a row, as the reference makes them.
-/
namespace Go.Proofs.YtbfhfnejppfehaaGreat
open Go.RowKit
open CycT (Cy Part Run)
set_option linter.unusedVariables false
set_option linter.unusedSimpArgs false
set_option maxRecDepth 100000

section
variable {P : Program} {ops : Array Oper} {rest : List Oper} {o : Oper} {a : Act} {Q : Exit → Act → World → Prop} {w : World}
/-- wpList_pushAll; the new slice's block is the old one's, or new. -/
theorem wpList_pushAllA {α : Type} (hgd : o.guard = none) (s x : Operand) (t : TypeId) (ho : o.op = .call { callee := .builtin .append, args := #[s, x], argTypes := #[t, t] })
    (base : Nat) (e : TypeId) (z : Value) (size bytes : Nat) (enc : α → List Value)
    (ht : P.underlying t = some (.slice e)) (hinfo : (P.info? e).map (fun i => (i.zero, i.size, i.bytes)) = some (some z, size, bytes)) (hzs : z.cells.size = size) (hsz : 0 < size)
    (v : Value) (l ys : List α) (A : Option Addr) (c b : Nat) (hs : a.eval s = v) (hx : a.eval x = .slice A ys.length c) (hr : RdL w b A size enc ys) (hne : 0 < ys.length)
    (hown : Grow w base e size enc v l) (henc : ∀ x, (enc x).length = size) (h1 : ∀ x, ∀ u ∈ enc x, u.oneCell' = true)
    (hn : l.length + ys.length ≤ 1000000000) (hb : bytes ≤ 1000) (hbase : base ≤ w.heap.size)
    (h : ∀ v' w', Grow w' base e size enc v' (l ++ ys) → Below base w w' → w.grownBy w' v.ownBlock → (v'.ownBlock = v.ownBlock ∨ v'.ownBlock = some w.heap.size) → wpList P ops Q rest (a.put o.dst v') w') :
    wpList P ops Q (o :: rest) a w := by
  obtain ⟨i, hi, hzz⟩ := Option.map_eq_some_iff.1 hinfo
  simp only [Prod.mk.injEq] at hzz
  obtain ⟨hz, hs', hb'⟩ := hzz
  have hmul : (l.length + ys.length) * bytes ≤ 1000000000 * 1000 := Nat.mul_le_mul hn hb
  obtain ⟨g, off, hA, _, _⟩ := hr.at (k := 0) hne
  subst hA
  refine wpList_append_own_at (P := P) _ hgd s x t ho base e i z size bytes ht hi hz hs' hb' hzs hsz v l.length (flat enc l) hs hown ⟨g, off, none⟩ ys.length c (flat enc ys) hx (flat_len henc ys)
    (fun j u hu => by
      obtain ⟨i, hi, k, rfl, hk⟩ := flat_inv henc ys j u hu
      obtain ⟨g', off', hA', _, hcell⟩ := hr.at hi
      simp only [Option.some.injEq, Addr.mk.injEq, and_true] at hA'
      obtain ⟨rfl, rfl⟩ := hA'
      have e : (⟨g, off, none⟩ : Addr).add (i * size + k) = ⟨g, off + (i * size + k), none⟩ := by unfold Addr.add; split <;> simp_all
      rw [e]; exact hcell k u hk) (fun u hu => by
      obtain ⟨j, hj⟩ := List.getElem?_of_mem hu
      obtain ⟨i, hi, k, _, hk⟩ := flat_inv henc ys j u hj
      exact h1 _ u (List.mem_of_getElem? hk)) (by unfold maxLen; omega) (by omega) hbase ?_
  intro v' w' hown' hg _ hblk
  have hr : ∀ k, v.ownBlock = some k → base ≤ k := fun k hk => by
    rcases hown.2 with ⟨rfl, _⟩ | ⟨g, cap, cur, rfl, hbg, _⟩
    · simp [Value.ownBlock] at hk
    · simp [Value.ownBlock] at hk; omega
  refine h v' w' ?_ ?_ hg hblk
  · unfold Grow
    rw [List.length_append, flat_append]
    exact hown'
  · exact (Below.refl base w).grown hg hbase hr
end
theorem Apart.growL {a b a' : Value} {m : Nat} (h : Apart a b) (hb : ∀ g, b.ownBlock = some g → g < m) (ha : a'.ownBlock = a.ownBlock ∨ a'.ownBlock = some m) : Apart a' b := by
  intro g hg e
  rcases ha with ha | ha
  · exact h g (ha ▸ hg) e
  · rw [ha] at hg
    have := hb g e.symm
    injection hg with hg
    omega
/-- The head of a slice. -/
structure Hd where
  A : Option Addr
  n : Nat
  c : Nat
def Hd.enc (h : Hd) : List Value := [.slice h.A h.n h.c]
theorem Hd_len (h : Hd) : h.enc.length = 1 := rfl
theorem IntsHd_info : (Tryz.prog.info? 24).map (fun i => (i.zero, i.size, i.bytes)) = some (some (.slice none 0 0), 1, 24) := by kernel_rfl
/-- Where a row sends a place. -/
def rowF (a : ByteArray) (i : Nat) : Nat := (bat a i - 49).toNat
def up (l : List Nat) : List Int := l.map fun x : Nat => (x : Int) + 1
theorem up_len (l : List Nat) : (up l).length = l.length := List.length_map _
theorem up_app (l m : List Nat) : up (l ++ m) = up l ++ up m := List.map_append
theorem up_mem {l : List Nat} {x : Nat} : hasUpTo (up l) (up l).length ((x : Int) + 1) ↔ x ∈ l := by
  constructor
  · rintro ⟨j, hj, _, e⟩
    have hj' : j < l.length := by rwa [up_len] at hj
    have : (up l)[j] = ((l[j] : Nat) : Int) + 1 := by simp [up]
    rw [this] at e
    have : l[j] = x := by omega
    exact this ▸ List.getElem_mem hj'
  · intro h
    obtain ⟨j, hj, e⟩ := List.getElem_of_mem h
    exact ⟨j, by rw [up_len]; exact hj, by rw [up_len]; exact hj, by simp [up, e]⟩
theorem rowF_lt {a : ByteArray} (h : isRow a) : ∀ i, i < a.size → rowF a i < a.size := fun i hi => by have := h.2.2.1 i hi; unfold rowF; omega
theorem rowF_inj {a : ByteArray} (h : isRow a) : ∀ i j, i < a.size → j < a.size → rowF a i = rowF a j → i = j := fun i j hi hj e => h.inj hi hj (by have := h.2.2.1 i hi; have := h.2.2.1 j hj; unfold rowF at e; omega)
theorem rowF_bat {a : ByteArray} (h : isRow a) {i : Nat} (hi : i < a.size) : bat a i - 48 = ((rowF a i : Nat) : Int) + 1 := by have := h.2.2.1 i hi; unfold rowF; omega
/-- The heads of the cycles' slices. -/
def HdsOf (hs : List Hd) (C : List Cy) : Prop := hs.map Hd.n = C.map fun c => c.2.length + 1
theorem HdsOf.push {hs : List Hd} {C : List Cy} (h : HdsOf hs C) (x : Hd) (c : Cy) (e : x.n = c.2.length + 1) : HdsOf (hs ++ [x]) (C ++ [c]) := by unfold HdsOf at *; simp [h, e]
theorem HdsOf.len {hs : List Hd} {C : List Cy} (h : HdsOf hs C) : hs.length = C.length := by have := congrArg List.length h; simpa using this
theorem cy_le (C : List Cy) : C.length ≤ (CycT.flat C).length := by
  induction C with
  | nil => simp [CycT.flat]
  | cons c C ih => rw [CycT.flat_cons]; simp [CycT.Cy.all]; omega
def lenV : Value → Nat
  | .slice _ n _ => n
  | _ => 0
end Go.Proofs.YtbfhfnejppfehaaGreat

/-
  The rows of a touch (the reference's side), exactly.
-/
namespace Go.Proofs.YtbfhfnejppfehaaGreat
open Go.RowKit
set_option linter.unusedVariables false
set_option linter.unusedSimpArgs false
set_option maxRecDepth 100000

/-- The rows of the first k leads of a touch. -/
noncomputable def rowsTo (n : Nat) (x : List ByteArray) (b s t : ByteArray) : Nat → List ByteArray
  | 0 => []
  | k + 1 => rowsTo n x b s t k ++ walkL (chF n) (headS n x b s t k) x x.length
theorem rowsTo_len (n : Nat) (x : List ByteArray) (b s t : ByteArray) : ∀ k, (rowsTo n x b s t k).length = k * x.length
  | 0 => by simp [rowsTo]
  | k + 1 => by simp only [rowsTo]; rw [List.length_append, rowsTo_len n x b s t k, walkL_len, Nat.add_mul, Nat.one_mul]
theorem rowsTo_row {n : Nat} (h3 : 3 ≤ n) (h8 : n ≤ 8) (x : List ByteArray) (b s t : ByteArray) : ∀ k, ∀ r ∈ rowsTo n x b s t k, rowN n r
  | 0 => by simp [rowsTo]
  | k + 1 => by
    intro r hr
    simp only [rowsTo, List.mem_append] at hr
    rcases hr with hr | hr
    · exact rowsTo_row h3 h8 x b s t k r hr
    · obtain ⟨i, hi, rfl⟩ := List.getElem_of_mem hr
      rw [walkL_at]
      exact after_rowN (fun r hr c _ => chF_row h3 h8 hr c) (headS_row h3 h8 x b s t k) i
/-- The rows of a touch. -/
noncomputable def rowsL9 (n : Nat) (x : List ByteArray) (b s t : ByteArray) : List ByteArray := rowsTo n x b s t t.size





set_option maxHeartbeats 3200000 in
theorem l9Rows_any (nm : ByteArray) (n : Nat) (x : List ByteArray) (A : Option Addr) (c : Nat) (b s t : ByteArray) (w : World) (h : RdL w w.heap.size A 1 encString x) (h3 : 3 ≤ n) (h8 : n ≤ 8) (hl : x.length ≤ 1000) (h0 : 0 < x.length) (hcap : x.length ≤ c) (hx : ∀ c ∈ x, c.size ≤ 1048576) (hb : b.size ≤ 1048576) (hs : s.size ≤ 1048576) (ht : t.size ≤ 1000) (ht0 : 0 < t.size) :
    Calls Tryz.prog 77 #[.agg #[Value.string nm, .int .i64 (n : Int), .slice A x.length c], .agg #[Value.string b, .string s], .string t] w fun e w' => ∃ A2 c2, e = .returned (.slice A2 (rowsL9 n x b s t).length c2) ∧ (rowsL9 n x b s t).length ≤ c2 ∧ OwnL w' w.heap.size w'.heap.size A2 1 encString (rowsL9 n x b s t) ∧ Below w.heap.size w w' := by
  have hxs := Lib.hid hx
  have hHe : Hid (∀ W, RdL W W.heap.size A 1 encString x → Calls Tryz.prog 118 #[.agg #[Value.string nm, .int .i64 (n : Int), .slice A x.length c], .agg #[Value.string b, .string s], .string t] W fun e w' => ∃ A2 c2, e = .returned (.slice A2 (t.size + 1) c2) ∧ t.size + 1 ≤ c2 ∧ OwnL w' W.heap.size w'.heap.size A2 1 encString (headsL n x b s t (t.size + 1)) ∧ Below W.heap.size W w') := Lib.hid (fun W hW => l9HeadsC_any nm n x A c b s t W hW h3 h8 (by omega) h0 hcap hx hb hs (by omega))
  have hHl : Hid ((headsL n x b s t (t.size + 1)).length = t.size + 1) := Lib.hid (by unfold headsL; rw [walkL_len])
  have hHa : Hid (∀ (k : Nat) (hk : k < (headsL n x b s t (t.size + 1)).length), (headsL n x b s t (t.size + 1))[k] = headS n x b s t k) := Lib.hid (fun k hk => walkL_at _ _ _ _ k hk)
  clear hx hb hs
  have hW : ∃ W : World, Hid ((w.alloc (.cells #[Value.string nm, .int .i64 (n : Int), .slice A x.length c] 54)).alloc (.cells #[Value.string b, .string s] 56) = W) ∧ Hid (Below w.heap.size w W) ∧ w.heap.size + 2 ≤ W.heap.size ∧ Hid (Cells W w.heap.size 3 (fun i => (#[Value.string nm, .int .i64 (n : Int), .slice A x.length c] : Array Value).getD i undef)) ∧ Hid (Cells W (w.heap.size + 1) 2 (fun i => (#[Value.string b, .string s] : Array Value).getD i undef)) := by
    have z1 : w.heap.size + 1 = (w.alloc (.cells #[Value.string nm, .int .i64 (n : Int), .slice A x.length c] 54)).heap.size := by simp
    refine ⟨_, Lib.hid rfl, Lib.hid (((Below.refl _ _).alloc (Nat.le_refl _) _).alloc (by simp) _), by simp, Lib.hid ?_, Lib.hid ?_⟩
    · exact (Cells.newD _ #[Value.string nm, .int .i64 (n : Int), .slice A x.length c] _).alloc _
    · rw [z1]; exact Cells.newD _ #[Value.string b, .string s] _
  obtain ⟨W, hWe, hWb, hWs, hM, hK⟩ := hW
  have H := Lib.hid (show RdL W W.heap.size A 1 encString x from (h.below hWb.out (Nat.le_refl _)).more hWb.out.size)
  clear h
  have u0 : W.cell? ⟨w.heap.size, 0, none⟩ = some (.string nm) := hM.out.cell (i := 0) (by omega)
  have u1 : W.cell? ⟨w.heap.size, 1, none⟩ = some (.int .i64 (n : Int)) := hM.out.cell (i := 1) (by omega)
  have u2 : W.cell? ⟨w.heap.size, 2, none⟩ = some (.slice A x.length c) := hM.out.cell (i := 2) (by omega)
  have u3 : W.cell? ⟨w.heap.size + 1, 0, none⟩ = some (.string b) := hK.out.cell (i := 0) (by omega)
  have u4 : W.cell? ⟨w.heap.size + 1, 1, none⟩ = some (.string s) := hK.out.cell (i := 1) (by omega)
  go_enter Tryz.func77, Tryz.ntmps77
  go_wp2_with fail
  rw [hWe.out]
  clear hWe
  go_wp2_with (go_at_call 118; refine (hHe.out W H.out).mono ?_; rintro e w1 ⟨A2, c2, rfl, hc2, ho2, hb2⟩; obtain ⟨g2, hA2, hg21, hg22, hg23⟩ := ho2.someStr (by rw [hHl.out]; omega); subst hA2; have HO2 := Lib.hid ho2; have HB2 := Lib.hid hb2; clear ho2 hb2)
  have hsz0 := hWb.out.size
  have hz2 := HB2.out.size
  obtain ⟨L, hL⟩ : ∃ L, Hid (headsL n x b s t (t.size + 1) = L) := ⟨_, Lib.hid rfl⟩
  rw [hL.out] at HO2 hHl hHa
  have HTl : Hid ((rowsL9 n x b s t).length = t.size * x.length) := Lib.hid (rowsTo_len _ _ _ _ _ _)
  have hprod : t.size * x.length ≤ 1000000 := Nat.mul_le_mul ht hl
  go_loopw [7, 20] (fun v i wr => ∃ k : Nat, k ≤ t.size ∧ i = .int .i64 (k : Int) ∧ Grow wr w1.heap.size 9 1 encString v (rowsTo n x b s t k) ∧ Below w1.heap.size w1 wr) (fun _ i _ => t.size - (intOf i).toNat)
  case atStart => exact ⟨0, by omega, by rfl, Grow.nil, Below.refl _ _⟩
  case round =>
    obtain ⟨k, hk, rfl, hg, hbl⟩ := hrel
    have HG := Lib.hid hg
    have HB := Lib.hid hbl
    have hzr := hbl.size
    clear hg hbl
    have hRl : (rowsTo n x b s t k).length ≤ 1000000 := by
      rw [rowsTo_len]; exact Nat.le_trans (Nat.mul_le_mul_right _ hk) hprod
    by_cases hlt : k < t.size
    · have hkL : k < L.length := by rw [hHl.out]; omega
      have hc0 := (HB.out.cell (p := ⟨g2, k, none⟩) (show g2 < w1.heap.size by omega)).trans (HO2.out.cellStr k hkL).1
      rw [hHa.out k hkL] at hc0
      have v2 := ((HB2.out.trans (HB.out.mono hz2)).cell (p := ⟨w.heap.size, 2, none⟩) (show w.heap.size < W.heap.size by omega)).trans u2
      have hHr := Lib.hid (headS_row h3 h8 x b s t k)
      have hY : Hid (rowsTo n x b s t (k + 1) = rowsTo n x b s t k ++ walkL (chF n) (headS n x b s t k) x x.length) := Lib.hid rfl
      obtain ⟨r, hr⟩ : ∃ r, Hid (headS n x b s t k = r) := ⟨_, Lib.hid rfl⟩
      rw [hr.out] at hc0 hHr hY
      have hYl : Hid ((walkL (chF n) r x x.length).length = x.length) := Lib.hid (walkL_len _ _ _ _)
      have HLd : Hid (∀ W', Below w1.heap.size w1 W' → Calls Tryz.prog 119 #[.slice A x.length c, .string r] W' fun e w' => ∃ A2 c2, e = .returned (.tuple #[.slice A2 (walkL (chF n) r x x.length).length c2, .string (after (chF n) r x x.length)]) ∧ OwnL w' W'.heap.size w'.heap.size A2 1 encString (walkL (chF n) r x x.length) ∧ Below W'.heap.size W' w') := Lib.hid (fun W' hb' => by
        have hbW := HB2.out.trans (hb'.mono hz2)
        exact l4Lead_any n r x A c W' ((H.out.below hbW (Nat.le_refl _)).more hbW.size) h3 h8 hHr.out (by omega) hxs.out)
      obtain ⟨E, hE⟩ : ∃ E, Hid (after (chF n) r x x.length = E) := ⟨_, Lib.hid rfl⟩
      obtain ⟨Y, hYe⟩ : ∃ Y, Hid (walkL (chF n) r x x.length = Y) := ⟨_, Lib.hid rfl⟩
      rw [hYe.out] at hY hYl
      rw [hYe.out, hE.out] at HLd
      have hY0 : 0 < Y.length := by have := hYl.out; omega
      have hY1 : Y.length ≤ 1000 := by have := hYl.out; omega
      obtain ⟨R, hR⟩ : ∃ R, Hid (rowsTo n x b s t k = R) := ⟨_, Lib.hid rfl⟩
      rw [hR.out] at HG hY hRl
      go_wp2_with (first
        | (go_at_call 119; refine (HLd.out wr HB.out).mono ?_; rintro e w4 ⟨A4, c4, rfl, ho4, hb4⟩; have HO4 := Lib.hid ho4; have HB4 := Lib.hid hb4; have hz4 := hb4.size; have HG4 := Lib.hid (HG.out.later hb4); clear ho4 hb4)
        | (at_builtin; refine wpList_pushAllA rfl (.tmp 31) (.tmp 32) 25 rfl w1.heap.size 9 _ 1 16 encString rfl String_info rfl (by omega) _ R Y A4 c4 _ rfl rfl (HO4.out.rd encString_len) hY0 HG4.out encString_len (by simp [encString, Value.oneCell']) (by omega) (by omega) (by omega) ?_; intro v5 w5 g5 b5 gb5 k5; have HG5 := Lib.hid g5; have HB5 := Lib.hid ((HB.out.trans (HB4.out.mono hzr)).trans b5); clear g5 b5 gb5 k5))
      go_roundw
      case rel => exact ⟨k + 1, by omega, by go_num, by rw [hY.out]; exact HG5.out, HB5.out⟩
      case measure => simp [intOf]; omega
    · obtain rfl : k = t.size := by omega
      obtain ⟨A5, c5, rfl, ho5⟩ := HG.out.own encString_len
      have HO5 := Lib.hid ho5
      have hcp := HG.out.capN'
      clear ho5
      go_wp2
      go_ret
      exact ⟨A5, c5, rfl, hcp, HO5.out.mono (by omega) (Nat.le_refl _), hWb.out.trans ((HB2.out.trans (HB.out.mono hz2)).mono hsz0)⟩
end Go.Proofs.YtbfhfnejppfehaaGreat

/-
  Words of our own that know no program: a call inside a region that draws.
-/
namespace Go.Proofs.YtbfhfnejppfehaaGreat
open Go.RowKit
set_option linter.unusedVariables false
set_option linter.unusedSimpArgs false

section
variable {P : Program} {ops : Array Oper} {o : Oper} {a : Act} {K : Act → World → Prop} {Q : Exit → Act → World → Prop} {w : World} {E : Prop}
/-- A call inside a region that draws, by a contract that names its result only so far. -/
theorem step_callsX (hg : o.guard = none) (f : FuncId) {xs : Array Operand} {ts : Array TypeId} (ho : o.op = .call { callee := .value (.func f), args := xs, argTypes := ts }) (vals : Array Value) {R : Value → World → Prop} (henter : (execOp a.eval o).run P w = .ok (.enter f vals) w)
    (h : Calls P f vals w fun e w' => ∃ v, e = .returned v ∧ R v w') (hK : ∀ v w', R v w' → K (a.put o.dst v) w') : if Region.wanted o (yielded ops a.tmps) = true then Oper.wp P o a w K Q else E := by
  rw [if_pos (by simp [Region.wanted, hg])]
  unfold Oper.wp
  rw [henter, Oper.upon_enter]
  exact h.mono fun e w' ⟨v, he, hr⟩ => by subst he; exact hK v w' hr
end
end Go.Proofs.YtbfhfnejppfehaaGreat
