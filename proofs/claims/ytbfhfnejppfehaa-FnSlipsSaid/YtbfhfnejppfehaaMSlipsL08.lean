import Derived.Test.YtbfhfnejppfehaaMSlipsL04
import Derived.Test.YtbfhfnejppfehaaMSlipsL07
import Derived.Test.YtbfhfnejppfehaaMSlipsL05
import Derived.Test.YtbfhfnejppfehaaMSlipsL03
import Derived.Test.YtbfhfnejppfehaaRows
import Derived.StillTailTactics
import Derived.Deep.RegionHeld3
import Derived.Lib.SliceRun
/-
  The cycles of a row, as the reference makes them.
-/
namespace Go.Proofs.Ytbfhfnejppfehaa
open Go.RowKit
open CycT (Cy Part Run)
set_option linter.unusedVariables false
set_option linter.unusedSimpArgs false
set_option maxRecDepth 100000

section
variable {P : Program} {ops : Array Oper} {rest : List Oper} {o : Oper} {a : Act} {Q : Exit → Act → World → Prop} {w : World}
/-- wpList_pushAll; the new slice's block is the old one's, or new. -/
theorem wpList_pushAllA {α : Type} (hgd : o.guard = none) (s x : Operand) (t : TypeId) (ho : o.op = .call { callee := .builtin .append, args := #[s, x], argTypes := #[t, t] })
    (base : Nat) (e : TypeId) (z : Value) (size bytes : Nat) (enc : α → List Value)
    (ht : P.underlying t = some (.slice e)) (hinfo : (P.info? e).map (fun i => (i.zero, i.size, i.bytes)) = some (some z, size, bytes)) (hzs : z.cells.size = size) (hsz : 0 < size)
    (v : Value) (l ys : List α) (A : Option Addr) (c b : Nat) (hs : a.eval s = v) (hx : a.eval x = .slice A ys.length c) (hr : RdL w b A size enc ys) (hne : 0 < ys.length)
    (hown : Grow w base e size enc v l) (henc : ∀ x, (enc x).length = size) (h1 : ∀ x, ∀ u ∈ enc x, u.oneCell' = true)
    (hn : l.length + ys.length ≤ 1000000000) (hb : bytes ≤ 1000) (hbase : base ≤ w.heap.size)
    (h : ∀ v' w', Grow w' base e size enc v' (l ++ ys) → Below base w w' → w.grownBy w' v.ownBlock → (v'.ownBlock = v.ownBlock ∨ v'.ownBlock = some w.heap.size) → wpList P ops Q rest (a.put o.dst v') w') :
    wpList P ops Q (o :: rest) a w := by
  obtain ⟨i, hi, hzz⟩ := Option.map_eq_some_iff.1 hinfo
  simp only [Prod.mk.injEq] at hzz
  obtain ⟨hz, hs', hb'⟩ := hzz
  have hmul : (l.length + ys.length) * bytes ≤ 1000000000 * 1000 := Nat.mul_le_mul hn hb
  obtain ⟨g, off, hA, _, _⟩ := hr.at (k := 0) hne
  subst hA
  refine wpList_append_own_at (P := P) _ hgd s x t ho base e i z size bytes ht hi hz hs' hb' hzs hsz v l.length (flat enc l) hs hown ⟨g, off, none⟩ ys.length c (flat enc ys) hx (flat_len henc ys)
    (fun j u hu => by
      obtain ⟨i, hi, k, rfl, hk⟩ := flat_inv henc ys j u hu
      obtain ⟨g', off', hA', _, hcell⟩ := hr.at hi
      simp only [Option.some.injEq, Addr.mk.injEq, and_true] at hA'
      obtain ⟨rfl, rfl⟩ := hA'
      have e : (⟨g, off, none⟩ : Addr).add (i * size + k) = ⟨g, off + (i * size + k), none⟩ := by unfold Addr.add; split <;> simp_all
      rw [e]; exact hcell k u hk) (fun u hu => by
      obtain ⟨j, hj⟩ := List.getElem?_of_mem hu
      obtain ⟨i, hi, k, _, hk⟩ := flat_inv henc ys j u hj
      exact h1 _ u (List.mem_of_getElem? hk)) (by unfold maxLen; omega) (by omega) hbase ?_
  intro v' w' hown' hg _ hblk
  have hr : ∀ k, v.ownBlock = some k → base ≤ k := fun k hk => by
    rcases hown.2 with ⟨rfl, _⟩ | ⟨g, cap, cur, rfl, hbg, _⟩
    · simp [Value.ownBlock] at hk
    · simp [Value.ownBlock] at hk; omega
  refine h v' w' ?_ ?_ hg hblk
  · unfold Grow
    rw [List.length_append, flat_append]
    exact hown'
  · exact (Below.refl base w).grown hg hbase hr
end
theorem Apart.growL {a b a' : Value} {m : Nat} (h : Apart a b) (hb : ∀ g, b.ownBlock = some g → g < m) (ha : a'.ownBlock = a.ownBlock ∨ a'.ownBlock = some m) : Apart a' b := by
  intro g hg e
  rcases ha with ha | ha
  · exact h g (ha ▸ hg) e
  · rw [ha] at hg
    have := hb g e.symm
    injection hg with hg
    omega
/-- The head of a slice. -/
structure Hd where
  A : Option Addr
  n : Nat
  c : Nat
def Hd.enc (h : Hd) : List Value := [.slice h.A h.n h.c]
theorem Hd_len (h : Hd) : h.enc.length = 1 := rfl
theorem IntsHd_info : (Try.prog.info? 87).map (fun i => (i.zero, i.size, i.bytes)) = some (some (.slice none 0 0), 1, 24) := by kernel_rfl
/-- Where a row sends a place. -/
def rowF (a : ByteArray) (i : Nat) : Nat := (bat a i - 49).toNat
def up (l : List Nat) : List Int := l.map fun x : Nat => (x : Int) + 1
theorem up_len (l : List Nat) : (up l).length = l.length := List.length_map _
theorem up_app (l m : List Nat) : up (l ++ m) = up l ++ up m := List.map_append
theorem up_mem {l : List Nat} {x : Nat} : hasUpTo (up l) (up l).length ((x : Int) + 1) ↔ x ∈ l := by
  constructor
  · rintro ⟨j, hj, _, e⟩
    have hj' : j < l.length := by rwa [up_len] at hj
    have : (up l)[j] = ((l[j] : Nat) : Int) + 1 := by simp [up]
    rw [this] at e
    have : l[j] = x := by omega
    exact this ▸ List.getElem_mem hj'
  · intro h
    obtain ⟨j, hj, e⟩ := List.getElem_of_mem h
    exact ⟨j, by rw [up_len]; exact hj, by rw [up_len]; exact hj, by simp [up, e]⟩
theorem rowF_lt {a : ByteArray} (h : isRow a) : ∀ i, i < a.size → rowF a i < a.size := fun i hi => by have := h.2.2.1 i hi; unfold rowF; omega
theorem rowF_inj {a : ByteArray} (h : isRow a) : ∀ i j, i < a.size → j < a.size → rowF a i = rowF a j → i = j := fun i j hi hj e => h.inj hi hj (by have := h.2.2.1 i hi; have := h.2.2.1 j hj; unfold rowF at e; omega)
theorem rowF_bat {a : ByteArray} (h : isRow a) {i : Nat} (hi : i < a.size) : bat a i - 48 = ((rowF a i : Nat) : Int) + 1 := by have := h.2.2.1 i hi; unfold rowF; omega
/-- The heads of the cycles' slices. -/
def HdsOf (hs : List Hd) (C : List Cy) : Prop := hs.map Hd.n = C.map fun c => c.2.length + 1
theorem HdsOf.push {hs : List Hd} {C : List Cy} (h : HdsOf hs C) (x : Hd) (c : Cy) (e : x.n = c.2.length + 1) : HdsOf (hs ++ [x]) (C ++ [c]) := by unfold HdsOf at *; simp [h, e]
theorem HdsOf.len {hs : List Hd} {C : List Cy} (h : HdsOf hs C) : hs.length = C.length := by have := congrArg List.length h; simpa using this
theorem cy_le (C : List Cy) : C.length ≤ (CycT.flat C).length := by
  induction C with
  | nil => simp [CycT.flat]
  | cons c C ih => rw [CycT.flat_cons]; simp [CycT.Cy.all]; omega
def lenV : Value → Nat
  | .slice _ n _ => n
  | _ => 0
end Go.Proofs.Ytbfhfnejppfehaa

/-
  Contracts: valid changes, methods and calls (both sides).
-/
namespace Go.Proofs.Ytbfhfnejppfehaa
open Go.RowKit
set_option linter.unusedVariables false
set_option linter.unusedSimpArgs false
set_option maxRecDepth 100000

theorem dgL_len (c : ByteArray) : (dgL c).length = c.size := by simp [dgL]
theorem dgL_at (c : ByteArray) (i : Nat) (hi : i < (dgL c).length) : (dgL c)[i] = dg c i := by simp [dgL]
theorem apP_dg (n : Int) (c : ByteArray) : apP n (dgL c) ↔ 0 < c.size ∧ (c.size : Int) ≠ n ∧ dg c 0 % 2 ≠ 0 ∧ dg c (c.size - 1) % 2 = n % 2 ∧ dg c (c.size - 1) ≤ n ∧ ∀ i : Nat, i + 1 < c.size → dg c i < dg c (i + 1) ∧ (dg c (i + 1) - dg c i) % 2 ≠ 0 := by
  unfold apP
  constructor
  · rintro ⟨h, h1, h2, h3, h4, h5⟩
    simp only [dgL_at, dgL_len] at h h1 h2 h3 h4 h5
    exact ⟨h, h1, h2, h3, h4, h5⟩
  · rintro ⟨h, h1, h2, h3, h4, h5⟩
    refine ⟨by rw [dgL_len]; exact h, ?_⟩
    simp only [dgL_at, dgL_len]
    exact ⟨h1, h2, h3, h4, h5⟩
theorem change_iff {n : Int} {c : ByteArray} (h : inB n 3 8) : (0 < c.size ∧ (c.size : Int) ≤ n - 2 ∧ chainP n c) ↔ (digsP c ∧ apP n (dgL c)) := by
  obtain ⟨hn3, hn8⟩ := h
  rw [apP_dg]
  constructor
  · rintro ⟨h0, h1, h2, h3⟩
    have hs : ∀ i, i < c.size → 1 ≤ dg c i ∧ dg c i ≤ n := fun i hi => by
      have hb := steps_bound i (fun j hj => h2 j (by omega))
      obtain ⟨a1, a2, _⟩ := h2 i hi
      omega
    have hl : dgP c c.size = dg c (c.size - 1) := by
      obtain ⟨m, hm⟩ : ∃ m, c.size = m + 1 := ⟨c.size - 1, by omega⟩
      rw [hm]; rfl
    rw [hl] at h3
    have hz := h2 0 h0
    have hlast := hs (c.size - 1) (by omega)
    refine ⟨fun i hi => by have := hs i hi; unfold dg at this; omega, h0, by omega, ?_, by omega, hlast.2, fun i hi => ?_⟩
    · have := hz.2.2; simp only [dgP] at this; omega
    · obtain ⟨a1, _, a3⟩ := h2 (i + 1) hi
      exact ⟨a1, a3⟩
  · rintro ⟨hd, h0, h1, h2, h3, h4, h5⟩
    have hge : ∀ i : Nat, i < c.size → (i : Int) + 1 ≤ dg c i ∧ dg c i % 2 = ((i : Int) + 1) % 2 := fun i => by
      induction i with
      | zero => intro _; have := hd 0 h0; unfold dg at h2 ⊢; constructor <;> omega
      | succ i ih =>
        intro hi
        obtain ⟨a1, a2⟩ := ih (by omega)
        obtain ⟨a3, a4⟩ := h5 i hi
        push_cast
        constructor <;> omega
    have hle : ∀ m i : Nat, i + m = c.size - 1 → dg c i ≤ n := fun m => by
      induction m with
      | zero => intro i hi; rw [show i = c.size - 1 from by omega]; exact h4
      | succ m ih =>
        intro i hi
        have := ih (i + 1) (by omega)
        have := (h5 i (by omega)).1
        omega
    have hl := hge (c.size - 1) (by omega)
    have hlP : dgP c c.size = dg c (c.size - 1) := by
      obtain ⟨m, hm⟩ : ∃ m, c.size = m + 1 := ⟨c.size - 1, by omega⟩
      rw [hm]; rfl
    refine ⟨h0, by omega, fun i hi => ⟨?_, hle (c.size - 1 - i) i (by omega), ?_⟩, by rw [hlP]; omega⟩
    · cases i with
      | zero => have := (hge 0 h0).1; simp only [dgP]; omega
      | succ i => simp only [dgP]; exact (h5 i hi).1
    · cases i with
      | zero => simp only [dgP]; omega
      | succ i => simp only [dgP]; exact (h5 i hi).2
end Go.Proofs.Ytbfhfnejppfehaa

/-
  Contracts of the helper functions that the laws use for lists of String.
-/
namespace Go.Proofs.Ytbfhfnejppfehaa
open Go.RowKit Go.ChangeShapes Go.WideShapes
set_option linter.unusedVariables false
set_option linter.unusedSimpArgs false
set_option maxRecDepth 100000


def encString (x : ByteArray) : List Value := [.string x]
theorem encString_len (x : ByteArray) : (encString x).length = 1 := rfl
def String_small (lim : Int) (x : ByteArray) : Prop := (x.size : Int) ≤ lim
theorem String_info : (Try.prog.info? 9).map (fun i => (i.zero, i.size, i.bytes)) = some (some (.string ⟨#[]⟩), 1, 16) := by kernel_rfl

theorem String_el {H : Type} {en : TypeId × Value → H} {w : World} {base : Nat} {spare : Nat → Bool} {held : Bool} (n : Nat) (cs : List Value) (y : DataW H × List MemPlace) (h : DataW.trod en Try.prog w base spare held n 9 cs = some y) : ∃ x : ByteArray, cs = encString x ∧ String_small 9223372036854775807 x := by
  obtain ⟨a, rfl, _, ha⟩ := DataW.trod_string Try.underlying9 h
  exact ⟨a, rfl, by unfold String_small; unfold maxLen at ha; omega⟩

set_option maxHeartbeats 800000 in
theorem szStringS_any (l : List ByteArray) (A : Option Addr) (c : Nat) (left : Int) (w : World) (h : RdL w w.heap.size A 1 encString l) (hl : l.length ≤ 9223372036854775807) (h1 : 0 ≤ left) (h2 : left ≤ 1048576) (hs : ∀ x ∈ l, String_small 9223372036854775807 x) :
    Calls Try.prog 21 #[.slice A l.length c, .int .i64 left] w fun e w' => ∃ r, e = .returned (.int .i64 r) ∧ SzOk r left l.length (∀ x ∈ l, String_small left x) ∧ Below w.heap.size w w' := by
  have Hs := Lib.hid hs
  clear hs
  by_cases hn : left < l.length
  · go_enter Try.func21, Try.ntmps21
    go_wp2
    go_ret
    exact ⟨_, rfl, .inl (by omega), Below.refl _ _⟩
  · go_enter Try.func21, Try.ntmps21
    go_wp2
    go_loopw [1, 5] (fun v i wr => ∃ (k : Nat) (r : Int), k ≤ l.length ∧ i = .int .i64 k ∧ v = .int .i64 r ∧ 0 ≤ r ∧ r ≤ left ∧ (∀ (j : Nat) (hj : j < l.length), j < k → String_small left l[j]) ∧ Below w.heap.size w wr) (fun _ i _ => l.length - (intOf i).toNat)
    case atStart => exact ⟨0, left - l.length, by omega, by rfl, rfl, by omega, by omega, fun j _ hj => by omega, Below.refl _ _⟩
    case round =>
      obtain ⟨k, r, hk, rfl, rfl, hr0, hr1, hsm, hbl⟩ := hrel
      have Hbl := Lib.hid hbl
      have Hsm := Lib.hid hsm
      clear hbl hsm
      by_cases hlt : k < l.length
      · obtain ⟨g, off, hA, hg, hcell⟩ := h.at hlt
        subst hA
        have r0 : wr.cell? ⟨g, off + k, none⟩ = some (.string l[k]) := (Hbl.out.cell (p := ⟨g, off + k, none⟩) hg).trans (by have := hcell 0 _ rfl; rw [Nat.mul_one] at this; exact this)
        have hgs := Hbl.out.size
        obtain ⟨x, hx⟩ : ∃ x, Hid (l[k] = x) := ⟨l[k], Lib.hid rfl⟩
        have hxs : String_small 9223372036854775807 x := by have := Hs.out _ (List.getElem_mem hlt); rw [hx.out] at this; exact this
        rw [hx.out] at r0
        clear hcell h

        simp only [String_small] at hxs
        by_cases hc : r < x.size
        · go_wp2
          go_ret
          exact ⟨-1, rfl, .inl (by omega), Hbl.out⟩
        · go_wp2
          go_roundw
          case rel =>
            refine ⟨k + 1, _, by omega, by go_num, rfl, by omega, by omega, fun j hj hj1 => ?_, Hbl.out⟩
            rcases Nat.lt_or_eq_of_le (Nat.le_of_lt_succ hj1) with h' | rfl
            · exact Hsm.out j hj h'
            · rw [hx.out]; simp only [String_small]; omega
          case measure => simp [intOf]; omega
      · go_wp2
        go_ret
        refine ⟨_, rfl, .inr ⟨hr0, hr1, by omega, fun x hx => ?_⟩, Hbl.out⟩
        obtain ⟨j, hj, rfl⟩ := List.getElem_of_mem hx
        exact Hsm.out j hj (by omega)

set_option maxHeartbeats 800000 in
theorem toStringS_any (l : List ByteArray) (A : Option Addr) (c : Nat) (w : World) (h : RdL w w.heap.size A 1 encString l) (hl : l.length ≤ 1048576) :
    Calls Try.prog 25 #[.slice A l.length c] w fun e w' => ∃ A', e = .returned (.slice A' l.length l.length) ∧ OwnL w' w.heap.size w'.heap.size A' 1 encString l ∧ Below w.heap.size w w' := by
  go_enter Try.func25, Try.ntmps25
  go_wp2_with (refine wpList_make_cellsN rfl 23 _ rfl 9 _ 1 16 rfl String_info rfl .i64 l.length rfl (by omega) (by omega) ?_; intro w1 hc1 hb1)
  go_loopw [4] (fun i wr => ∃ k : Nat, k ≤ l.length ∧ i = .int .i64 k ∧ Cells wr w.heap.size (l.length * 1) (fill encString 1 l (fun i => (Value.string ⟨#[]⟩).cells.getD (i % 1) undef) k) ∧ Below w.heap.size w wr) (fun i _ => l.length - (intOf i).toNat)
  case atStart => exact ⟨0, by omega, by rfl, by rw [fill_zero]; exact hc1, hb1⟩
  case round =>
    obtain ⟨k, hk, rfl, hc, hbl⟩ := hrel
    have Hc := Lib.hid hc
    have Hbl := Lib.hid hbl
    have hgs : w.heap.size < wr.heap.size := hc.lt
    clear hc hbl hc1 hb1
    by_cases hlt : k < l.length
    · obtain ⟨g, off, hA, hg, hcell⟩ := h.at hlt
      subst hA
      have r0 : wr.cell? ⟨g, off + k, none⟩ = some (.string l[k]) := (Hbl.out.cell (p := ⟨g, off + k, none⟩) hg).trans (by have := hcell 0 _ rfl; rw [Nat.mul_one] at this; exact this)
      obtain ⟨x, hx⟩ : ∃ x, Hid (l[k] = x) := ⟨l[k], Lib.hid rfl⟩
      rw [hx.out] at r0
      clear hcell h
      have q0 := Hc.out.cell (i := k) (by omega)
      have f0 := Hc.out.free (i := k) (by omega)
      go_wp2
      go_roundw
      case rel => exact ⟨k + 1, by omega, by go_num, Hc.out.fillN (by omega) encString_len hlt (by omega) [_] (by rw [hx.out]; rfl), Below.setN (Nat.le_refl _) [_] Hbl.out⟩
      case measure => simp [intOf]; omega
    · go_wp2
      go_ret
      exact ⟨_, rfl, OwnL.of_fill Hc.out (by omega) (Nat.le_refl _) Hc.out.lt encString_len, Hbl.out⟩

set_option maxHeartbeats 800000 in
theorem eqStringS_t (l : List ByteArray) (A A' : Option Addr) (c c' : Nat) (w : World) (h : RdL w w.heap.size A 1 encString l) (h' : RdL w w.heap.size A' 1 encString l) (hl : l.length ≤ 4611686018427387904) :
    Calls Try.prog 29 #[.slice A l.length c, .slice A' l.length c'] w fun e w' => e = .returned (.bool true) ∧ Below w.heap.size w w' := by
  go_enter Try.func29, Try.ntmps29
  go_wp2
  go_loopw [5] (fun i wr => ∃ k : Nat, k ≤ l.length ∧ i = .int .i64 k ∧ Below w.heap.size w wr) (fun i _ => l.length - (intOf i).toNat)
  case atStart => exact ⟨0, by omega, by rfl, Below.refl _ _⟩
  case round =>
    obtain ⟨k, hk, rfl, hbl⟩ := hrel
    have Hbl := Lib.hid hbl
    clear hbl
    by_cases hlt : k < l.length
    · obtain ⟨g, off, hA, hg, hcell⟩ := h.at hlt
      obtain ⟨g', off', hA', hg', hcell'⟩ := h'.at hlt
      subst hA hA'
      have r0 : wr.cell? ⟨g, off + k, none⟩ = some (.string l[k]) := (Hbl.out.cell (p := ⟨g, off + k, none⟩) hg).trans (by have := hcell 0 _ rfl; rw [Nat.mul_one] at this; exact this)
      have q0 : wr.cell? ⟨g', off' + k, none⟩ = some (.string l[k]) := (Hbl.out.cell (p := ⟨g', off' + k, none⟩) hg').trans (by have := hcell' 0 _ rfl; rw [Nat.mul_one] at this; exact this)
      clear hcell hcell' h h'
      generalize l[k] = x at r0 q0
      go_wp2
      go_quiet (fail)
      go_wp2
      go_roundw
      case rel => exact ⟨k + 1, by omega, by go_num, below_drewN Hbl.out _⟩
      case measure => simp [intOf]; omega
    · go_wp2
      go_ret
      exact ⟨rfl, Hbl.out⟩

/-- What the marks make of a list of so many elements. -/
def markStringL (m q : Nat) : List ByteArray := (List.range m).map fun i : Nat => ((markT (q + i)) : ByteArray)
theorem markStringL_len (m q : Nat) : (markStringL m q).length = m := by simp [markStringL]
theorem markStringL_at (m q i : Nat) (hi : i < (markStringL m q).length) : (markStringL m q)[i] = ((markT (q + i)) : ByteArray) := by simp [markStringL]
set_option maxHeartbeats 1600000 in
theorem markStringS_any (l : List ByteArray) (b d : Nat) (A : Option Addr) (c q : Nat) (w : World) (h : OwnL w b d A 1 encString l) (hl : l.length ≤ 1048576) (hq0 : 0 < q) (hq : q ≤ 100000000000) :
    Calls Try.prog 31 #[.slice A l.length c, .int .i64 q] w fun e w' => e = .returned (.int .i64 ((q + l.length * 1 : Nat) : Int)) ∧ OwnL w' b d A 1 encString (markStringL l.length q) ∧ Chg b d w w' := by
  rcases Nat.eq_zero_or_pos l.length with h0 | hpos
  · have e0 : l = [] := List.eq_nil_of_length_eq_zero h0
    subst e0
    go_enter Try.func31, Try.ntmps31
    go_wp2
    go_loop [1, 5] (fun v i => v = .int .i64 q ∧ i = .int .i64 0) (fun _ _ => 0)
    case atStart => exact ⟨rfl, rfl⟩
    case round =>
      obtain ⟨rfl, rfl⟩ := hrel
      go_wp2
      go_ret
      exact ⟨by simp, .inl rfl, Chg.refl _ _ _⟩
  · obtain ⟨g, f, hA, hgb, hgc, hc0⟩ := h.cells hpos
    subst hA
    have HC0 := Lib.hid hc0
    clear hc0
    have em : (markStringL l.length q).length = l.length := markStringL_len _ _
    have Em := Lib.hid em
    clear em
    go_enter Try.func31, Try.ntmps31
    go_wp2
    go_loopw [1, 5] (fun v i wr => ∃ k : Nat, k ≤ l.length ∧ i = .int .i64 k ∧ v = .int .i64 ((q + k : Nat) : Int) ∧ Cells wr g (l.length * 1) (fill encString 1 (markStringL l.length q) f k) ∧ Chg b d w wr) (fun _ i _ => l.length - (intOf i).toNat)
    case atStart => exact ⟨0, by omega, by rfl, by simp, by rw [fill_zero]; exact HC0.out, Chg.refl _ _ _⟩
    case round =>
      obtain ⟨k, hk, rfl, rfl, hc, hch⟩ := hrel
      have Hc := Lib.hid hc
      have Hch := Lib.hid hch
      clear hc hch h
      by_cases hlt : k < l.length
      · have q0 := Hc.out.cell (i := k) (by omega)
        have f0 := Hc.out.free (i := k) (by omega)
        go_wp2_with (go_at_call 83; refine (markText_any (q + k) _ (by omega) (by omega)).mono ?_; rintro e w' ⟨rfl, hm1⟩; have t1_0 := (Hc.out.later hm1).cell (i := k) (by omega); have u1_0 := (Hc.out.later hm1).free (i := k) (by omega))
        go_roundw
        case rel =>
          refine ⟨k + 1, by omega, by go_num, by first | rfl | (congr 1; simp; done) | (congr 1; simp; omega) | (congr 1; omega), ?_, ?_⟩
          · have hC := ((Hc.out.later hm1).set (i := k) (by omega) (.string (markT (q + k))))
            refine hC.as_fill (l := markStringL l.length q) (p := k) [.string (markT (q + k))] ?_ (by omega) encString_len (by rw [Em.out]; exact hlt) (by omega) (by rw [markStringL_at]; rfl)
            rw [← updN_cons, updN_nil]
          · exact ((Hch.out.below hm1).setCell (p := ⟨g, k, none⟩) hgb hgc (.string (markT (q + k))))
        case measure => simp [intOf]; omega
      · go_wp2
        go_ret
        obtain rfl : k = l.length := by omega
        refine ⟨by simp, OwnL.of_fill (l := markStringL l.length q) (k := l.length) (by rw [Em.out]; exact Hc.out) (by rw [Em.out]; exact Nat.le_refl _) hgb hgc encString_len, Hch.out⟩

end Go.Proofs.Ytbfhfnejppfehaa
/-
  Contracts: valid methods and calls (both sides).
-/
namespace Go.Proofs.Ytbfhfnejppfehaa
open Go.RowKit
set_option linter.unusedVariables false
set_option linter.unusedSimpArgs false
set_option maxRecDepth 100000

/-- A method in memory: the name, the stage, the changes, their address, their room. -/
structure Mth where
  name : ByteArray
  stage : Int
  x : List ByteArray
  A : Option Addr
  c : Nat
def Mth.enc (m : Mth) : List Value := [.string m.name, .int .i64 m.stage, .slice m.A m.x.length m.c]
def changesP (n : Int) (l : List ByteArray) : Prop := (1 ≤ l.length ∧ l.length ≤ 40) ∧ ∀ (i : Nat) (hi : i < l.length), changeP n l[i]
def methP (m : Mth) : Prop := isWordP m.name ∧ changesP m.stage m.x
def callsP (m : Mth) (b s : ByteArray) : Prop := methP m ∧ changeP m.stage b ∧ changeP m.stage s
theorem changesP.stage {n : Int} {l : List ByteArray} (h : changesP n l) : inB n 3 8 := (h.2 0 (by have := h.1.1; omega)).1




end Go.Proofs.Ytbfhfnejppfehaa

/-
  Rounds; lists of strings and methods copied: contracts of both sides.
-/
namespace Go.Proofs.Ytbfhfnejppfehaa
open Go.RowKit
set_option linter.unusedVariables false
set_option linter.unusedSimpArgs false
set_option maxRecDepth 100000

def eightS : ByteArray := ⟨#[49, 50, 51, 52, 53, 54, 55, 56]⟩
/-- Rounds. -/
def roundsS (n : Int) : ByteArray := eightS.extract 0 n.toNat
theorem roundsS_size {n : Int} (h0 : 0 ≤ n) (h8 : n ≤ 8) : (roundsS n).size = n.toNat := by
  unfold roundsS; rw [size_ext]
  have : eightS.size = 8 := rfl
  omega

theorem l1Rounds_any (n : Int) (w : World) (h0 : 0 ≤ n) (h8 : n ≤ 8) : Calls Try.prog 125 #[.int .i64 n] w fun e w' => e = .returned (.string (roundsS n)) ∧ w = w' := by
  have hz : (⟨#[49, 50, 51, 52, 53, 54, 55, 56]⟩ : ByteArray).size = 8 := rfl
  go_enter Try.func125, Try.ntmps125
  go_wp2
  go_ret
  exact ⟨rfl, rfl⟩

theorem l1OwnS_any (l : List ByteArray) (A : Option Addr) (c : Nat) (w : World) (h : RdL w w.heap.size A 1 encString l) (hl : l.length ≤ 1048576) (h0 : 0 < l.length) :
    Calls Try.prog 153 #[.slice A l.length c] w fun e w' => ∃ A' c', e = .returned (.slice A' l.length c') ∧ OwnL w' w.heap.size w'.heap.size A' 1 encString l ∧ l.length ≤ c' ∧ Below w.heap.size w w' := by
  have hq : ∀ (w : World) (a : Option Addr) (n c : Nat), (binOp .eql 23 (.slice a n c) (.slice none 0 0)).run Try.prog w = .ok (.bool a.isNone) w := fun w a n c => Lib.run_eql_slice_nil w _ 9 a n c 0 0 rfl
  obtain ⟨g, off, hA, _, _⟩ := h.at h0
  subst hA
  have H := Lib.hid h
  clear h
  go_enter Try.func153, Try.ntmps153
  go_wp2_with (at_builtin; refine wpList_pushAll rfl _ _ 23 rfl w.heap.size 9 _ 1 16 encString rfl String_info rfl (by omega) _ [] l _ _ w.heap.size rfl rfl (H.out.below ((Below.refl _ _).alloc (Nat.le_refl _) _) (Nat.le_refl _)) h0 (Grow.empty (Nat.le_refl _)) encString_len (by simp [encString, Value.oneCell']) (by first | (simp; done) | (simp; omega)) (by omega) (by simp) ?_; intro v' w2 hg2 hb2 hgb)
  go_ret
  obtain ⟨A', c', hv, ho⟩ := hg2.own encString_len
  subst hv
  exact ⟨A', c', rfl, ho, hg2.capN, ((Below.refl _ _).alloc (Nat.le_refl _) _).trans hb2⟩
end Go.Proofs.Ytbfhfnejppfehaa
