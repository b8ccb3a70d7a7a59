import Derived.Test.YtbfhfnejppfehaaDoorMRingTouchL27
import Derived.Test.YtbfhfnejppfehaaDoorMRingTouchL26
import Derived.Test.YtbfhfnejppfehaaDoorMRingTouchL24
import Derived.Test.YtbfhfnejppfehaaDoorMRingTouchL21
import Derived.Test.YtbfhfnejppfehaaDoorMRingTouchL25
import Derived.Test.YtbfhfnejppfehaaDoorMRingTouchL14
import Derived.Laws.OwnMore
import Derived.Test.YtbfhfnejppfehaaDoorMRingTouchL00
import Derived.Test.YtbfhfnejppfehaaDoorRows
import Derived.Maps.Own
import Derived.Maps.OwnOps
import Derived.Maps.Keyed
import Derived.Maps.StringElems
import Derived.Test.YtbfhfnejppfehaaDoorMRingTouchL03
/-
  All changes of a stage, as the reference makes them.
-/
namespace Go.Proofs.YtbfhfnejppfehaaDoor
open Go.RowKit
set_option linter.unusedVariables false
set_option linter.unusedSimpArgs false
set_option maxRecDepth 100000

section
variable {P : Program} {ops : Array Oper} {rest : List Oper} {o : Oper} {a : Act} {Q : Exit → Act → World → Prop} {w : World}
/-- 'append(s, x..)' where x is empty: s itself. -/
theorem run_append_none (w : World) (t ty e : TypeId) (i : TypeInfo) (ht : P.underlying t = some (.slice e)) (hi : P.info? e = some i) (g off n cap : Nat) (A : Option Addr) (c : Nat) (hn : n ≤ cap) :
    (Builtin.append_ #[t, t] ty #[.slice (some ⟨g, off, none⟩) n cap, .slice A 0 c]).run P w = .ok (.slice (some ⟨g, off, none⟩) n cap) w := by
  have hst := run_storeCells_cells (P := P) g (off + n * i.size) [] 0 w (by simp) (by simp) (by simp)
  simp only [Nat.add_zero] at hst
  cases A with
  | none => simp [Builtin.append_, run_underlying ht, sizeOf, typeInfo, hi, Builtin.lenOf, hn, Builtin.firstCells, Addr.add_lit, hst, World.setCells]
  | some a =>
    have hfc := run_firstCells_some (P := P) w i.size 0 a 0 c [] (by simp) (by simp)
    simp [Builtin.append_, run_underlying ht, sizeOf, typeInfo, hi, Builtin.lenOf, hn, hfc, Addr.add_lit, hst, World.setCells]
theorem wpList_pushNone (hgd : o.guard = none) (s x : Operand) (t : TypeId) (ho : o.op = .call { callee := .builtin .append, args := #[s, x], argTypes := #[t, t] })
    (e : TypeId) (ht : P.underlying t = some (.slice e)) (hi : (P.info? e).isSome) {g off n cap : Nat} {A : Option Addr} {c : Nat} (hs : a.eval s = .slice (some ⟨g, off, none⟩) n cap) (hx : a.eval x = .slice A 0 c) (hn : n ≤ cap)
    (h : wpList P ops Q rest (a.put o.dst (.slice (some ⟨g, off, none⟩) n cap)) w) : wpList P ops Q (o :: rest) a w := by
  obtain ⟨i, hi⟩ := Option.isSome_iff_exists.1 hi
  refine wpList_plain hgd fun K hK => ?_
  have hr := run_append_none (P := P) w t o.type e i ht hi g off n cap A c hn
  unfold Oper.wp execOp
  simp only [ho, resolve, invoke, builtin, Sem.run_bind, Sem.run_pure, Result.andThen_ok, List.map_toArray, List.map_cons, List.map_nil, hs, hx, hr]
  exact hK _ _ h
end
section
variable {w w' : World} {b : Nat} {v v' : Value} {D : List Sl}
/-- The inner lists read; each lies from b on, apart from v's own block. -/
def Ins (w : World) (b : Nat) (v : Value) (D : List Sl) : Prop := ∀ d ∈ D, RdL w w.heap.size d.A 1 encInt d.x ∧ (d.x = [] ∨ ∃ g off, d.A = some ⟨g, off, none⟩ ∧ b ≤ g ∧ v.ownBlock ≠ some g)
theorem RdL.grown {α : Type} {enc : α → List Value} {size : Nat} {A : Option Addr} {l : List α} {o : Option Nat} (h : RdL w w.heap.size A size enc l) (hg : w.grownBy w' o) (hne : l = [] ∨ ∃ g off, A = some ⟨g, off, none⟩ ∧ o ≠ some g) : RdL w' w'.heap.size A size enc l := by
  rcases h with h | ⟨g, off, hA, hlt, hc⟩
  · exact .inl h
  · rcases hne with h | ⟨g', off', hA', hne⟩
    · exact .inl h
    · rw [hA] at hA'
      simp only [Option.some.injEq, Addr.mk.injEq, and_true] at hA'
      obtain ⟨rfl, rfl⟩ := hA'
      exact .inr ⟨g, off, hA, Nat.lt_of_lt_of_le hlt hg.size, fun i hi j u hu => (World.cell?_of_block (a := ⟨g, off + (i * size + j), none⟩) (hg.block g hlt (fun e => hne e.symm))).trans (hc i hi j u hu)⟩
theorem Ins.nil : Ins w b v [] := fun d hd => by simp at hd
theorem Ins.grown (h : Ins w b v D) (hg : w.grownBy w' v.ownBlock) (hv : v'.ownBlock = v.ownBlock ∨ ∃ m, w.heap.size ≤ m ∧ v'.ownBlock = some m) : Ins w' b v' D := fun d hd => by
  obtain ⟨h1, h2⟩ := h d hd
  refine ⟨h1.grown hg (h2.imp id fun ⟨g, off, hA, _, hne⟩ => ⟨g, off, hA, hne⟩), ?_⟩
  rcases h2 with h2 | ⟨g, off, hA, hb, hne⟩
  · exact .inl h2
  · rcases h1 with h1 | ⟨g', off', hA', hlt, _⟩
    · exact .inl h1
    · rw [hA] at hA'
      simp only [Option.some.injEq, Addr.mk.injEq, and_true] at hA'
      obtain ⟨rfl, rfl⟩ := hA'
      refine .inr ⟨g, off, hA, hb, ?_⟩
      rcases hv with hv | ⟨m, hm, hv⟩
      · rw [hv]; exact hne
      · rw [hv]; intro e; injection e with e; omega
theorem Ins.later (h : Ins w b v D) (hb : Below w.heap.size w w') : Ins w' b v D := fun d hd => ⟨((h d hd).1.below hb (Nat.le_refl _)).more hb.size, (h d hd).2⟩
theorem Ins.snoc (h : Ins w b v D) {d : Sl} (h1 : RdL w w.heap.size d.A 1 encInt d.x) (h2 : d.x = [] ∨ ∃ g off, d.A = some ⟨g, off, none⟩ ∧ b ≤ g ∧ v.ownBlock ≠ some g) : Ins w b v (D ++ [d]) := fun x hx => by
  rcases List.mem_append.1 hx with hx | hx
  · exact h x hx
  · rw [List.mem_singleton.1 hx]; exact ⟨h1, h2⟩
theorem Ins.append (h : Ins w b v D) {D' : List Sl} (h' : Ins w b v D') : Ins w b v (D ++ D') := fun x hx => by
  rcases List.mem_append.1 hx with hx | hx
  · exact h x hx
  · exact h' x hx
end
/-- What l2From gives back. -/
def FromR (L : List (List Int)) (w : World) (e : Ending) (w' : World) : Prop :=
  ∃ (A : Option Addr) (c : Nat) (D : List Sl), e = .returned (.slice A D.length c) ∧ D.map Sl.x = L ∧ RdL w' w'.heap.size A 1 Sl.enc D ∧ (∀ d ∈ D, RdL w' w'.heap.size d.A 1 encInt d.x ∧ (d.x = [] ∨ ∃ g off, d.A = some ⟨g, off, none⟩ ∧ w.heap.size ≤ g)) ∧ Below w.heap.size w w'




end Go.Proofs.YtbfhfnejppfehaaDoor

/-
  All changes of a stage and a drawn one, as the reference makes them.
-/
namespace Go.Proofs.YtbfhfnejppfehaaDoor
open Go.RowKit
set_option linter.unusedVariables false
set_option linter.unusedSimpArgs false
set_option maxRecDepth 100000

theorem flat_set1 {α : Type} {enc : α → List Value} (henc : ∀ x, (enc x).length = 1) {x : α} {u : Value} (hx : enc x = [u]) : ∀ (l : List α) (k : Nat), flat enc (l.set k x) = (flat enc l).set k u
  | [], k => by simp [flat]
  | y :: l, 0 => by
    obtain ⟨v, hv⟩ : ∃ v, enc y = [v] := List.length_eq_one_iff.1 (henc y)
    simp [flat, hx, hv]
  | y :: l, k + 1 => by
    obtain ⟨v, hv⟩ : ∃ v, enc y = [v] := List.length_eq_one_iff.1 (henc y)
    have := flat_set1 henc hx l k
    simp [flat, hv, this]
/-- A store into a slice of the call's own, an element one cell. -/
theorem Grow.stored {α : Type} {enc : α → List Value} {w : World} {base g n cap : Nat} {e : TypeId} {l : List α} (h : Grow w base e 1 enc (.slice (some ⟨g, 0, none⟩) n cap) l) (hn : n = l.length) (henc : ∀ x, (enc x).length = 1) {x : α} {u : Value} (hx : enc x = [u]) (k : Nat) :
    Grow (w.setCell ⟨g, k, none⟩ u) base e 1 enc (.slice (some ⟨g, 0, none⟩) n cap) (l.set k x) := by
  subst hn
  unfold Grow at h ⊢
  rw [List.length_set, flat_set1 henc hx]
  exact (h.stored k u).1
theorem Grow.cellS {w : World} {base g n cap : Nat} {e : TypeId} {l : List ByteArray} (h : Grow w base e 1 encString (.slice (some ⟨g, 0, none⟩) n cap) l) (k : Nat) (hk : k < l.length) : w.cell? ⟨g, k, none⟩ = some (.string l[k]) ∧ w.frozen? ⟨g, k, none⟩ = false := by
  obtain ⟨A, c, e1, e2⟩ := h.own encString_len
  injection e1 with e1 _ _
  subst e1
  exact e2.cellStr k hk
theorem Grow.some_ {α : Type} {enc : α → List Value} {w : World} {base : Nat} {e : TypeId} {size : Nat} {v : Value} {l : List α} (h : Grow w base e size enc v l) (hl : 0 < l.length) : ∃ g cap, v = .slice (some ⟨g, 0, none⟩) l.length cap ∧ base ≤ g ∧ g < w.heap.size ∧ l.length ≤ cap := by
  rcases h.2 with ⟨_, h2⟩ | ⟨g, cap, cur, h1, h2, h3, h4, _⟩
  · omega
  · exact ⟨g, cap, h1, h2, h.block_lt g (by rw [h1]; rfl), h4⟩
theorem plcT_snoc (l : List Int) (p : Int) : plcT (l ++ [p]) = plcT l ++ mkS [48 + p] := by
  unfold plcT; rw [List.map_append, mkS_app]; rfl
theorem l1NumD_any (p : Int) (w : World) (h0 : 0 ≤ p) (h9 : p ≤ 9) : Calls Tryd.prog 90 #[.int .i64 p] w fun e w' => e = .returned (.string (mkS [48 + p])) ∧ Below w.heap.size w w' := by
  have d1 : decide (p < 10) = true := by simp; omega
  have a3 : IntKind.i64.wrap (48 + p) = 48 + p := IntWalk.i64_in _ (by omega)
  have a4 : IntKind.u8.wrap (48 + p) = 48 + p := IntWalk.u8_in _ (by omega)
  go_enter Tryd.func90, Tryd.ntmps90
  go_wp2
  go_ret
  exact ⟨rfl, (Below.refl _ _).alloc (Nat.le_refl _) _⟩

end Go.Proofs.YtbfhfnejppfehaaDoor

/-
  The actions of a touch: contracts of both sides.
-/
namespace Go.Proofs.YtbfhfnejppfehaaDoor
open Go.RowKit
set_option linter.unusedVariables false
set_option linter.unusedSimpArgs false
set_option maxRecDepth 100000

/-- The actions within call k, behind j steps. -/
def actsAt (t : ByteArray) (n k j : Nat) : List Act_ := actsTo t n k ++ (callA (callOf (bat t k)) :: List.replicate j stepA)
theorem actsAt_zero (t : ByteArray) (n k : Nat) : actsAt t n k 0 = actsTo t n k ++ [callA (callOf (bat t k))] := rfl
theorem actsAt_succ (t : ByteArray) (n k j : Nat) : actsAt t n k (j + 1) = actsAt t n k j ++ [stepA] := by
  unfold actsAt; rw [show List.replicate (j + 1) stepA = List.replicate j stepA ++ [stepA] from List.replicate_succ']; simp
theorem actsAt_end (t : ByteArray) (n k : Nat) : actsAt t n k n = actsTo t n (k + 1) := rfl
theorem actsAt_len (t : ByteArray) (n k j : Nat) : (actsAt t n k j).length = k * (n + 1) + (1 + j) := by
  unfold actsAt; rw [List.length_append, actsTo_len, List.length_cons, List.length_replicate]; omega
theorem acts_bd {k m n : Nat} (h : k ≤ m) (hm : m ≤ 60) (hn : n ≤ 1048576) : k * (n + 1) ≤ 70000000 := by
  have h1 : k * (n + 1) ≤ 60 * 1048577 := Nat.mul_le_mul (by omega) (by omega)
  omega






set_option maxHeartbeats 3200000 in
theorem actsFor_any (nm : ByteArray) (st : Int) (x : List ByteArray) (A : Option Addr) (c : Nat) (t : ByteArray) (w : World) (ht : t.size ≤ 60) (hl : x.length ≤ 1048576) : Calls Tryd.prog 36 #[.agg #[Value.string nm, .int .i64 st, .slice A x.length c], .string t, .slice none 0 0] w fun e w' => ∃ A2 c2, e = .returned (.slice A2 (actsL t x.length).length c2) ∧ OwnL w' w.heap.size w'.heap.size A2 4 Act_.enc (actsL t x.length) ∧ Below w.heap.size w w' := by
  have Hone : Hid (∀ (a b d : Int) (s : ByteArray), ∀ u ∈ [Value.int .i64 a, .int .i64 b, .int .i64 d, .string s], u.oneCell' = true) := Lib.hid (by intro a b d s u hu; simp at hu; rcases hu with rfl | rfl | rfl | rfl <;> rfl)
  obtain ⟨n, hn⟩ : ∃ n, Hid (x.length = n) := ⟨_, Lib.hid rfl⟩
  rw [hn.out] at hl ⊢
  obtain ⟨W, hWe, hWs, hWb, u2⟩ : ∃ W : World, Hid (w.alloc (.cells #[Value.string nm, .int .i64 st, .slice A n c] 31) = W) ∧ Hid (W.heap.size = w.heap.size + 1) ∧ Hid (Below w.heap.size w W) ∧ W.cell? ⟨w.heap.size, 2, none⟩ = some (.slice A n c) :=
    ⟨_, Lib.hid rfl, Lib.hid (by simp), Lib.hid ((Below.refl _ _).alloc (Nat.le_refl _) _), by rw [World.cell?_alloc_new]; rfl⟩
  have hWs1 : w.heap.size + 1 = W.heap.size := hWs.out.symm
  go_enter Tryd.func36, Tryd.ntmps36
  go_upto_region 1 with fail
  rw [hWe.out]
  clear hWe
  go_upto_region 3 with fail
  go_loopw [7, 8, 12] (fun v i8 i wr => ∃ k : Nat, k ≤ t.size ∧ i = .int .i64 (k : Int) ∧ Grow wr W.heap.size 101 4 Act_.enc v (actsTo t n k) ∧ (∃ g cap, v = .slice (some ⟨g, 0, none⟩) (actsTo t n k).length cap ∧ (actsTo t n k).length ≤ cap) ∧ Below W.heap.size W wr) (fun _ _ i _ => t.size - (intOf i).toNat)
  case atStart => exact ⟨0, Nat.zero_le _, rfl, Grow.empty (Nat.le_refl _), ⟨_, _, rfl, Nat.le_refl _⟩, (Below.refl _ _).alloc (Nat.le_refl _) _⟩
  case round =>
    obtain ⟨k, hk, rfl, hg, hsl, hbl⟩ := hrel
    have HG := Lib.hid hg
    have HB := Lib.hid hbl
    have hzr := hbl.size
    clear hg hbl
    have v2 := (HB.out.cell (p := ⟨w.heap.size, 2, none⟩) (show w.heap.size < W.heap.size by omega)).trans u2
    have hlen := actsTo_len t n k
    have hbd := acts_bd hk ht hl
    have hlen2 : (actsTo t n k).length ≤ 70000000 := by omega
    clear hlen
    by_cases hlt : k < t.size
    · obtain ⟨gv, cap, rfl, hcap⟩ := hsl
      have hcap' := Lib.hid hcap
      clear hcap
      have w1 : IntKind.i64.wrap ((k : Int) + 1) = (k : Int) + 1 := IntWalk.i64_in _ (by omega)
      have hcl := Lib.hid (callOf_ext hlt)
      obtain ⟨L, hL⟩ : ∃ L, Hid (actsTo t n k = L) := ⟨_, Lib.hid rfl⟩
      rw [hL.out] at HG hlen2 hcap' ⊢
      have hL0 : Hid (actsAt t n k 0 = L ++ [callA (t.extract k (k + 1))]) := Lib.hid (by rw [actsAt_zero, hL.out, hcl.out])
      go_upto_region 8 with (first
        | (at_builtin; refine wpList_pushNone rfl (.tmp 15) (.tmp 16) 61 rfl 101 rfl (by kernel_rfl) rfl rfl hcap'.out ?_)
        | ((at_builtin; refine wpList_push rfl (.tmp 18) (.tmp 25) 61 rfl W.heap.size 101 _ 4 40 Act_.enc rfl RingAct_info rfl (by omega) _ L [(callA (t.extract k (k + 1)))] 1 rfl rfl (by simp) HG.out rfl Act__enc_len (Hone.out _ _ _ _) (by simp only [List.length_singleton]; omega) (by omega) (by omega) ?_; intro av aw ag ab ak); have HGa := Lib.hid ag; have HBa := Lib.hid (HB.out.trans (ab.mono (Nat.le_refl _))); clear ag ab ak; have v3 := (HBa.out.cell (p := ⟨w.heap.size, 2, none⟩) (show w.heap.size < W.heap.size by omega)).trans u2))
      obtain ⟨wo, hwo⟩ : ∃ wo, wo = aw := ⟨_, rfl⟩
      rw [← hwo] at HGa HBa ⊢
      clear hwo v2 v3
      have hzo := HBa.out.size
      have v2 := (HBa.out.cell (p := ⟨w.heap.size, 2, none⟩) (show w.heap.size < W.heap.size by omega)).trans u2
      go_loopw [7, 30] (fun v i wr2 => ∃ j : Nat, j ≤ n ∧ i = .int .i64 (j : Int) ∧ Grow wr2 W.heap.size 101 4 Act_.enc v (actsAt t n k j) ∧ Below W.heap.size W wr2) (fun _ i _ => n - (intOf i).toNat)
      case atStart => exact ⟨0, Nat.zero_le _, rfl, by rw [hL0.out]; exact HGa.out, HBa.out⟩
      case round =>
        obtain ⟨j, hj, rfl, hg2, hbl2⟩ := hrel
        have HG2 := Lib.hid hg2
        have HB2 := Lib.hid hbl2
        have hz2 := hbl2.size
        clear hg2 hbl2
        have hlenj := actsAt_len t n k j
        have hlj : (actsAt t n k j).length ≤ 80000000 := by omega
        by_cases hjl : j < n
        · have hS := Lib.hid (actsAt_succ t n k j)
          obtain ⟨M, hM⟩ : ∃ M, Hid (actsAt t n k j = M) := ⟨_, Lib.hid rfl⟩
          rw [hM.out] at HG2 hS hlj
          clear hlenj
          go_wp2_with ((at_builtin; refine wpList_push rfl (.tmp 32) (.tmp 34) 61 rfl W.heap.size 101 _ 4 40 Act_.enc rfl RingAct_info rfl (by omega) _ M [stepA] 1 rfl rfl (by simp) HG2.out rfl Act__enc_len (Hone.out _ _ _ _) (by simp only [List.length_singleton]; omega) (by omega) (by omega) ?_; intro bv bw bg bb bk))
          go_roundw
          case rel => exact ⟨j + 1, by omega, by go_num, by rw [hS.out]; exact bg, HB2.out.trans (bb.mono (Nat.le_refl _))⟩
          case measure => simp [intOf]; omega
        · obtain rfl : j = n := by omega
          have hp : 0 < (actsAt t j k j).length := by omega
          obtain ⟨g5, c5, rfl, _, _, hc5⟩ := HG2.out.some_ hp
          go_wp2
          go_roundw
          case rel => exact ⟨k + 1, by omega, by go_num, HG2.out, ⟨g5, c5, rfl, hc5⟩, HB2.out⟩
          case measure => simp [intOf]; omega
    · obtain rfl : k = t.size := by omega
      obtain ⟨A5, c5, rfl, ho5⟩ := HG.out.own Act__enc_len
      have HO5 := Lib.hid ho5
      clear ho5
      go_wp2
      go_ret
      exact ⟨_, _, rfl, HO5.out.mono (by omega) (Nat.le_refl _), hWb.out.trans (HB.out.mono (by omega))⟩
set_option maxHeartbeats 3200000 in
theorem l24Acts_any (nm : ByteArray) (st : Int) (x : List ByteArray) (A : Option Addr) (c : Nat) (t : ByteArray) (w : World) (ht : t.size ≤ 60) (hl : x.length ≤ 1048576) : Calls Tryd.prog 31 #[.agg #[Value.string nm, .int .i64 st, .slice A x.length c], .string t] w fun e w' => ∃ A2 c2, e = .returned (.slice A2 (actsL t x.length).length c2) ∧ OwnL w' w.heap.size w'.heap.size A2 4 Act_.enc (actsL t x.length) ∧ Below w.heap.size w w' := by
  have Hone : Hid (∀ (a b d : Int) (s : ByteArray), ∀ u ∈ [Value.int .i64 a, .int .i64 b, .int .i64 d, .string s], u.oneCell' = true) := Lib.hid (by intro a b d s u hu; simp at hu; rcases hu with rfl | rfl | rfl | rfl <;> rfl)
  obtain ⟨n, hn⟩ : ∃ n, Hid (x.length = n) := ⟨_, Lib.hid rfl⟩
  rw [hn.out] at hl ⊢
  obtain ⟨W, hWe, hWs, hWb, u2⟩ : ∃ W : World, Hid (w.alloc (.cells #[Value.string nm, .int .i64 st, .slice A n c] 31) = W) ∧ Hid (W.heap.size = w.heap.size + 1) ∧ Hid (Below w.heap.size w W) ∧ W.cell? ⟨w.heap.size, 2, none⟩ = some (.slice A n c) :=
    ⟨_, Lib.hid rfl, Lib.hid (by simp), Lib.hid ((Below.refl _ _).alloc (Nat.le_refl _) _), by rw [World.cell?_alloc_new]; rfl⟩
  have hWs1 : w.heap.size + 1 = W.heap.size := hWs.out.symm
  go_enter Tryd.func31, Tryd.ntmps31
  go_upto_region 1 with fail
  rw [hWe.out]
  clear hWe
  go_upto_region 3 with fail
  go_loopw [5, 6] (fun v i wr => ∃ k : Nat, k ≤ t.size ∧ i = .int .i64 (k : Int) ∧ Grow wr W.heap.size 101 4 Act_.enc v (actsTo t n k) ∧ Below W.heap.size W wr) (fun _ i _ => t.size - (intOf i).toNat)
  case atStart => exact ⟨0, Nat.zero_le _, rfl, Grow.nil, Below.refl _ _⟩
  case round =>
    obtain ⟨k, hk, rfl, hg, hbl⟩ := hrel
    have HG := Lib.hid hg
    have HB := Lib.hid hbl
    have hzr := hbl.size
    clear hg hbl
    have v2 := (HB.out.cell (p := ⟨w.heap.size, 2, none⟩) (show w.heap.size < W.heap.size by omega)).trans u2
    have hlen := actsTo_len t n k
    have hbd := acts_bd hk ht hl
    have hlen2 : (actsTo t n k).length ≤ 70000000 := by omega
    clear hlen
    by_cases hlt : k < t.size
    · have w1 : IntKind.i64.wrap ((k : Int) + 1) = (k : Int) + 1 := IntWalk.i64_in _ (by omega)
      have hcl := Lib.hid (callOf_ext hlt)
      obtain ⟨L, hL⟩ : ∃ L, Hid (actsTo t n k = L) := ⟨_, Lib.hid rfl⟩
      rw [hL.out] at HG hlen2
      have hL0 : Hid (actsAt t n k 0 = L ++ [callA (t.extract k (k + 1))]) := Lib.hid (by rw [actsAt_zero, hL.out, hcl.out])
      go_upto_region 7 with ((at_builtin; refine wpList_push rfl (.tmp 13) (.tmp 20) 61 rfl W.heap.size 101 _ 4 40 Act_.enc rfl RingAct_info rfl (by omega) _ L [(callA (t.extract k (k + 1)))] 1 rfl rfl (by simp) HG.out rfl Act__enc_len (Hone.out _ _ _ _) (by simp only [List.length_singleton]; omega) (by omega) (by omega) ?_; intro av aw ag ab ak); have HGa := Lib.hid ag; have HBa := Lib.hid (HB.out.trans (ab.mono (Nat.le_refl _))); clear ag ab ak; have v3 := (HBa.out.cell (p := ⟨w.heap.size, 2, none⟩) (show w.heap.size < W.heap.size by omega)).trans u2)
      obtain ⟨wo, hwo⟩ : ∃ wo, wo = aw := ⟨_, rfl⟩
      rw [← hwo] at HGa HBa ⊢
      clear hwo v2 v3
      have hzo := HBa.out.size
      have v2 := (HBa.out.cell (p := ⟨w.heap.size, 2, none⟩) (show w.heap.size < W.heap.size by omega)).trans u2
      go_loopw [5, 25] (fun v i wr2 => ∃ j : Nat, j ≤ n ∧ i = .int .i64 (j : Int) ∧ Grow wr2 W.heap.size 101 4 Act_.enc v (actsAt t n k j) ∧ Below W.heap.size W wr2) (fun _ i _ => n - (intOf i).toNat)
      case atStart => exact ⟨0, Nat.zero_le _, rfl, by rw [hL0.out]; exact HGa.out, HBa.out⟩
      case round =>
        obtain ⟨j, hj, rfl, hg2, hbl2⟩ := hrel
        have HG2 := Lib.hid hg2
        have HB2 := Lib.hid hbl2
        have hz2 := hbl2.size
        clear hg2 hbl2
        have hlenj := actsAt_len t n k j
        have hlj : (actsAt t n k j).length ≤ 80000000 := by omega
        by_cases hjl : j < n
        · have hS := Lib.hid (actsAt_succ t n k j)
          obtain ⟨M, hM⟩ : ∃ M, Hid (actsAt t n k j = M) := ⟨_, Lib.hid rfl⟩
          rw [hM.out] at HG2 hS hlj
          clear hlenj
          go_wp2_with ((at_builtin; refine wpList_push rfl (.tmp 27) (.tmp 29) 61 rfl W.heap.size 101 _ 4 40 Act_.enc rfl RingAct_info rfl (by omega) _ M [stepA] 1 rfl rfl (by simp) HG2.out rfl Act__enc_len (Hone.out _ _ _ _) (by simp only [List.length_singleton]; omega) (by omega) (by omega) ?_; intro bv bw bg bb bk))
          go_roundw
          case rel => exact ⟨j + 1, by omega, by go_num, by rw [hS.out]; exact bg, HB2.out.trans (bb.mono (Nat.le_refl _))⟩
          case measure => simp [intOf]; omega
        · obtain rfl : j = n := by omega
          go_wp2
          go_roundw
          case rel => exact ⟨k + 1, by omega, by go_num, HG2.out, HB2.out⟩
          case measure => simp [intOf]; omega
    · obtain rfl : k = t.size := by omega
      obtain ⟨A5, c5, rfl, ho5⟩ := HG.out.own Act__enc_len
      have HO5 := Lib.hid ho5
      clear ho5
      go_wp2
      go_ret
      exact ⟨_, _, rfl, HO5.out.mono (by omega) (Nat.le_refl _), hWb.out.trans (HB.out.mono (by omega))⟩
end Go.Proofs.YtbfhfnejppfehaaDoor

/-
  A map of the call's own from letters to strings.
-/
namespace Go.Proofs.YtbfhfnejppfehaaDoor
open Go.RowKit Go.Maps Go.ChangeMaps Go.MapKept
set_option linter.unusedVariables false
set_option linter.unusedSimpArgs false
set_option maxRecDepth 100000

end Go.Proofs.YtbfhfnejppfehaaDoor

/-
  Contracts: the heads of a touch, whether it comes round (the program's side).
-/
namespace Go.Proofs.YtbfhfnejppfehaaDoor
open Go.RowKit
set_option linter.unusedVariables false
set_option linter.unusedSimpArgs false
set_option maxRecDepth 100000

def callsOk (n : Nat) (x : List ByteArray) (b s : ByteArray) : Prop := ∀ call, chgOk (calledX x b s call)
theorem callsOk_of {n : Int} {x : List ByteArray} {b s : ByteArray} (h : ∀ (i : Nat) (hi : i < x.length), changeP n x[i]) (hb : changeP n b) (hs : changeP n s) (m : Nat) : callsOk m x b s := fun call => by
  refine chgOk_of (n := n) fun i hi => ?_
  have key : ∀ (v : ByteArray), changeP n v → ∀ (i : Nat) (hi : i < (x.set (x.length - 1) v).length), changeP n (x.set (x.length - 1) v)[i] := fun v hv i hi => by
    rw [List.getElem_set]
    split
    · exact hv
    · exact h i _
  unfold calledX
  split
  · exact key b hb i _
  · split
    · exact key s hs i _
    · exact h i _





end Go.Proofs.YtbfhfnejppfehaaDoor

/-
  Contracts: a touch comes round, what is asked of a conductor (both sides).
-/
namespace Go.Proofs.YtbfhfnejppfehaaDoor
open Go.RowKit
set_option linter.unusedVariables false
set_option linter.unusedSimpArgs false
set_option maxRecDepth 100000

structure Geo (m : Mth) (b s : ByteArray) (n : Nat) : Prop where
  st : m.stage = (n : Int)
  n3 : 3 ≤ n
  n8 : n ≤ 8
  l0 : 0 < m.x.length
  l40 : m.x.length ≤ 40
  xs : ∀ c ∈ m.x, c.size ≤ 1048576
  bs : b.size ≤ 1048576
  ss : s.size ≤ 1048576
  ok : callsOk n m.x b s
theorem callsP.geo {m : Mth} {b s : ByteArray} (h : callsP m b s) : Geo m b s m.stage.toNat := by
  have hst := h.1.2.stage
  have h1 := hst.1
  have h2 := hst.2
  refine ⟨by omega, by omega, by omega, by have := h.1.2.1.1; omega, h.1.2.1.2, fun c hc => ?_, by have := h.2.1.size; omega, by have := h.2.2.size; omega, callsOk_of h.1.2.2 h.2.1 h.2.2 _⟩
  obtain ⟨i, hi, rfl⟩ := List.getElem_of_mem hc
  have := (h.1.2.2 i hi).size; omega
/-- What is asked of a method and calls in memory. -/
structure MkOk (m : Mth) (b s : ByteArray) (w : World) : Prop where
  rd : RdL w w.heap.size m.A 1 encString m.x
  nm : m.name.size ≤ 1048576
  xl : m.x.length ≤ 1048576
  xs : ∀ x ∈ m.x, String_small 1048576 x
  bs : b.size ≤ 1048576
  ss : s.size ≤ 1048576
  cp : m.x.length ≤ m.c
theorem MkOk.later {m : Mth} {b s : ByteArray} {w w' : World} (h : MkOk m b s w) (hb : Below w.heap.size w w') : MkOk m b s w' := ⟨(h.rd.below hb (Nat.le_refl _)).more hb.size, h.nm, h.xl, h.xs, h.bs, h.ss, h.cp⟩





def askP (m : Mth) (b s t : ByteArray) : Prop := callsP m b s ∧ touchP t
def condP (m : Mth) (b s : ByteArray) : Prop := callsP m b s ∧ 2 ≤ m.x.length
def isRoundP (m : Mth) (b s t : ByteArray) : Prop := askP m b s t ∧ roundP m.stage.toNat m.x b s t

end Go.Proofs.YtbfhfnejppfehaaDoor
