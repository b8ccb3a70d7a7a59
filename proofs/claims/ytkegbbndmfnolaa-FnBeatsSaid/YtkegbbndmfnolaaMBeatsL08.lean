import Derived.Test.YtkegbbndmfnolaaMBeatsL03
import Derived.Test.YtkegbbndmfnolaaMBeatsLSh
import Derived.Test.YtkegbbndmfnolaaMBeatsL05
import Derived.Test.YtkegbbndmfnolaaMBeatsL06
import Derived.Test.YtkegbbndmfnolaaMBeatsL07
import Derived.Shelf.SortM.Plain
import Derived.Test.YtkegbbndmfnolaaMBeatsL00
/-
  The start for given gaps: in plain words, and the contracts of both sides.
-/
namespace Go.Proofs.Ytkegbbndmfnolaa
open Go.RowKit
set_option linter.unusedVariables false
set_option linter.unusedSimpArgs false
set_option maxRecDepth 100000

/-- The ideal time of a blow. -/
def blowV (st gap hand n r p : Int) : Int := st + gap * (n * r + p - 1) + hand * (r / 2)
theorem mul_bd {a b A B : Int} (h0 : 0 ≤ a) (h1 : a ≤ A) (h2 : 0 ≤ b) (h3 : b ≤ B) : 0 ≤ a * b ∧ a * b ≤ A * B :=
  ⟨Int.mul_nonneg h0 h2, Int.mul_le_mul h1 h3 h2 (by omega)⟩

theorem blowAt_any (st gap hand n p : Int) (r : Nat) (w : World) (hs : 0 ≤ st ∧ st ≤ 1000000) (hg : 0 ≤ gap ∧ gap ≤ 2000) (hh : 0 ≤ hand ∧ hand ≤ 2000) (hn : 3 ≤ n ∧ n ≤ 8) (hr : r ≤ 800) (hp : 1 ≤ p ∧ p ≤ 8) :
    Calls Try.prog 77 #[.agg #[.int .i64 st, .int .i64 gap, .int .i64 hand], .int .i64 n, .int .i64 (r : Int), .int .i64 p] w fun e w' => e = .returned (.int .i64 (blowV st gap hand n r p)) ∧ w' = w.alloc (.cells #[.int .i64 st, .int .i64 gap, .int .i64 hand] 31) := by
  obtain ⟨hs1, hs2⟩ := hs
  obtain ⟨hg1, hg2⟩ := hg
  obtain ⟨hh1, hh2⟩ := hh
  obtain ⟨hn1, hn2⟩ := hn
  obtain ⟨hp1, hp2⟩ := hp
  obtain ⟨m1, m2⟩ := mul_bd (a := n) (b := (r : Int)) (A := 8) (B := 800) (by omega) hn2 (by omega) (by omega)
  obtain ⟨m3, m4⟩ := mul_bd (a := gap) (b := n * (r : Int) + p - 1) (A := 2000) (B := 6407) (by omega) hg2 (by omega) (by omega)
  obtain ⟨m5, m6⟩ := mul_bd (a := hand) (b := (r : Int) / 2) (A := 2000) (B := 400) (by omega) hh2 (by omega) (by omega)
  go_enter Try.func77, Try.ntmps77
  go_wp2
  go_ret
  exact ⟨rfl, rfl⟩
theorem l21Blow_any (st gap hand n p : Int) (r : Nat) (w : World) (hs : 0 ≤ st ∧ st ≤ 1000000) (hg : 0 ≤ gap ∧ gap ≤ 2000) (hh : 0 ≤ hand ∧ hand ≤ 2000) (hn : 3 ≤ n ∧ n ≤ 8) (hr : r ≤ 800) (hp : 1 ≤ p ∧ p ≤ 8) :
    Calls Try.prog 81 #[.agg #[.int .i64 st, .int .i64 gap, .int .i64 hand], .int .i64 n, .int .i64 (r : Int), .int .i64 p] w fun e w' => e = .returned (.int .i64 (blowV st gap hand n r p)) ∧ w' = w.alloc (.cells #[.int .i64 st, .int .i64 gap, .int .i64 hand] 31) := by
  obtain ⟨hs1, hs2⟩ := hs
  obtain ⟨hg1, hg2⟩ := hg
  obtain ⟨hh1, hh2⟩ := hh
  obtain ⟨hn1, hn2⟩ := hn
  obtain ⟨hp1, hp2⟩ := hp
  obtain ⟨m1, m2⟩ := mul_bd (a := n) (b := (r : Int)) (A := 8) (B := 800) (by omega) hn2 (by omega) (by omega)
  obtain ⟨m3, m4⟩ := mul_bd (a := gap) (b := n * (r : Int) + p - 1) (A := 2000) (B := 6407) (by omega) hg2 (by omega) (by omega)
  obtain ⟨m5, m6⟩ := mul_bd (a := hand) (b := (r : Int) / 2) (A := 2000) (B := 400) (by omega) hh2 (by omega) (by omega)
  go_enter Try.func81, Try.ntmps81
  go_wp2
  go_ret
  exact ⟨rfl, rfl⟩

def diffOf (n gap hand : Int) (x : Blw) : Int := x.at_ - blowV 0 gap hand n x.row x.place
def diffL (n gap hand : Int) (l : List Blw) : List Int := l.map (diffOf n gap hand)
theorem diffL_len (n gap hand : Int) (l : List Blw) : (diffL n gap hand l).length = l.length := List.length_map _
theorem diffL_succ (n gap hand : Int) (l : List Blw) (k : Nat) (hk : k < l.length) : diffL n gap hand (l.take (k + 1)) = diffL n gap hand (l.take k) ++ [diffOf n gap hand l[k]] := by
  unfold diffL; rw [List.take_succ_eq_append_getElem hk, List.map_append]; rfl
/-- A stage, blows, gaps that are valid. -/
def fitP (n : Int) (l : List Blw) (gap hand : Int) : Prop := blowsP n l ∧ 0 < l.length ∧ inB gap 1 2000 ∧ inB hand 0 2000
theorem fit_blow {n gap hand : Int} {l : List Blw} (h : fitP n l gap hand) {k : Nat} (hk : k < l.length) :
    ∃ r : Nat, l[k].row = r ∧ r ≤ 800 ∧ 1 ≤ l[k].place ∧ l[k].place ≤ 8 ∧ 0 ≤ l[k].at_ ∧ l[k].at_ ≤ 1000000 ∧ -20000000 ≤ diffOf n gap hand l[k] ∧ diffOf n gap hand l[k] ≤ 1000000 ∧ 0 ≤ blowV 0 gap hand n l[k].row l[k].place ∧ blowV 0 gap hand n l[k].row l[k].place ≤ 20000000 := by
  obtain ⟨⟨⟨n1, n2⟩, _, hb⟩, _, ⟨g1, g2⟩, ⟨h1, h2⟩⟩ := h
  obtain ⟨⟨r1, r2⟩, ⟨p1, p2⟩, ⟨a1, a2⟩, _⟩ := hb k hk
  unfold diffOf blowV
  obtain ⟨m1, m2⟩ := mul_bd (a := n) (b := l[k].row) (A := 8) (B := 800) (by omega) n2 (by omega) (by omega)
  obtain ⟨m3, m4⟩ := mul_bd (a := gap) (b := n * l[k].row + l[k].place - 1) (A := 2000) (B := 6407) (by omega) g2 (by omega) (by omega)
  obtain ⟨m5, m6⟩ := mul_bd (a := hand) (b := l[k].row / 2) (A := 2000) (B := 400) (by omega) h2 (by omega) (by omega)
  exact ⟨l[k].row.toNat, by omega, by omega, by omega, by omega, a1, a2, by omega, by omega, by omega, by omega⟩
section
variable {P : Program} {ops : Array Oper} {o : Oper} {a : Act} {w : World} {K : Act → World → Prop} {Q : Exit → Act → World → Prop} {E : Prop}
/-- A call of a Go function whose value and world are known, as one step of a region that draws. -/
theorem step_calls (hg : o.guard = none) (f : FuncId) {xs : Array Operand} {ts : Array TypeId} (ho : o.op = .call { callee := .value (.func f), args := xs, argTypes := ts }) (vals : Array Value) (v : Value) (W' : World) (henter : (execOp a.eval o).run P w = .ok (.enter f vals) w)
    (h : Calls P f vals w fun e w' => e = .returned v ∧ w' = W') (hK : K (a.put o.dst v) W') : if Region.wanted o (yielded ops a.tmps) = true then Oper.wp P o a w K Q else E := by
  rw [if_pos (by simp [Region.wanted, hg])]
  unfold Oper.wp
  rw [henter, Oper.upon_enter]
  exact h.mono fun e w' ⟨he, hw⟩ => by subst he; subst hw; exact hK
end
/-- The start for given gaps, and the sum of the deviations from it. -/
noncomputable def startV (n gap hand : Int) (l : List Blw) : Int := medOf (diffL n gap hand l) (List.replicate l.length 1)
noncomputable def farV (n gap hand : Int) (l : List Blw) : Int := sumF (fun d => absI (d - startV n gap hand l)) (diffL n gap hand l)
theorem ones_at {m i : Nat} (h : i < m) : (List.replicate m (1 : Int)).getD i 0 = 1 := by rw [getD_get (by simpa using h)]; simp
theorem absI_bd2 {e B : Int} (h : inB e (-B) B) : 0 ≤ absI e ∧ absI e ≤ B := by unfold inB at h; unfold absI; split <;> omega
theorem diff_all {n gap hand : Int} {l : List Blw} (h : fitP n l gap hand) : ∀ d ∈ diffL n gap hand l, -20000000 ≤ d ∧ d ≤ 1000000 := fun d hd => by
  obtain ⟨x, hx, rfl⟩ := List.mem_map.1 hd
  obtain ⟨k, hk, rfl⟩ := List.getElem_of_mem hx
  obtain ⟨r, _, _, _, _, _, _, h1, h2, _⟩ := fit_blow h hk
  exact ⟨h1, h2⟩
theorem start_med {n gap hand : Int} {l : List Blw} (h : fitP n l gap hand) : isMed (diffL n gap hand l) (List.replicate l.length 1) (startV n gap hand l) := by
  obtain ⟨v, hv⟩ := med_exists (vs := diffL n gap hand l) (ws := List.replicate l.length 1) (fun e => by have := diffL_len n gap hand l; rw [e] at this; have := h.2.1; simp at *; omega) (fun i hi => by rw [ones_at (by rw [diffL_len] at hi; exact hi)]; omega)
  unfold startV; rw [medOf_eq hv]; exact hv
theorem start_bd {n gap hand : Int} {l : List Blw} (h : fitP n l gap hand) : -20000000 ≤ startV n gap hand l ∧ startV n gap hand l ≤ 1000000 := diff_all h _ (start_med h).1
theorem far_bd {n gap hand : Int} {l : List Blw} (h : fitP n l gap hand) : 0 ≤ farV n gap hand l ∧ farV n gap hand l ≤ 400 * 30000000 := by
  have hb := start_bd h
  have ha := diff_all h
  refine ⟨sumF_nonneg _ _ fun d hd => (absI_bd2 (B := 30000000) (by have := ha d hd; unfold inB; omega)).1, ?_⟩
  have := sumF_bd (fun d => absI (d - startV n gap hand l)) 30000000 (diffL n gap hand l) (fun d hd => (absI_bd2 (B := 30000000) (by have := ha d hd; unfold inB; omega)).2)
  rw [diffL_len] at this
  have h4 := h.1.2.1
  unfold farV; omega
/-- The middle of the sorted differences. -/
theorem start_mid {n gap hand : Int} {l : List Blw} (h : fitP n l gap hand) {s : List Int} (hp : s.Perm (diffL n gap hand l)) (hs : ∀ (i j : Nat) (hi : i < s.length) (hj : j < s.length), i < j → s[i] ≤ s[j]) (hm : (s.length - 1) / 2 < s.length) :
    s[(s.length - 1) / 2] = startV n gap hand l := by
  have := isMed_of_sorted (ws := List.replicate l.length 1) hp (fun i hi => ones_at (by rw [diffL_len] at hi; exact hi)) hs hm
  unfold startV; rw [medOf_eq this]
theorem sortInt_any (zs : List Int) (hl0 : 0 < zs.length) (hl : zs.length ≤ 400) (blk cap c0 c1 : Nat) (w : World) (ho : OwnL w c0 c1 (some ⟨blk, 0, none⟩) 1 encInt zs) :
    Calls Try.prog 78 #[.slice (some ⟨blk, 0, none⟩) zs.length cap] w fun e w' => e = .returned (.tuple #[]) ∧ ∃ s : List Int, s.Perm zs ∧ (∀ (i j : Nat) (hi : i < s.length) (hj : j < s.length), i < j → s[i] ≤ s[j]) ∧ OwnL w' c0 c1 (some ⟨blk, 0, none⟩) 1 encInt s ∧ Chg blk (blk + 1) w w' := by
  obtain ⟨g, f, hA, hg1, hg2, hc⟩ := ho.cells hl0
  simp only [Option.some.injEq, Addr.mk.injEq, and_true] at hA
  subst hA
  have hblk := hc.lt
  have hH : Sort.Holds (Value.int .i64) w blk 0 zs.toArray := holds_own (Value.int .i64) zs.toArray ho (by simp) (fun i h1 h2 => by
    rw [getElem!_pos zs.toArray i h1]; simp [encInt])
  have hcon := AnyM.slices_Sort_int Try.sortInt blk 0 cap zs w hH hblk (by omega)
  change Calls Try.prog 78 _ _ _ at hcon
  refine hcon.mono ?_
  rintro e w' ⟨rfl, n, os, rfl⟩
  have hperm := List.mergeSort_perm zs (fun x y => decide (x ≤ y))
  have hpw := List.pairwise_mergeSort (le := fun x y : Int => decide (x ≤ y)) (fun a b c h1 h2 => by simp at *; omega) (fun a b => by simp; omega) zs
  show _ ∧ ∃ s : List Int, s.Perm zs ∧ _ ∧ OwnL (Sort.grow (Sort.putRow (Value.int .i64) (Sort.ahead w n) blk 0 (zs.mergeSort fun x y => decide (x ≤ y)).toArray) os) _ _ _ _ _ _ ∧ Chg blk (blk + 1) w (Sort.grow (Sort.putRow (Value.int .i64) (Sort.ahead w n) blk 0 (zs.mergeSort fun x y => decide (x ≤ y)).toArray) os)
  generalize (zs.mergeSort fun x y => decide (x ≤ y)) = s at hperm hpw ⊢
  have hcs := cells_sortWorld (Value.int .i64) w blk n zs.toArray s.toArray os hblk hH (by simpa using hperm.length_eq)
  rw [List.size_toArray] at hcs
  refine ⟨rfl, s, hperm, fun i j hi hj hij => ?_, .inr ⟨blk, _, rfl, hg1, hg2, by rw [Nat.mul_one]; exact hcs, fun i hi j u hu => ?_⟩, chg_sortWorld _ _ _ _ _ _ _⟩
  · have := List.pairwise_iff_getElem.1 hpw i j hi hj hij
    simpa using this
  · have hj : j = 0 := by have := (List.getElem?_eq_some_iff.1 hu).1; simp [encInt] at this; exact this
    subst hj
    simp [encInt] at hu
    subst hu
    have h9 : s.toArray[i]! = s[i] := by rw [getElem!_pos s.toArray i (by simpa using hi)]; simp
    rw [Nat.mul_one, Nat.add_zero, h9]
theorem absW_any (e : Int) (w : World) (h : inB e (-100000000) 100000000) : Calls Try.prog 79 #[.int .i64 e] w fun e' w' => e' = .returned (.int .i64 (absI e)) ∧ w = w' := by
  unfold inB at h
  obtain ⟨h1, h2⟩ := h
  by_cases h0 : e < 0
  · have e1 : absI e = -e := if_pos h0
    have E1 := Lib.hid e1
    clear e1
    have h3 : e < -e := by omega
    go_enter Try.func79, Try.ntmps79
    go_wp2
    go_ret
    exact ⟨ret_int (by rw [E1.out]; omega), rfl⟩
  · have e1 : absI e = e := if_neg h0
    have E1 := Lib.hid e1
    clear e1
    have h3 : ¬ e < -e := by omega
    go_enter Try.func79, Try.ntmps79
    go_wp2
    go_ret
    exact ⟨ret_int (by rw [E1.out]; omega), rfl⟩



set_option maxHeartbeats 3200000 in
theorem startFor_any (n gap hand : Int) (l : List Blw) (A : Option Addr) (c : Nat) (w : World) (h : RdL w w.heap.size A 3 Blw.enc l) (hp : fitP n l gap hand) :
    Calls Try.prog 60 #[.int .i64 n, .slice A l.length c, .int .i64 gap, .int .i64 hand] w fun e w' => e = .returned (.tuple #[.int .i64 (startV n gap hand l), .int .i64 (farV n gap hand l)]) ∧ Below w.heap.size w w' := by
  have H := Lib.hid h
  have HP := Lib.hid hp
  have hl4 := hp.1.2.1
  have hl0 := hp.2.1
  clear h hp
  go_enter Try.func60, Try.ntmps60
  go_wp2
  skip
  go_loopw [10, 20] (fun v i wr => ∃ k : Nat, k ≤ l.length ∧ i = .int .i64 k ∧ Grow wr w.heap.size 3 1 encInt v (diffL n gap hand (l.take k)) ∧ Below w.heap.size w wr) (fun _ i _ => l.length - (intOf i).toNat)
  case atStart => exact ⟨0, by omega, by rfl, Grow.empty (Nat.le_refl _), (Below.refl _ _).alloc (Nat.le_refl _) _⟩
  case round =>
    obtain ⟨k, hk, rfl, hg, hbl⟩ := hrel
    have Hg := Lib.hid hg
    have Hb := Lib.hid hbl
    have hz1 := hbl.size
    clear hg hbl
    by_cases hlt : k < l.length
    · obtain ⟨r, x1, x2, x3, x4, x5, x6, x7, x8, x9, x10⟩ := fit_blow HP.out hlt
      have hsu := diffL_succ n gap hand l k hlt
      have hd0 : diffOf n gap hand l[k] = l[k].at_ - blowV 0 gap hand n l[k].row l[k].place := rfl
      obtain ⟨g, off, hA, hgl, hcell⟩ := H.out.at hlt
      have r0 := (Hb.out.cell (p := ⟨g, off + k * 3, none⟩) hgl).trans (hcell 0 _ rfl)
      have r1 := (Hb.out.cell (p := ⟨g, off + k * 3 + 1, none⟩) hgl).trans (hcell 1 _ rfl)
      have r2 := (Hb.out.cell (p := ⟨g, off + k * 3 + 2, none⟩) hgl).trans (hcell 2 _ rfl)
      subst hA
      rw [x1] at r0 x9 x10 hd0
      generalize l[k].place = p at *
      generalize l[k].at_ = t at *
      generalize diffOf n gap hand l[k] = d at *
      have Hsu := Lib.hid hsu
      have Hd0 := Lib.hid hd0
      have hcall : ∀ W, Calls Try.prog 77 #[.agg #[.int .i64 0, .int .i64 gap, .int .i64 hand], .int .i64 n, .int .i64 (r : Int), .int .i64 p] W fun e w' => e = .returned (.int .i64 (blowV 0 gap hand n r p)) ∧ w' = W.alloc (.cells #[.int .i64 0, .int .i64 gap, .int .i64 hand] 31) := fun W => blowAt_any 0 gap hand n p r W (by omega) ⟨by have := HP.out.2.2.1.1; omega, HP.out.2.2.1.2⟩ HP.out.2.2.2 HP.out.1.1 x2 ⟨x3, x4⟩
      have Hcall := Lib.hid hcall
      generalize blowV 0 gap hand n r p = bv at *
      have hdv : Hid (IntKind.i64.wrap (t - bv) = d) := Lib.hid (by rw [Hd0.out]; exact IntWalk.i64_in _ (by omega))
      have hlen : (diffL n gap hand (l.take k)).length ≤ 400 := by rw [diffL_len, List.length_take]; omega
      clear hcell hcall hsu hd0
      have hone : (∀ u ∈ [Value.int .i64 d], u.oneCell' = true) := by simp [Value.oneCell']
      have Hone := Lib.hid hone
      clear hone
      go_wp2
      have q0 : (wr.alloc (.cells #[.int .i64 (r : Int), .int .i64 p, .int .i64 t] 53)).cell? ⟨wr.heap.size, 0, none⟩ = some (.int .i64 (r : Int)) := by rw [World.cell?_alloc_new]; rfl
      have q1 : (wr.alloc (.cells #[.int .i64 (r : Int), .int .i64 p, .int .i64 t] 53)).cell? ⟨wr.heap.size, 1, none⟩ = some (.int .i64 p) := by rw [World.cell?_alloc_new]; rfl
      have q2 : (wr.alloc (.cells #[.int .i64 (r : Int), .int .i64 p, .int .i64 t] 53)).cell? ⟨wr.heap.size, 2, none⟩ = some (.int .i64 t) := by rw [World.cell?_alloc_new]; rfl
      have HG : Hid (Grow (wr.alloc (.cells #[.int .i64 (r : Int), .int .i64 p, .int .i64 t] 53)) w.heap.size 3 1 encInt u10 (diffL n gap hand (l.take k))) := Lib.hid (Hg.out.alloc _)
      have HBq : Hid (Below w.heap.size w (wr.alloc (.cells #[.int .i64 (r : Int), .int .i64 p, .int .i64 t] 53))) := Lib.hid (Hb.out.alloc hz1 _)
      have hgq : wr.heap.size < (wr.alloc (.cells #[.int .i64 (r : Int), .int .i64 p, .int .i64 t] 53)).heap.size := by simp
      clear r0 r1 r2
      generalize wr.alloc (.cells #[.int .i64 (r : Int), .int .i64 p, .int .i64 t] 53) = wq at *
      generalize wr.heap.size = gq at *
      have hwq := HBq.out.size
      go_region_law (first | (refine step_calls rfl 77 rfl #[.agg #[.int .i64 0, .int .i64 gap, .int .i64 hand], .int .i64 n, .int .i64 (r : Int), .int .i64 p] _ _ (by go_simp) (Hcall.out _) ?_) | (refine step_pushA rfl (.tmp 24) (.tmp 37) 61 rfl w.heap.size 3 _ 1 8 encInt rfl Int_info rfl (by omega) u10 (diffL n gap hand (l.take k)) [d] 1 rfl rfl (by simp) (show Grow (World.alloc wq.drew (.cells #[.int .i64 0, .int .i64 gap, .int .i64 hand] 31)) w.heap.size 3 1 encInt u10 (diffL n gap hand (l.take k)) from (HG.out.drewN 1).alloc _) (by rw [hdv.out]; rfl) encInt_len (by simp [Value.oneCell']) (by simp) (by simp only [List.length_singleton]; omega) (by omega) (by simp; omega) ?_; intro v' w2 hg2 hb2 _ _))
      all_goals
        have HG2 := Lib.hid hg2
        have HB2 := Lib.hid hb2
        clear hg2 hb2
        go_wp2
        go_roundw
        case rel => exact ⟨k + 1, by omega, by go_num, by rw [Hsu.out]; exact HG2.out, ((HBq.out.drew).alloc hwq _).trans HB2.out⟩
        case measure => simp [intOf]; omega
    · obtain rfl : k = l.length := by omega
      have hg := Hg.out
      rw [List.take_length] at hg
      obtain ⟨A9, c9, hv, ho9⟩ := hg.own encInt_len
      subst hv
      obtain ⟨g9, hA9, hg91, hg92, hg93⟩ := ho9.some_of (by rw [diffL_len]; omega)
      subst hA9
      have HO := Lib.hid ho9
      clear hg ho9
      skip
      have hnl := diffL_len n gap hand l
      have hord := fun s => start_mid HP.out (s := s)
      have hall := diff_all HP.out
      obtain ⟨D, hD⟩ : ∃ D, Hid (diffL n gap hand l = D) := ⟨_, Lib.hid rfl⟩
      obtain ⟨st, hst⟩ : ∃ st, Hid (startV n gap hand l = st) := ⟨_, Lib.hid rfl⟩
      have hsb := start_bd HP.out
      rw [hst.out] at hsb
      have hfv : Hid (farV n gap hand l = sumF (fun d => absI (d - st)) D) := Lib.hid (by unfold farV; rw [hst.out, hD.out])
      have hO2 := HO.out
      rw [hD.out] at hO2 hnl hall ⊢
      have HO2 := Lib.hid hO2
      have hDn := Lib.hid hnl
      have Hord : Hid (∀ s : List Int, s.Perm D → (∀ (i j : Nat) (hi : i < s.length) (hj : j < s.length), i < j → s[i] ≤ s[j]) → ∀ hm : (s.length - 1) / 2 < s.length, s[(s.length - 1) / 2] = st) := Lib.hid (fun s => by have := hord s; rw [hst.out, hD.out] at this; exact this)
      have Hall := Lib.hid hall
      have hsort : Hid (∀ cap, Calls Try.prog 78 #[.slice (some ⟨g9, 0, none⟩) D.length cap] wr fun e w' => e = .returned (.tuple #[]) ∧ ∃ s : List Int, s.Perm D ∧ (∀ (i j : Nat) (hi : i < s.length) (hj : j < s.length), i < j → s[i] ≤ s[j]) ∧ OwnL w' w.heap.size wr.heap.size (some ⟨g9, 0, none⟩) 1 encInt s ∧ Chg g9 (g9 + 1) wr w') := Lib.hid (fun cap => sortInt_any D (by omega) (by omega) g9 cap _ _ _ HO2.out)
      clear hO2 hnl hord hall
      go_wp2_with (go_at_call 78; refine (hsort.out _).mono ?_; rintro e w2 ⟨rfl, s, hperm, hsd, hso, hchg⟩; have HPerm := Lib.hid hperm; have Hsd := Lib.hid hsd; have Hso := Lib.hid hso; have HChg := Lib.hid hchg; have hsl : s.length ≤ 400 := (by have := hperm.length_eq; have := hDn.out; omega); have hsl0 : 0 < s.length := (by have := hperm.length_eq; have := hDn.out; omega); have hDs : D.length = s.length := hperm.length_eq.symm; have hmid := Hord.out s hperm hsd (by omega); have hmc := (hso.cellInt ((s.length - 1) / 2) (by omega)).1; rw [hmid] at hmc; have hmq : ((s.length : Int) - 1) / 2 = (((s.length - 1) / 2 : Nat) : Int) := (by omega); have hmlt : (s.length - 1) / 2 < s.length := (by omega); rw [hDs] at *; clear hperm hsd hso hchg hmid)
      obtain ⟨F, hF⟩ : ∃ F : Nat → Int, Hid (F = fun k => sumF (fun d => absI (d - st)) (s.take k)) := ⟨_, Lib.hid rfl⟩
      have hFs : Hid (∀ (k : Nat) (hk : k < s.length), F (k + 1) = F k + absI (s[k] - st)) := Lib.hid (fun k hk => by rw [hF.out]; exact sumF_take_succ _ _ _ hk)
      have hab : Hid (∀ (k : Nat) (hk : k < s.length), -20000000 ≤ s[k] ∧ s[k] ≤ 1000000 ∧ 0 ≤ absI (s[k] - st) ∧ absI (s[k] - st) ≤ 30000000) := Lib.hid (fun k hk => by
        have h1 := Hall.out _ (HPerm.out.mem_iff.1 (List.getElem_mem hk))
        have h2 := absI_bd2 (e := s[k] - st) (B := 30000000) (by unfold inB; omega)
        exact ⟨h1.1, h1.2, h2.1, h2.2⟩)
      have hFb : Hid (∀ k, k ≤ s.length → 0 ≤ F k ∧ F k ≤ 30000000 * k) := Lib.hid (fun k => by
        induction k with
        | zero => intro _; rw [hF.out]; simp [sumF]
        | succ k ih => intro hk; have := ih (by omega); have h1 := hFs.out k (by omega); have h2 := hab.out k (by omega); omega)
      have hFe : Hid (F s.length = sumF (fun d => absI (d - st)) D) := Lib.hid (by rw [hF.out]; simp only [List.take_length]; exact sumF_perm _ HPerm.out)
      obtain ⟨hsb1, hsb2⟩ := hsb
      have HB2 : Hid (Below w.heap.size w w2) := Lib.hid (Go.Proofs.Ytkegbbndmfnolaa.Below.chg Hb.out HChg.out hg91 hz1)
      clear hmc hDs hmq hmlt
      go_loop [14, 51] (fun v i => ∃ k : Nat, k ≤ s.length ∧ i = .int .i64 k ∧ v = .int .i64 (F k)) (fun _ i => s.length - (intOf i).toNat)
      case atStart => exact ⟨0, by omega, by rfl, by rw [hF.out]; rfl⟩
      case round =>
        obtain ⟨k, hk, rfl, rfl⟩ := hrel
        obtain ⟨b1, b2⟩ := hFb.out k hk
        by_cases hlt : k < s.length
        · have hst2 := hFs.out k hlt
          obtain ⟨c1, c2, c3, c4⟩ := hab.out k hlt
          have rc := (Hso.out.cellInt k hlt).1
          generalize s[k] = d at *
          generalize hFk : F k = f at *
          have HFk := Lib.hid hFk
          have Hst2 := Lib.hid hst2
          clear hFk hst2
          go_wp2_with (go_at_call 79; refine (absW_any _ _ (by unfold inB; omega)).mono ?_; rintro e w' ⟨rfl, rfl⟩)
          go_round
          case rel => exact ⟨k + 1, by omega, by go_num, by rw [Hst2.out]⟩
          case measure => simp [intOf]; omega
        · obtain rfl : k = s.length := by omega
          have hfe := hFe.out
          generalize F s.length = f at *
          have Hfe := Lib.hid hfe
          clear hfe
          go_wp2
          go_ret2
          exact ⟨by rw [hst.out, hfv.out, ← Hfe.out]; rfl, HB2.out⟩
end Go.Proofs.Ytkegbbndmfnolaa

/-
  Equality of two strings, as the walk asks it.
-/
namespace Go.Proofs.Ytkegbbndmfnolaa
theorem toList_inj {s t : ByteArray} : s.toList = t.toList ↔ s = t := by
  constructor
  · intro h
    rw [ByteArray.toList_eq, ByteArray.toList_eq] at h
    exact ByteArray.ext (Array.ext' h)
  · intro h; rw [h]
theorem eqB_t {s t : ByteArray} (h : s = t) : (s.toList == t.toList) = true := by rw [h]; simp
theorem eqB_f {s t : ByteArray} (h : ¬ s = t) : (s.toList == t.toList) = false := by rw [beq_eq_false_iff_ne]; exact fun e => h (toList_inj.1 e)
end Go.Proofs.Ytkegbbndmfnolaa
