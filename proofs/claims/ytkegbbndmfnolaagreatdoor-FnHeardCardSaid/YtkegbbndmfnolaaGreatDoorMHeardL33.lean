import Derived.Test.YtkegbbndmfnolaaGreatDoorMHeardL25
import Derived.Laws.StructEq
/-
  Contracts: FirstWrong of both sides.
-/
namespace Go.Proofs.YtkegbbndmfnolaaGreatDoor
open Go.RowKit
set_option linter.unusedVariables false
set_option linter.unusedSimpArgs false
set_option maxRecDepth 100000

section
attribute [-go_sem] run_eql_struct run_neq_struct
theorem neSpk_any (r' r : Int) (c' c : ByteArray) (w : World) : (binOp .neq 108 (.agg #[.int .i64 r', .string c']) (.agg #[.int .i64 r, .string c])).run Tryz.prog w = .ok (.bool (!(r' == r && c'.toList == c.toList))) w := by
  have hs : (Tryz.prog).stoodInHeld 108 = false := by kernel_rfl
  rw [run_neq_struct, show (10000 : Nat) = 9999 + 1 from rfl, run_equalIn_struct w 9999 108 _ _ (by simp [Program.fieldsOf, Tryz.underlying108]) hs]
  simp only [Program.fieldsOf, Tryz.underlying108]
  by_cases h1 : r' = r <;> by_cases h4 : c'.toList = c.toList <;>
    simp [go_sem, h1, h4]
theorem neSpk_t {x y : Spk} (h : ¬ x = y) (w : World) : (binOp .neq 108 (.agg #[.int .i64 x.row, .string x.word]) (.agg #[.int .i64 y.row, .string y.word])).run Tryz.prog w = .ok (.bool true) w := by
  rw [neSpk_any]
  have : (x.row == y.row && x.word.toList == y.word.toList) = false := by
    rw [Bool.eq_false_iff]; intro e; apply h
    obtain ⟨a, b⟩ := x
    obtain ⟨a', b'⟩ := y
    simp at e
    obtain ⟨rfl, e2⟩ := e
    rw [toList_inj.1 e2]
  rw [this]; rfl
theorem neSpk_f {x y : Spk} (h : x = y) (w : World) : (binOp .neq 108 (.agg #[.int .i64 x.row, .string x.word]) (.agg #[.int .i64 y.row, .string y.word])).run Tryz.prog w = .ok (.bool false) w := by
  rw [neSpk_any, h]; simp
end
open Classical in
/-- The first place at which two lists differ. -/
noncomputable def fstDiff (a l : List Spk) : Int × Bool := if h : ∃ k : Nat, (∀ j, j < k → a[j]? = l[j]?) ∧ a[k]? ≠ l[k]? then ((h.choose : Int), true) else (0, false)
theorem fstDiff_at {a l : List Spk} {k : Nat} (h1 : ∀ j, j < k → a[j]? = l[j]?) (h2 : a[k]? ≠ l[k]?) : fstDiff a l = ((k : Int), true) := by
  have hex : ∃ k : Nat, (∀ j, j < k → a[j]? = l[j]?) ∧ a[k]? ≠ l[k]? := ⟨k, h1, h2⟩
  unfold fstDiff
  rw [dif_pos hex]
  obtain ⟨g1, g2⟩ := hex.choose_spec
  generalize hex.choose = m at *
  rcases Nat.lt_trichotomy m k with h | h | h
  · exact absurd (h1 m h) g2
  · rw [h]
  · exact absurd (g1 k h) h2
theorem fstDiff_no {a l : List Spk} (h1 : ∀ j, j < a.length ∨ j < l.length → a[j]? = l[j]?) : fstDiff a l = (0, false) := by
  unfold fstDiff
  rw [dif_neg]
  rintro ⟨k, _, h2⟩
  by_cases h : k < a.length ∨ k < l.length
  · exact h2 (h1 k h)
  · exact h2 (by rw [List.getElem?_eq_none (by omega), List.getElem?_eq_none (by omega)])
open Classical in
/-- What FirstWrong answers. -/
noncomputable def fwR (m : Mth) (b s t : ByteArray) (first : Int) (l : List Spk) : Int × Bool := if (sayR m b s t first).2 = true ∧ spokenLP l then fstDiff (sayR m b s t first).1 l else (0, false)
theorem sayR_len {m : Mth} {b s t : ByteArray} {first : Int} : (sayR m b s t first).1.length ≤ 63 := by
  by_cases h : sayP m b s t first
  · rw [sayR_t h]; exact sayL_small h.2.2.1.2.2
  · rw [sayR_f h]; simp










section
attribute [-go_sem] run_eql_struct run_neq_struct
set_option maxHeartbeats 6400000 in
theorem iFirstWrong_any (m : Mth) (b s t : ByteArray) (first : Int) (l : List Spk) (A' : Option Addr) (c' : Nat) (w : World) (h : MkOk m b s w) (ht : t.size ≤ 1048576) (hh : RdL w w.heap.size A' 2 Spk.enc l) (hl : l.length ≤ 1048576) :
    Calls Tryz.prog 34 #[.agg #[Value.string m.name, .int .i64 m.stage, .slice m.A m.x.length m.c], .agg #[Value.string b, .string s], .string t, .int .i64 first, .slice A' l.length c'] w fun e w' => e = .returned (.tuple #[.int .i64 (fwR m b s t first l).1, .bool (fwR m b s t first l).2]) ∧ Below w.heap.size w w' := by
  have Hl := Lib.hid hh
  have hsl := sayR_len (m := m) (b := b) (s := s) (t := t) (first := first)
  obtain ⟨R, hR⟩ : ∃ R, Hid (sayR m b s t first = R) := ⟨_, Lib.hid rfl⟩
  obtain ⟨a, ok⟩ := R
  rw [hR.out] at hsl
  simp only at hsl
  clear hh
  by_cases c1 : ok = true
  rotate_left
  · have hok : ok = false := by cases ok <;> simp_all
    subst hok
    have hF : Hid (fwR m b s t first l = (0, false)) := Lib.hid (by unfold fwR; rw [hR.out, if_neg (fun x => c1 x.1)])
    clear c1
    have hW : ∃ W : World, Hid ((w.alloc (.cells #[Value.string m.name, .int .i64 m.stage, .slice m.A m.x.length m.c] 26)).alloc (.cells #[Value.string b, .string s] 28) = W) ∧ Hid (Below w.heap.size w W) ∧ w.heap.size + 2 ≤ W.heap.size ∧ Hid (Cells W w.heap.size 3 (fun i => (#[Value.string m.name, .int .i64 m.stage, .slice m.A m.x.length m.c] : Array Value).getD i undef)) ∧ Hid (Cells W (w.heap.size + 1) 2 (fun i => (#[Value.string b, .string s] : Array Value).getD i undef)) := by
      have z1 : w.heap.size + 1 = (w.alloc (.cells #[Value.string m.name, .int .i64 m.stage, .slice m.A m.x.length m.c] 26)).heap.size := by simp
      refine ⟨_, Lib.hid rfl, Lib.hid (((Below.refl _ _).alloc (Nat.le_refl _) _).alloc (by simp) _), by simp, Lib.hid ?_, Lib.hid ?_⟩
      · exact (Cells.newD _ #[Value.string m.name, .int .i64 m.stage, .slice m.A m.x.length m.c] _).alloc _
      · rw [z1]; exact Cells.newD _ #[Value.string b, .string s] _
    obtain ⟨W, hWe, hWb, hWs, hM, hK⟩ := hW
    have H := Lib.hid (h.later hWb.out)
    clear h
    have u0 : W.cell? ⟨w.heap.size, 0, none⟩ = some (.string m.name) := hM.out.cell (i := 0) (by omega)
    have u1 : W.cell? ⟨w.heap.size, 1, none⟩ = some (.int .i64 m.stage) := hM.out.cell (i := 1) (by omega)
    have u2 : W.cell? ⟨w.heap.size, 2, none⟩ = some (.slice m.A m.x.length m.c) := hM.out.cell (i := 2) (by omega)
    have u3 : W.cell? ⟨w.heap.size + 1, 0, none⟩ = some (.string b) := hK.out.cell (i := 0) (by omega)
    have u4 : W.cell? ⟨w.heap.size + 1, 1, none⟩ = some (.string s) := hK.out.cell (i := 1) (by omega)
    go_enter Tryz.func34, Tryz.ntmps34
    go_wp2_with fail
    rw [hWe.out]
    clear hWe
    go_wp2_with (go_at_call 96; refine (iSpokenFor_any m b s t first _ H.out ht).mono ?_; rw [hR.out]; rintro e w1 ⟨A1, c1, rfl, ho1, hb1⟩; have Ho1 := Lib.hid ho1; have Hb1 := Lib.hid (hWb.out.trans (hb1.mono hWb.out.size)); have hs1 := hb1.size; have Hl1 := Lib.hid ((Hl.out.below (hWb.out.trans (hb1.mono hWb.out.size)) (Nat.le_refl _)).more (Nat.le_trans hWb.out.size hb1.size)); clear ho1 hb1 u0 u1 u2 u3 u4)
    go_ret2
    rw [hF.out]
    exact ⟨rfl, Hb1.out⟩
  subst c1
  by_cases c2 : spokenLP l
  rotate_left
  · have e2 := B_f c2
    have hF : Hid (fwR m b s t first l = (0, false)) := Lib.hid (by unfold fwR; rw [if_neg (fun x => c2 x.2)])
    clear c2
    have hW : ∃ W : World, Hid ((w.alloc (.cells #[Value.string m.name, .int .i64 m.stage, .slice m.A m.x.length m.c] 26)).alloc (.cells #[Value.string b, .string s] 28) = W) ∧ Hid (Below w.heap.size w W) ∧ w.heap.size + 2 ≤ W.heap.size ∧ Hid (Cells W w.heap.size 3 (fun i => (#[Value.string m.name, .int .i64 m.stage, .slice m.A m.x.length m.c] : Array Value).getD i undef)) ∧ Hid (Cells W (w.heap.size + 1) 2 (fun i => (#[Value.string b, .string s] : Array Value).getD i undef)) := by
      have z1 : w.heap.size + 1 = (w.alloc (.cells #[Value.string m.name, .int .i64 m.stage, .slice m.A m.x.length m.c] 26)).heap.size := by simp
      refine ⟨_, Lib.hid rfl, Lib.hid (((Below.refl _ _).alloc (Nat.le_refl _) _).alloc (by simp) _), by simp, Lib.hid ?_, Lib.hid ?_⟩
      · exact (Cells.newD _ #[Value.string m.name, .int .i64 m.stage, .slice m.A m.x.length m.c] _).alloc _
      · rw [z1]; exact Cells.newD _ #[Value.string b, .string s] _
    obtain ⟨W, hWe, hWb, hWs, hM, hK⟩ := hW
    have H := Lib.hid (h.later hWb.out)
    clear h
    have u0 : W.cell? ⟨w.heap.size, 0, none⟩ = some (.string m.name) := hM.out.cell (i := 0) (by omega)
    have u1 : W.cell? ⟨w.heap.size, 1, none⟩ = some (.int .i64 m.stage) := hM.out.cell (i := 1) (by omega)
    have u2 : W.cell? ⟨w.heap.size, 2, none⟩ = some (.slice m.A m.x.length m.c) := hM.out.cell (i := 2) (by omega)
    have u3 : W.cell? ⟨w.heap.size + 1, 0, none⟩ = some (.string b) := hK.out.cell (i := 0) (by omega)
    have u4 : W.cell? ⟨w.heap.size + 1, 1, none⟩ = some (.string s) := hK.out.cell (i := 1) (by omega)
    go_enter Tryz.func34, Tryz.ntmps34
    go_wp2_with fail
    rw [hWe.out]
    clear hWe
    go_wp2_with (first | (go_at_call 96; refine (iSpokenFor_any m b s t first _ H.out ht).mono ?_; rw [hR.out]; rintro e w1 ⟨A1, c1, rfl, ho1, hb1⟩; have Ho1 := Lib.hid ho1; have Hb1 := Lib.hid (hWb.out.trans (hb1.mono hWb.out.size)); have hs1 := hb1.size; have Hl1 := Lib.hid ((Hl.out.below (hWb.out.trans (hb1.mono hWb.out.size)) (Nat.le_refl _)).more (Nat.le_trans hWb.out.size hb1.size)); clear ho1 hb1 u0 u1 u2 u3 u4) | (go_at_call 84; refine (goodSpoken_any l A' c' _ Hl1.out hl).mono ?_; rintro e w2 ⟨rfl, hb2⟩; have Hb2 := Lib.hid (Hb1.out.trans (hb2.mono Hb1.out.size)); have hs2 := hb2.size; have Hl2 := Lib.hid ((Hl1.out.below hb2 (Nat.le_refl _)).more hb2.size); have Ho2 := Lib.hid ((Ho1.out.later hb2).rd Spk_enc_len); clear hb2))
    go_ret2
    rw [hF.out]
    exact ⟨rfl, Hb2.out⟩
  have e2 := B_t c2
  have hF : Hid (fwR m b s t first l = fstDiff a l) := Lib.hid (by unfold fwR; rw [hR.out, if_pos ⟨rfl, c2⟩])
  clear c2
  have hW : ∃ W : World, Hid ((w.alloc (.cells #[Value.string m.name, .int .i64 m.stage, .slice m.A m.x.length m.c] 26)).alloc (.cells #[Value.string b, .string s] 28) = W) ∧ Hid (Below w.heap.size w W) ∧ w.heap.size + 2 ≤ W.heap.size ∧ Hid (Cells W w.heap.size 3 (fun i => (#[Value.string m.name, .int .i64 m.stage, .slice m.A m.x.length m.c] : Array Value).getD i undef)) ∧ Hid (Cells W (w.heap.size + 1) 2 (fun i => (#[Value.string b, .string s] : Array Value).getD i undef)) := by
    have z1 : w.heap.size + 1 = (w.alloc (.cells #[Value.string m.name, .int .i64 m.stage, .slice m.A m.x.length m.c] 26)).heap.size := by simp
    refine ⟨_, Lib.hid rfl, Lib.hid (((Below.refl _ _).alloc (Nat.le_refl _) _).alloc (by simp) _), by simp, Lib.hid ?_, Lib.hid ?_⟩
    · exact (Cells.newD _ #[Value.string m.name, .int .i64 m.stage, .slice m.A m.x.length m.c] _).alloc _
    · rw [z1]; exact Cells.newD _ #[Value.string b, .string s] _
  obtain ⟨W, hWe, hWb, hWs, hM, hK⟩ := hW
  have H := Lib.hid (h.later hWb.out)
  clear h
  have u0 : W.cell? ⟨w.heap.size, 0, none⟩ = some (.string m.name) := hM.out.cell (i := 0) (by omega)
  have u1 : W.cell? ⟨w.heap.size, 1, none⟩ = some (.int .i64 m.stage) := hM.out.cell (i := 1) (by omega)
  have u2 : W.cell? ⟨w.heap.size, 2, none⟩ = some (.slice m.A m.x.length m.c) := hM.out.cell (i := 2) (by omega)
  have u3 : W.cell? ⟨w.heap.size + 1, 0, none⟩ = some (.string b) := hK.out.cell (i := 0) (by omega)
  have u4 : W.cell? ⟨w.heap.size + 1, 1, none⟩ = some (.string s) := hK.out.cell (i := 1) (by omega)
  go_enter Tryz.func34, Tryz.ntmps34
  go_wp2_with fail
  rw [hWe.out]
  clear hWe
  by_cases hmx : a.length < l.length
  all_goals
    first | have hmi : (a.length : Int) < (l.length : Int) := by omega | have hmi : ¬ (a.length : Int) < (l.length : Int) := by omega
    first | have hmj : (a.length : Int) ≤ (l.length : Int) := by omega | have hmj : (l.length : Int) ≤ (a.length : Int) := by omega
    obtain ⟨N, hN⟩ : ∃ N : Nat, Hid (N = if a.length < l.length then l.length else a.length) := ⟨_, Lib.hid rfl⟩
    first | have hNe := Lib.hid (show N = l.length by have := hN.out; rw [if_pos hmx] at this; exact this) | have hNe := Lib.hid (show N = a.length by have := hN.out; rw [if_neg hmx] at this; exact this)
    have hNm : a.length ≤ N ∧ l.length ≤ N ∧ (N = a.length ∨ N = l.length) := by have := hN.out; split at this <;> omega
    go_wp2_with (first | (go_at_call 96; refine (iSpokenFor_any m b s t first _ H.out ht).mono ?_; rw [hR.out]; rintro e w1 ⟨A1, c1, rfl, ho1, hb1⟩; have Ho1 := Lib.hid ho1; have Hb1 := Lib.hid (hWb.out.trans (hb1.mono hWb.out.size)); have hs1 := hb1.size; have Hl1 := Lib.hid ((Hl.out.below (hWb.out.trans (hb1.mono hWb.out.size)) (Nat.le_refl _)).more (Nat.le_trans hWb.out.size hb1.size)); clear ho1 hb1 u0 u1 u2 u3 u4) | (go_at_call 84; refine (goodSpoken_any l A' c' _ Hl1.out hl).mono ?_; rintro e w2 ⟨rfl, hb2⟩; have Hb2 := Lib.hid (Hb1.out.trans (hb2.mono Hb1.out.size)); have hs2 := hb2.size; have Hl2 := Lib.hid ((Hl1.out.below hb2 (Nat.le_refl _)).more hb2.size); have Ho2 := Lib.hid ((Ho1.out.later hb2).rd Spk_enc_len); clear hb2))
    go_loopw [35] (fun j wr => ∃ k : Nat, k ≤ N ∧ j = .int .i64 k ∧ (∀ j, j < k → a[j]? = l[j]?) ∧ Below w2.heap.size w2 wr) (fun j _ => N - (intOf j).toNat)
    case atStart => exact ⟨0, by omega, by rfl, fun j hj => by omega, Below.refl _ _⟩
    case round =>
      obtain ⟨k, hk, rfl, hq, hbl⟩ := hrel
      have Hq := Lib.hid hq
      have Hb0 := Lib.hid hbl
      have hg0 := hbl.size
      clear hq hbl
      by_cases hend : k < N
      · have hkl : k ≤ 1048576 := by omega
        by_cases hla : k < a.length
        rotate_left
        · first
          | (exfalso; (have := hNe.out; omega))
          | (have d1 : decide (a.length ≤ k) = true := by simpa using hla
             have hne : a[k]? ≠ l[k]? := by
               rw [List.getElem?_eq_none (by omega), List.getElem?_eq_getElem (by (have := hNe.out; omega))]; simp
             have hkt : k < l.length := by (have := hNe.out; omega)
             have hD := Lib.hid (fstDiff_at Hq.out hne)
             clear hne
             go_wp2
             go_quiet (fail)
             go_wp2
             go_ret2
             exact ⟨by rw [hF.out, hD.out]; rfl, below_drewN (Hb2.out.trans (Hb0.out.mono (by omega))) _⟩)
        have d1 : decide (a.length ≤ k) = false := by simpa using hla
        by_cases hll : k < l.length
        rotate_left
        · first
          | (exfalso; (have := hNe.out; omega))
          | (have d2 : decide (l.length ≤ k) = true := by simpa using hll
             have hne : a[k]? ≠ l[k]? := by
               rw [List.getElem?_eq_none (l := l) (by omega), List.getElem?_eq_getElem (by omega)]; simp
             have hD := Lib.hid (fstDiff_at Hq.out hne)
             clear hne
             go_wp2
             go_quiet (fail)
             go_wp2
             go_ret2
             exact ⟨by rw [hF.out, hD.out]; rfl, below_drewN (Hb2.out.trans (Hb0.out.mono (by omega))) _⟩)
        have d2 : decide (l.length ≤ k) = false := by simpa using hll
        obtain ⟨ga, oa, hAa, hga, hca⟩ := Ho2.out.at hla
        subst hAa
        have a0 := (Hb0.out.cell (p := ⟨ga, oa + k * 2, none⟩) hga).trans (hca 0 _ rfl)
        have a1 := (Hb0.out.cell (p := ⟨ga, oa + k * 2 + 1, none⟩) hga).trans (hca 1 _ rfl)
        obtain ⟨x, hx⟩ : ∃ x, Hid (a[k] = x) := ⟨_, Lib.hid rfl⟩
        rw [hx.out] at a0 a1
        obtain ⟨gl, ol, hAl, hgl, hcl⟩ := Hl2.out.at hll
        subst hAl
        have l0 := (Hb0.out.cell (p := ⟨gl, ol + k * 2, none⟩) hgl).trans (hcl 0 _ rfl)
        have l1 := (Hb0.out.cell (p := ⟨gl, ol + k * 2 + 1, none⟩) hgl).trans (hcl 1 _ rfl)
        obtain ⟨y, hy⟩ : ∃ y, Hid (l[k] = y) := ⟨_, Lib.hid rfl⟩
        rw [hy.out] at l0 l1
        clear hca hcl
        by_cases hxy : x = y
        · have hn := neSpk_f hxy
          have hk1 : Hid (∀ j, j < k + 1 → a[j]? = l[j]?) := Lib.hid (fun j hj => by
            rcases Nat.lt_or_eq_of_le (Nat.le_of_lt_succ hj) with h' | rfl
            · exact Hq.out j h'
            · rw [List.getElem?_eq_getElem hla, List.getElem?_eq_getElem hll, hx.out, hy.out, hxy])
          clear hxy
          go_wp2
          go_quiet (fail)
          go_wp2
          go_roundw
          case rel => exact ⟨k + 1, by omega, by go_num, hk1.out, below_drewN Hb0.out _⟩
          case measure => simp [intOf]; omega
        · have hn := neSpk_t hxy
          have hne : a[k]? ≠ l[k]? := by
            rw [List.getElem?_eq_getElem hla, List.getElem?_eq_getElem hll, hx.out, hy.out]; simpa using hxy
          have hD := Lib.hid (fstDiff_at Hq.out hne)
          clear hne hxy
          go_wp2
          go_quiet (fail)
          go_wp2
          go_ret2
          exact ⟨by rw [hF.out, hD.out]; rfl, below_drewN (Hb2.out.trans (Hb0.out.mono (by omega))) _⟩
      · have hD := Lib.hid (fstDiff_no (a := a) (l := l) (fun j hj => Hq.out j (by omega)))
        go_wp2
        go_ret2
        exact ⟨by rw [hF.out, hD.out]; rfl, Hb2.out.trans (Hb0.out.mono (by omega))⟩
set_option maxHeartbeats 6400000 in
theorem sFirstWrong_any (m : Mth) (b s t : ByteArray) (first : Int) (l : List Spk) (A' : Option Addr) (c' : Nat) (w : World) (h : MkOk m b s w) (ht : t.size ≤ 1048576) (hh : RdL w w.heap.size A' 2 Spk.enc l) (hl : l.length ≤ 1048576) :
    Calls Tryz.prog 35 #[.agg #[Value.string m.name, .int .i64 m.stage, .slice m.A m.x.length m.c], .agg #[Value.string b, .string s], .string t, .int .i64 first, .slice A' l.length c'] w fun e w' => e = .returned (.tuple #[.int .i64 (fwR m b s t first l).1, .bool (fwR m b s t first l).2]) ∧ Below w.heap.size w w' := by
  have Hl := Lib.hid hh
  have hsl := sayR_len (m := m) (b := b) (s := s) (t := t) (first := first)
  obtain ⟨R, hR⟩ : ∃ R, Hid (sayR m b s t first = R) := ⟨_, Lib.hid rfl⟩
  obtain ⟨a, ok⟩ := R
  rw [hR.out] at hsl
  simp only at hsl
  clear hh
  by_cases c1 : ok = true
  rotate_left
  · have hok : ok = false := by cases ok <;> simp_all
    subst hok
    have hF : Hid (fwR m b s t first l = (0, false)) := Lib.hid (by unfold fwR; rw [hR.out, if_neg (fun x => c1 x.1)])
    clear c1
    have hW : ∃ W : World, Hid ((w.alloc (.cells #[Value.string m.name, .int .i64 m.stage, .slice m.A m.x.length m.c] 26)).alloc (.cells #[Value.string b, .string s] 28) = W) ∧ Hid (Below w.heap.size w W) ∧ w.heap.size + 2 ≤ W.heap.size ∧ Hid (Cells W w.heap.size 3 (fun i => (#[Value.string m.name, .int .i64 m.stage, .slice m.A m.x.length m.c] : Array Value).getD i undef)) ∧ Hid (Cells W (w.heap.size + 1) 2 (fun i => (#[Value.string b, .string s] : Array Value).getD i undef)) := by
      have z1 : w.heap.size + 1 = (w.alloc (.cells #[Value.string m.name, .int .i64 m.stage, .slice m.A m.x.length m.c] 26)).heap.size := by simp
      refine ⟨_, Lib.hid rfl, Lib.hid (((Below.refl _ _).alloc (Nat.le_refl _) _).alloc (by simp) _), by simp, Lib.hid ?_, Lib.hid ?_⟩
      · exact (Cells.newD _ #[Value.string m.name, .int .i64 m.stage, .slice m.A m.x.length m.c] _).alloc _
      · rw [z1]; exact Cells.newD _ #[Value.string b, .string s] _
    obtain ⟨W, hWe, hWb, hWs, hM, hK⟩ := hW
    have H := Lib.hid (h.later hWb.out)
    clear h
    have u0 : W.cell? ⟨w.heap.size, 0, none⟩ = some (.string m.name) := hM.out.cell (i := 0) (by omega)
    have u1 : W.cell? ⟨w.heap.size, 1, none⟩ = some (.int .i64 m.stage) := hM.out.cell (i := 1) (by omega)
    have u2 : W.cell? ⟨w.heap.size, 2, none⟩ = some (.slice m.A m.x.length m.c) := hM.out.cell (i := 2) (by omega)
    have u3 : W.cell? ⟨w.heap.size + 1, 0, none⟩ = some (.string b) := hK.out.cell (i := 0) (by omega)
    have u4 : W.cell? ⟨w.heap.size + 1, 1, none⟩ = some (.string s) := hK.out.cell (i := 1) (by omega)
    go_enter Tryz.func35, Tryz.ntmps35
    go_wp2_with fail
    rw [hWe.out]
    clear hWe
    go_wp2_with (go_at_call 38; refine (sSpokenFor_any m b s t first _ H.out ht).mono ?_; rw [hR.out]; rintro e w1 ⟨A1, c1, rfl, ho1, hb1⟩; have Ho1 := Lib.hid ho1; have Hb1 := Lib.hid (hWb.out.trans (hb1.mono hWb.out.size)); have hs1 := hb1.size; have Hl1 := Lib.hid ((Hl.out.below (hWb.out.trans (hb1.mono hWb.out.size)) (Nat.le_refl _)).more (Nat.le_trans hWb.out.size hb1.size)); clear ho1 hb1 u0 u1 u2 u3 u4)
    go_ret2
    rw [hF.out]
    exact ⟨rfl, Hb1.out⟩
  subst c1
  by_cases c2 : spokenLP l
  rotate_left
  · have e2 := B_f c2
    have hF : Hid (fwR m b s t first l = (0, false)) := Lib.hid (by unfold fwR; rw [if_neg (fun x => c2 x.2)])
    clear c2
    have hW : ∃ W : World, Hid ((w.alloc (.cells #[Value.string m.name, .int .i64 m.stage, .slice m.A m.x.length m.c] 26)).alloc (.cells #[Value.string b, .string s] 28) = W) ∧ Hid (Below w.heap.size w W) ∧ w.heap.size + 2 ≤ W.heap.size ∧ Hid (Cells W w.heap.size 3 (fun i => (#[Value.string m.name, .int .i64 m.stage, .slice m.A m.x.length m.c] : Array Value).getD i undef)) ∧ Hid (Cells W (w.heap.size + 1) 2 (fun i => (#[Value.string b, .string s] : Array Value).getD i undef)) := by
      have z1 : w.heap.size + 1 = (w.alloc (.cells #[Value.string m.name, .int .i64 m.stage, .slice m.A m.x.length m.c] 26)).heap.size := by simp
      refine ⟨_, Lib.hid rfl, Lib.hid (((Below.refl _ _).alloc (Nat.le_refl _) _).alloc (by simp) _), by simp, Lib.hid ?_, Lib.hid ?_⟩
      · exact (Cells.newD _ #[Value.string m.name, .int .i64 m.stage, .slice m.A m.x.length m.c] _).alloc _
      · rw [z1]; exact Cells.newD _ #[Value.string b, .string s] _
    obtain ⟨W, hWe, hWb, hWs, hM, hK⟩ := hW
    have H := Lib.hid (h.later hWb.out)
    clear h
    have u0 : W.cell? ⟨w.heap.size, 0, none⟩ = some (.string m.name) := hM.out.cell (i := 0) (by omega)
    have u1 : W.cell? ⟨w.heap.size, 1, none⟩ = some (.int .i64 m.stage) := hM.out.cell (i := 1) (by omega)
    have u2 : W.cell? ⟨w.heap.size, 2, none⟩ = some (.slice m.A m.x.length m.c) := hM.out.cell (i := 2) (by omega)
    have u3 : W.cell? ⟨w.heap.size + 1, 0, none⟩ = some (.string b) := hK.out.cell (i := 0) (by omega)
    have u4 : W.cell? ⟨w.heap.size + 1, 1, none⟩ = some (.string s) := hK.out.cell (i := 1) (by omega)
    go_enter Tryz.func35, Tryz.ntmps35
    go_wp2_with fail
    rw [hWe.out]
    clear hWe
    go_wp2_with (first | (go_at_call 38; refine (sSpokenFor_any m b s t first _ H.out ht).mono ?_; rw [hR.out]; rintro e w1 ⟨A1, c1, rfl, ho1, hb1⟩; have Ho1 := Lib.hid ho1; have Hb1 := Lib.hid (hWb.out.trans (hb1.mono hWb.out.size)); have hs1 := hb1.size; have Hl1 := Lib.hid ((Hl.out.below (hWb.out.trans (hb1.mono hWb.out.size)) (Nat.le_refl _)).more (Nat.le_trans hWb.out.size hb1.size)); clear ho1 hb1 u0 u1 u2 u3 u4) | (go_at_call 86; refine (l26Good_any l A' c' _ Hl1.out hl).mono ?_; rintro e w2 ⟨rfl, hb2⟩; have Hb2 := Lib.hid (Hb1.out.trans (hb2.mono Hb1.out.size)); have hs2 := hb2.size; have Hl2 := Lib.hid ((Hl1.out.below hb2 (Nat.le_refl _)).more hb2.size); have Ho2 := Lib.hid ((Ho1.out.later hb2).rd Spk_enc_len); clear hb2))
    go_ret2
    rw [hF.out]
    exact ⟨rfl, Hb2.out⟩
  have e2 := B_t c2
  have hF : Hid (fwR m b s t first l = fstDiff a l) := Lib.hid (by unfold fwR; rw [hR.out, if_pos ⟨rfl, c2⟩])
  clear c2
  have hW : ∃ W : World, Hid ((w.alloc (.cells #[Value.string m.name, .int .i64 m.stage, .slice m.A m.x.length m.c] 26)).alloc (.cells #[Value.string b, .string s] 28) = W) ∧ Hid (Below w.heap.size w W) ∧ w.heap.size + 2 ≤ W.heap.size ∧ Hid (Cells W w.heap.size 3 (fun i => (#[Value.string m.name, .int .i64 m.stage, .slice m.A m.x.length m.c] : Array Value).getD i undef)) ∧ Hid (Cells W (w.heap.size + 1) 2 (fun i => (#[Value.string b, .string s] : Array Value).getD i undef)) := by
    have z1 : w.heap.size + 1 = (w.alloc (.cells #[Value.string m.name, .int .i64 m.stage, .slice m.A m.x.length m.c] 26)).heap.size := by simp
    refine ⟨_, Lib.hid rfl, Lib.hid (((Below.refl _ _).alloc (Nat.le_refl _) _).alloc (by simp) _), by simp, Lib.hid ?_, Lib.hid ?_⟩
    · exact (Cells.newD _ #[Value.string m.name, .int .i64 m.stage, .slice m.A m.x.length m.c] _).alloc _
    · rw [z1]; exact Cells.newD _ #[Value.string b, .string s] _
  obtain ⟨W, hWe, hWb, hWs, hM, hK⟩ := hW
  have H := Lib.hid (h.later hWb.out)
  clear h
  have u0 : W.cell? ⟨w.heap.size, 0, none⟩ = some (.string m.name) := hM.out.cell (i := 0) (by omega)
  have u1 : W.cell? ⟨w.heap.size, 1, none⟩ = some (.int .i64 m.stage) := hM.out.cell (i := 1) (by omega)
  have u2 : W.cell? ⟨w.heap.size, 2, none⟩ = some (.slice m.A m.x.length m.c) := hM.out.cell (i := 2) (by omega)
  have u3 : W.cell? ⟨w.heap.size + 1, 0, none⟩ = some (.string b) := hK.out.cell (i := 0) (by omega)
  have u4 : W.cell? ⟨w.heap.size + 1, 1, none⟩ = some (.string s) := hK.out.cell (i := 1) (by omega)
  go_enter Tryz.func35, Tryz.ntmps35
  go_wp2_with fail
  rw [hWe.out]
  clear hWe
  go_wp2_with (first | (go_at_call 38; refine (sSpokenFor_any m b s t first _ H.out ht).mono ?_; rw [hR.out]; rintro e w1 ⟨A1, c1, rfl, ho1, hb1⟩; have Ho1 := Lib.hid ho1; have Hb1 := Lib.hid (hWb.out.trans (hb1.mono hWb.out.size)); have hs1 := hb1.size; have Hl1 := Lib.hid ((Hl.out.below (hWb.out.trans (hb1.mono hWb.out.size)) (Nat.le_refl _)).more (Nat.le_trans hWb.out.size hb1.size)); clear ho1 hb1 u0 u1 u2 u3 u4) | (go_at_call 86; refine (l26Good_any l A' c' _ Hl1.out hl).mono ?_; rintro e w2 ⟨rfl, hb2⟩; have Hb2 := Lib.hid (Hb1.out.trans (hb2.mono Hb1.out.size)); have hs2 := hb2.size; have Hl2 := Lib.hid ((Hl1.out.below hb2 (Nat.le_refl _)).more hb2.size); have Ho2 := Lib.hid ((Ho1.out.later hb2).rd Spk_enc_len); clear hb2))
  go_loopw [14] (fun j wr => ∃ k : Nat, (k ≤ a.length ∨ k ≤ l.length) ∧ j = .int .i64 k ∧ (∀ j, j < k → a[j]? = l[j]?) ∧ Below w2.heap.size w2 wr) (fun j _ => a.length + l.length + 1 - (intOf j).toNat)
  case atStart => exact ⟨0, by omega, by rfl, fun j hj => by omega, Below.refl _ _⟩
  case round =>
    obtain ⟨k, hk, rfl, hq, hbl⟩ := hrel
    have Hq := Lib.hid hq
    have Hb0 := Lib.hid hbl
    have hg0 := hbl.size
    clear hq hbl
    by_cases hend : k < a.length ∨ k < l.length
    · have hkl : k ≤ 1048576 := by omega
      by_cases hla : k < a.length
      rotate_left
      · first
        | (exfalso; omega)
        | (have d1 : decide (a.length ≤ k) = true := by simpa using hla
           have hne : a[k]? ≠ l[k]? := by
             rw [List.getElem?_eq_none (by omega), List.getElem?_eq_getElem (by omega)]; simp
           have hkt : k < l.length := by omega
           have hD := Lib.hid (fstDiff_at Hq.out hne)
           clear hne
           go_wp2
           go_quiet (fail)
           go_wp2
           go_ret2
           exact ⟨by rw [hF.out, hD.out]; rfl, below_drewN (Hb2.out.trans (Hb0.out.mono (by omega))) _⟩)
      have d1 : decide (a.length ≤ k) = false := by simpa using hla
      by_cases hll : k < l.length
      rotate_left
      · first
        | (exfalso; omega)
        | (have d2 : decide (l.length ≤ k) = true := by simpa using hll
           have hne : a[k]? ≠ l[k]? := by
             rw [List.getElem?_eq_none (l := l) (by omega), List.getElem?_eq_getElem (by omega)]; simp
           have hD := Lib.hid (fstDiff_at Hq.out hne)
           clear hne
           go_wp2
           go_quiet (fail)
           go_wp2
           go_ret2
           exact ⟨by rw [hF.out, hD.out]; rfl, below_drewN (Hb2.out.trans (Hb0.out.mono (by omega))) _⟩)
      have d2 : decide (l.length ≤ k) = false := by simpa using hll
      obtain ⟨ga, oa, hAa, hga, hca⟩ := Ho2.out.at hla
      subst hAa
      have a0 := (Hb0.out.cell (p := ⟨ga, oa + k * 2, none⟩) hga).trans (hca 0 _ rfl)
      have a1 := (Hb0.out.cell (p := ⟨ga, oa + k * 2 + 1, none⟩) hga).trans (hca 1 _ rfl)
      obtain ⟨x, hx⟩ : ∃ x, Hid (a[k] = x) := ⟨_, Lib.hid rfl⟩
      rw [hx.out] at a0 a1
      obtain ⟨gl, ol, hAl, hgl, hcl⟩ := Hl2.out.at hll
      subst hAl
      have l0 := (Hb0.out.cell (p := ⟨gl, ol + k * 2, none⟩) hgl).trans (hcl 0 _ rfl)
      have l1 := (Hb0.out.cell (p := ⟨gl, ol + k * 2 + 1, none⟩) hgl).trans (hcl 1 _ rfl)
      obtain ⟨y, hy⟩ : ∃ y, Hid (l[k] = y) := ⟨_, Lib.hid rfl⟩
      rw [hy.out] at l0 l1
      clear hca hcl
      by_cases hxy : x = y
      · have hn := neSpk_f hxy
        have hk1 : Hid (∀ j, j < k + 1 → a[j]? = l[j]?) := Lib.hid (fun j hj => by
          rcases Nat.lt_or_eq_of_le (Nat.le_of_lt_succ hj) with h' | rfl
          · exact Hq.out j h'
          · rw [List.getElem?_eq_getElem hla, List.getElem?_eq_getElem hll, hx.out, hy.out, hxy])
        clear hxy
        go_wp2
        go_quiet (fail)
        go_wp2
        go_roundw
        case rel => exact ⟨k + 1, by omega, by go_num, hk1.out, below_drewN Hb0.out _⟩
        case measure => simp [intOf]; omega
      · have hn := neSpk_t hxy
        have hne : a[k]? ≠ l[k]? := by
          rw [List.getElem?_eq_getElem hla, List.getElem?_eq_getElem hll, hx.out, hy.out]; simpa using hxy
        have hD := Lib.hid (fstDiff_at Hq.out hne)
        clear hne hxy
        go_wp2
        go_quiet (fail)
        go_wp2
        go_ret2
        exact ⟨by rw [hF.out, hD.out]; rfl, below_drewN (Hb2.out.trans (Hb0.out.mono (by omega))) _⟩
    · have d1 : decide (k < a.length) = false := by simp; omega
      have d2 : decide (k < l.length) = false := by simp; omega
      have hD := Lib.hid (fstDiff_no (a := a) (l := l) (fun j hj => Hq.out j (by omega)))
      go_wp2
      go_ret2
      exact ⟨by rw [hF.out, hD.out]; rfl, Hb2.out.trans (Hb0.out.mono (by omega))⟩
end
end Go.Proofs.YtkegbbndmfnolaaGreatDoor
