import Derived.Test.YtbfhfnejppfehaaMSlipsL06
import Derived.Test.YtbfhfnejppfehaaMSlipsL24
import Derived.Test.YtbfhfnejppfehaaMSlipsL01
import Derived.Test.YtbfhfnejppfehaaMSlipsL03
/-
  SlipSpans of the program returns what the reference's returns, for all arguments: no condition.
-/
namespace Go.Proofs.Ytbfhfnejppfehaa
open Go.RowKit
set_option linter.unusedVariables false
set_option linter.unusedSimpArgs false
set_option maxRecDepth 100000

/-! ### The plain law: the ranges of places that differ -/
/-- The ranges behind the first k places, the last one first. -/
def spnR (d : Nat → Prop) [DecidablePred d] : Nat → List (Nat × Nat)
  | 0 => []
  | k + 1 => if d k then (match spnR d k with
      | [] => [(k, k + 1)]
      | p :: r => if p.2 = k then (p.1, k + 1) :: r else (k, k + 1) :: p :: r) else spnR d k
section
variable {d : Nat → Prop} [DecidablePred d]
theorem spnR_no {k : Nat} (h : ¬ d k) : spnR d (k + 1) = spnR d k := by simp only [spnR]; rw [if_neg h]
theorem spnR_nil {k : Nat} (h : d k) (h2 : spnR d k = []) : spnR d (k + 1) = [(k, k + 1)] := by simp only [spnR]; rw [if_pos h, h2]
theorem spnR_far {k : Nat} {p : Nat × Nat} {r : List (Nat × Nat)} (h : d k) (h2 : spnR d k = p :: r) (h3 : p.2 ≠ k) : spnR d (k + 1) = (k, k + 1) :: p :: r := by simp only [spnR]; rw [if_pos h, h2]; simp only; rw [if_neg h3]
theorem spnR_near {k : Nat} {p : Nat × Nat} {r : List (Nat × Nat)} (h : d k) (h2 : spnR d k = p :: r) (h3 : p.2 = k) : spnR d (k + 1) = (p.1, k + 1) :: r := by simp only [spnR]; rw [if_pos h, h2]; simp only; rw [if_pos h3]
theorem spnR_len : ∀ k, (spnR d k).length ≤ k
  | 0 => by simp [spnR]
  | k + 1 => by
    have := spnR_len k
    by_cases h : d k
    · rcases hs : spnR d k with _ | ⟨p, r⟩
      · rw [spnR_nil h hs]; simp
      · rw [hs] at this
        by_cases h3 : p.2 = k
        · rw [spnR_near h hs h3]; simp at this ⊢; omega
        · rw [spnR_far h hs h3]; simp at this ⊢; omega
    · rw [spnR_no h]; omega
/-- No range behind the first i places ends at i. -/
def Shut (d : Nat → Prop) [DecidablePred d] (i : Nat) : Prop := ∀ p ∈ (spnR d i).head?, p.2 ≠ i
theorem spnR_le : ∀ k, ∀ p ∈ (spnR d k).head?, p.2 ≤ k
  | 0 => by simp [spnR]
  | k + 1 => by
    intro q hq
    by_cases h : d k
    · rcases hs : spnR d k with _ | ⟨p, r⟩
      · rw [spnR_nil h hs] at hq; simp at hq; subst hq; simp
      · by_cases h3 : p.2 = k
        · rw [spnR_near h hs h3] at hq; simp at hq; subst hq; simp
        · rw [spnR_far h hs h3] at hq; simp at hq; subst hq; simp
    · rw [spnR_no h] at hq; have := spnR_le k q hq; omega
theorem spnR_run {i : Nat} (hi : Shut d i) : ∀ n, (∀ j, i ≤ j → j < i + n → d j) → 0 < n → spnR d (i + n) = (i, i + n) :: spnR d i
  | 0, _, h => by omega
  | n + 1, hd, _ => by
    rcases Nat.eq_zero_or_pos n with h0 | hpos
    · subst h0
      rcases hs : spnR d i with _ | ⟨p, r⟩
      · exact spnR_nil (hd i (by omega) (by omega)) hs
      · exact spnR_far (hd i (by omega) (by omega)) hs (hi p (by rw [hs]; rfl))
    · have ih := spnR_run hi n (fun j h1 h2 => hd j h1 (by omega)) hpos
      exact spnR_near (k := i + n) (hd (i + n) (by omega) (by omega)) ih rfl
theorem Shut.zero : Shut d 0 := by simp [Shut, spnR]
theorem Shut.next {k : Nat} (h : ¬ d k) : Shut d (k + 1) := by
  intro p hp
  rw [spnR_no h] at hp
  have := spnR_le k p hp
  omega
end
def prOf (p : Nat × Nat) : List Int := [(p.1 : Int), (p.2 : Int)]
def spansOf (d : Nat → Prop) [DecidablePred d] (k : Nat) : List (List Int) := ((spnR d k).map prOf).reverse
theorem tot_prOf : ∀ l : List (Nat × Nat), tot (l.map prOf) = 2 * l.length
  | [] => rfl
  | p :: l => by rw [List.map_cons, tot_cons, tot_prOf l]; simp [prOf]; omega
theorem tot_rev (l : List (List Int)) : tot l.reverse = tot l := by simp [tot, List.sum_reverse]
theorem spansOf_len (d : Nat → Prop) [DecidablePred d] (k : Nat) : (spansOf d k).length ≤ k ∧ tot (spansOf d k) ≤ 2 * k := by
  have := spnR_len (d := d) k
  unfold spansOf
  rw [tot_rev, tot_prOf]
  simp; omega

/-! ### A store into the last inner slice -/
section
variable {w : World} {base : Nat} {e : TypeId} {size : Nat} {v : Value}
theorem Grow.setOther {α : Type} {enc : α → List Value} {l : List α} (h : Grow w base e size enc v l) {p : Addr} (hp : v.ownBlock ≠ some p.block) (u : Value) : Grow (w.setCell p u) base e size enc v l := by
  refine ⟨h.1, ?_⟩
  rcases h.2 with ⟨h1, h2⟩ | ⟨g, cap, cur, h1, h2, h3, h4⟩
  · exact .inl ⟨h1, h2⟩
  · exact .inr ⟨g, cap, cur, h1, h2, (Below.heap_setCell w p u g (fun he => hp (by rw [h1, he]; rfl))).trans h3, h4⟩
theorem GrowN.last {D : List Sl} {d : Sl} {s t : Int} (h : GrowN w base e 1 Sl.enc Sl.A Sl.x 1 encInt v (D ++ [d])) (hx : d.x = [s, t]) :
    ∃ g, d.A = some ⟨g, 0, none⟩ ∧ base ≤ g ∧ w.cell? ⟨g, 1, none⟩ = some (.int .i64 t) ∧ w.frozen? ⟨g, 1, none⟩ = false ∧
      ∀ t' : Int, GrowN (w.setCell ⟨g, 1, none⟩ (.int .i64 t')) base e 1 Sl.enc Sl.A Sl.x 1 encInt v (D ++ [⟨[s, t'], d.A, d.c⟩]) := by
  obtain ⟨hg, hh, hi⟩ := h
  have hn := hi D.length (by simp)
  rw [List.getElem_append_right (Nat.le_refl _)] at hn
  simp only [Nat.sub_self, List.getElem_cons_zero] at hn
  obtain ⟨n1, n2, n3, n4, n5⟩ := hn
  rcases n4 with n4 | ⟨g, f, hA, m1, m2, m3, m4⟩
  · rw [hx] at n4; cases n4
  · obtain rfl : g = hh D.length := by omega
    rw [hx] at m3 m4
    have c1 := m3.cell (i := 1) (by simp)
    have v1 := m4 1 (by simp) 0 _ rfl
    simp only [List.getElem_cons_succ, List.getElem_cons_zero, Nat.one_mul, Nat.mul_one, Nat.add_zero] at v1
    have v0 := m4 0 (by simp) 0 _ rfl
    simp only [List.getElem_cons_zero, Nat.zero_mul, Nat.add_zero] at v0
    rw [v1] at c1
    refine ⟨_, hA, n1, c1, m3.free (i := 1) (by simp), fun t' => ⟨?_, hh, fun i hlt => ?_⟩⟩
    · have hg2 := hg.setOther (p := ⟨hh D.length, 1, none⟩) n3 (.int .i64 t')
      unfold Grow at hg2 ⊢
      have e1 : flat Sl.enc (D ++ [d]) = flat Sl.enc (D ++ [⟨[s, t'], d.A, d.c⟩]) := by
        rw [flat_append, flat_append, flat_one, flat_one]
        simp [Sl.enc, hx]
      rw [e1] at hg2
      simpa using hg2
    · by_cases hl : i < D.length
      · have hk := hi i (by simp; omega)
        rw [List.getElem_append_left hl] at hk ⊢
        obtain ⟨k1, k2, k3, k4, k5⟩ := hk
        refine ⟨k1, by simpa using k2, k3, ?_, k5⟩
        have hne : hh i ≠ hh D.length := n5 i hl
        rcases k4 with k4 | ⟨g', f', hA', m1', m2', m3', m4'⟩
        · exact .inl k4
        · exact .inr ⟨g', f', hA', m1', m2', m3'.other (p := ⟨hh D.length, 1, none⟩) (by show hh D.length ≠ g'; omega) _, m4'⟩
      · have hl2 : i = D.length := by simp at hlt; omega
        subst hl2
        rw [List.getElem_append_right (Nat.le_refl _)]
        simp only [Nat.sub_self, List.getElem_cons_zero]
        refine ⟨n1, by simpa using n2, n3, .inr ⟨_, _, hA, m1, m2, m3.set (i := 1) (by simp) (.int .i64 t'), fun i hi j u hu => ?_⟩, n5⟩
        have hi2 : i < 2 := by simpa using hi
        have hj : j = 0 := by have := (List.getElem?_eq_some_iff.1 hu).1; simp [encInt] at this; exact this
        subst hj
        rcases (show i = 0 ∨ i = 1 by omega) with rfl | rfl
        · rw [Nat.zero_mul, Nat.add_zero, upd_other _ _ _ _ (by omega), v0]
          simpa [encInt] using hu
        · rw [Nat.one_mul, Nat.add_zero, upd_same]
          simpa [encInt] using hu
end

/-- The rows at a place differ. -/
def dfP (a b : List ByteArray) (k : Nat) : Prop := a.getD k ⟨#[]⟩ ≠ b.getD k ⟨#[]⟩
instance (a b : List ByteArray) : DecidablePred (dfP a b) := fun k => by unfold dfP; infer_instance
theorem dfP_iff {a b : List ByteArray} {k : Nat} (h : k < a.length) (h' : k < b.length) : dfP a b k ↔ a[k] ≠ b[k] := by
  unfold dfP; simp [h, h']
def spansL (a b : List ByteArray) : List (List Int) := spansOf (dfP a b) a.length
theorem split_last {D : List Sl} {r : List (Nat × Nat)} {p : Nat × Nat} (h : D.map Sl.x = ((p :: r).map prOf).reverse) : ∃ D0 d, D = D0 ++ [d] ∧ D0.map Sl.x = (r.map prOf).reverse ∧ d.x = prOf p := by
  rw [List.map_cons, List.reverse_cons] at h
  rcases List.eq_nil_or_concat D with h0 | ⟨D0, d, h0⟩
  · subst h0; simp at h
  · rw [List.concat_eq_append] at h0
    subst h0
    rw [List.map_append] at h
    have := List.append_inj' h rfl
    exact ⟨D0, d, rfl, this.1, by simpa using this.2⟩


set_option maxHeartbeats 3200000 in
theorem sSpans_t (a b : List ByteArray) (A A' : Option Addr) (c c' : Nat) (w : World) (h : RdL w w.heap.size A 1 encString a) (h' : RdL w w.heap.size A' 1 encString b) (hl : a.length ≤ 1048576) (hl' : b.length ≤ 1048576)
    (hs : ∀ x ∈ a, String_small 1048576 x) (hs' : ∀ x ∈ b, String_small 1048576 x) (ht : twoRows a b) :
    Calls Try.prog 16 #[.slice A a.length c, .slice A' b.length c'] w fun e w' => ∃ A2 c2, e = .returned (.tuple #[.slice A2 (spansL a b).length c2, .bool true]) ∧ OwnS w' w.heap.size w'.heap.size A2 (spansL a b) ∧ Below w.heap.size w w' := by
  have Hs := Lib.hid hs
  have Hs' := Lib.hid hs'
  have Hh := Lib.hid h
  have Hh' := Lib.hid h'
  have e1 := B_t ht
  have hle : a.length ≤ b.length := by have := ht.2.2.2.1; omega
  clear hs hs' h h' ht
  go_enter Try.func16, Try.ntmps16
  go_wp2_with (go_at_call 55; refine (l25Two_any a b _ _ _ _ _ Hh.out Hh'.out hl hl' Hs.out Hs'.out).mono ?_; rintro e w' ⟨rfl, hb1⟩)
  go_loopw [6, 15] (fun v i wr => ∃ (k : Nat) (D : List Sl), k ≤ a.length ∧ i = .int .i64 k ∧ Hid (D.map Sl.x = ((spnR (dfP a b) k).map prOf).reverse) ∧ GrowN wr w.heap.size 87 1 Sl.enc Sl.A Sl.x 1 encInt v D ∧ Below w.heap.size w wr) (fun _ i _ => a.length - (intOf i).toNat)
  case atStart => exact ⟨0, [], by omega, by rfl, Lib.hid rfl, GrowN.nil, hb1⟩
  case round =>
    obtain ⟨k, D, hk, rfl, hD, hg, hbl⟩ := hrel
    have Hg := Lib.hid hg
    have Hbl := Lib.hid hbl
    have hgs := hbl.size
    have hDl : D.length ≤ k := by have := spnR_len (d := dfP a b) k; have h2 := congrArg List.length hD.out; simp at h2; omega
    clear hg hbl hb1
    by_cases hlt : k < a.length
    · have hlt' : k < b.length := by omega
      obtain ⟨g, off, hA, hg, hcell⟩ := Hh.out.at hlt
      obtain ⟨g', off', hA', hg', hcell'⟩ := Hh'.out.at hlt'
      subst hA hA'
      have r0 : wr.cell? ⟨g, off + k, none⟩ = some (.string a[k]) := (Hbl.out.cell (p := ⟨g, off + k, none⟩) hg).trans (by have := hcell 0 _ rfl; rw [Nat.mul_one] at this; exact this)
      have q0 : wr.cell? ⟨g', off' + k, none⟩ = some (.string b[k]) := (Hbl.out.cell (p := ⟨g', off' + k, none⟩) hg').trans (by have := hcell' 0 _ rfl; rw [Nat.mul_one] at this; exact this)
      clear hcell hcell'
      have hdf : Hid (dfP a b k ↔ a[k] ≠ b[k]) := Lib.hid (dfP_iff hlt hlt')
      obtain ⟨x, hx⟩ : ∃ x, Hid (a[k] = x) := ⟨a[k], Lib.hid rfl⟩
      obtain ⟨y, hy⟩ : ∃ y, Hid (b[k] = y) := ⟨b[k], Lib.hid rfl⟩
      rw [hx.out] at r0 hdf
      rw [hy.out] at q0 hdf
      by_cases exy : x = y
      · have e2 := eqB_t exy
        have hn : Hid (¬ dfP a b k) := Lib.hid (fun hd => hdf.out.1 hd exy)
        clear exy
        go_wp2
        go_quiet (fail)
        go_wp2
        go_roundw
        case rel => exact ⟨k + 1, D, by omega, by go_num, by rw [spnR_no hn.out]; exact hD, Hg.out.drewN _, below_drewN Hbl.out _⟩
        case measure => simp [intOf]; omega
      · have e2 := eqB_f exy
        have hd : Hid (dfP a b k) := Lib.hid (hdf.out.2 exy)
        clear exy
        go_wp2
        go_quiet (fail)
        have Hg4 : Hid (GrowN (wr.drewN nq) w.heap.size 87 1 Sl.enc Sl.A Sl.x 1 encInt u6 D) := Lib.hid (Hg.out.drewN _)
        have Hb4 : Hid (Below w.heap.size w (wr.drewN nq)) := Lib.hid (below_drewN Hbl.out _)
        have t4 : w.heap.size ≤ (wr.drewN nq).heap.size := hgs
        clear r0 q0
        generalize wr.drewN nq = w4 at *
        rcases hs : spnR (dfP a b) k with _ | ⟨p, r⟩
        · have hs2 := hs
          have HsK := Lib.hid hs
          have hD0 : D = [] := by have := hD.out; rw [hs] at this; simpa using this
          subst hD0
          obtain ⟨A4, c4, hv, ho⟩ := Hg4.out.own Sl_enc_len
          subst hv
          clear hs hs2 ho
          go_wp2_with (at_builtin; refine wpList_pushN rfl _ _ 35 rfl w.heap.size 87 _ 1 24 Sl.enc Sl.A Sl.x 1 encInt rfl IntS_info rfl (by omega) _ ([] : List Sl) ⟨[(k : Int), (k : Int) + 1], some ⟨_, 0, none⟩, 2⟩ 1 rfl rfl rfl Hg4.out rfl Sl_enc_len (by simp [Sl.enc, Value.oneCell']) rfl rfl encInt_len (by first | (simp; done) | (simp; omega)) (by omega) (by omega) ?_; intro v' w2 hg2 hb2; have t2 := hb2.size)
          go_roundw
          case rel => exact ⟨k + 1, _, by omega, by go_num, by rw [spnR_nil hd.out HsK.out]; exact Lib.hid rfl, hg2, Hb4.out.trans hb2⟩
          case measure => simp [intOf]; omega
        · have HsK := Lib.hid hs
          clear hs
          have hD2 := hD.out
          rw [HsK.out] at hD2
          obtain ⟨D0, dl, rfl, hD0, hdx⟩ := split_last hD2
          have hdx2 : dl.x = [(p.1 : Int), (p.2 : Int)] := hdx
          obtain ⟨gi, hA4, hgi, hci, hfi, hst⟩ := Hg4.out.last hdx2
          obtain ⟨A4, c4, hv, ho⟩ := Hg4.out.own Sl_enc_len
          obtain ⟨go_, off4, hA5, hgo, hcell5⟩ := (ho.rd Sl_enc_len encInt_len).1.at (k := D0.length) (by simp)
          rw [List.getElem_append_right (Nat.le_refl _)] at hcell5
          simp only [Nat.sub_self, List.getElem_cons_zero] at hcell5
          have r5 : w4.cell? ⟨go_, off4 + D0.length, none⟩ = some (.slice (some ⟨gi, 0, none⟩) 2 dl.c) := by have := hcell5 0 _ rfl; rw [Nat.mul_one, hA4, hdx2] at this; exact this
          subst hv hA5
          rw [List.length_append, List.length_singleton] at *
          have HD0 := Lib.hid hD0
          have Hst := Lib.hid hst
          clear hD2 hD0 hdx hdx2 hA4 ho hcell5 hst
          by_cases hp : p.2 = k
          · have hpb : ((p.2 : Int) == (k : Int)) = true := by rw [hp]; simp
            have Hp := Lib.hid hp
            clear hp
            have Hst2 := Lib.hid (Hst.out ((k : Int) + 1))
            have hb6 : Hid (Below w.heap.size w (w4.setCell ⟨gi, 1, none⟩ (.int .i64 ((k : Int) + 1)))) := Lib.hid (Hb4.out.setCell (p := ⟨gi, 1, none⟩) hgi _)
            go_wp2
            go_roundw
            case rel =>
              refine ⟨k + 1, _, by omega, by go_num, ?_, Hst2.out, hb6.out⟩
              rw [spnR_near hd.out HsK.out Hp.out, List.map_append, HD0.out]
              exact Lib.hid (by simp [prOf])
            case measure => simp [intOf]; omega
          · have hpb : ((p.2 : Int) == (k : Int)) = false := by rw [beq_eq_false_iff_ne]; omega
            have Hp := Lib.hid hp
            clear hp
            go_wp2_with (at_builtin; refine wpList_pushN rfl _ _ 35 rfl w.heap.size 87 _ 1 24 Sl.enc Sl.A Sl.x 1 encInt rfl IntS_info rfl (by omega) _ (D0 ++ [dl]) ⟨[(k : Int), (k : Int) + 1], some ⟨_, 0, none⟩, 2⟩ 1 rfl rfl rfl Hg4.out rfl Sl_enc_len (by simp [Sl.enc, Value.oneCell']) rfl rfl encInt_len (by first | (simp; done) | (simp; omega)) (by omega) (by omega) ?_; intro v' w2 hg2 hb2; have t2 := hb2.size)
            go_roundw
            case rel =>
              refine ⟨k + 1, _, by omega, by go_num, ?_, hg2, Hb4.out.trans hb2⟩
              rw [spnR_far hd.out HsK.out Hp.out, List.map_append, hD.out, HsK.out]
              exact Lib.hid (by simp [prOf])
            case measure => simp [intOf]; omega
    · obtain rfl : k = a.length := by omega
      go_wp2
      go_ret2
      obtain ⟨A2, c2, hv, ho⟩ := Hg.out.own Sl_enc_len
      have hD2 := hD.out
      refine ⟨A2, c2, ?_, ⟨D, hD2, ho⟩, Hbl.out⟩
      rw [hv]
      unfold spansL spansOf
      rw [← hD2]; simp
theorem Grow.cap {α : Type} {w : World} {base : Nat} {e : TypeId} {size : Nat} {enc : α → List Value} {l : List α} {A : Option Addr} {n c : Nat} (h : Grow w base e size enc (.slice A n c) l) : n ≤ c ∧ c ≤ maxLen := by
  rcases h.2 with ⟨h1, h2⟩ | ⟨g, cap, cur, h1, h2, h3, h4, h5, _⟩
  · injection h1 with _ e1 e2; subst e1 e2; exact ⟨Nat.le_refl _, by unfold maxLen; omega⟩
  · injection h1 with _ e1 e2; subst e1 e2; exact ⟨h4, h5⟩
theorem clip_any (A : Option Addr) (n c : Nat) (w : World) (h : n ≤ c) (hc : c ≤ maxLen) :
    Calls Try.prog 62 #[.slice A n c] w fun e w' => e = .returned (.slice A n n) ∧ w = w' := by
  unfold maxLen at hc
  go_enter Try.func62, Try.ntmps62
  go_wp2
  go_ret
  exact ⟨rfl, rfl⟩

set_option maxHeartbeats 6400000 in
theorem iSpans_t (a b : List ByteArray) (A A' : Option Addr) (c c' : Nat) (w : World) (h : RdL w w.heap.size A 1 encString a) (h' : RdL w w.heap.size A' 1 encString b) (hl : a.length ≤ 1048576) (hl' : b.length ≤ 1048576)
    (hs : ∀ x ∈ a, String_small 1048576 x) (hs' : ∀ x ∈ b, String_small 1048576 x) (ht : twoRows a b) :
    Calls Try.prog 15 #[.slice A a.length c, .slice A' b.length c'] w fun e w' => ∃ A2 c2, e = .returned (.tuple #[.slice A2 (spansL a b).length c2, .bool true]) ∧ OwnS w' w.heap.size w'.heap.size A2 (spansL a b) ∧ Below w.heap.size w w' := by
  have Hs := Lib.hid hs
  have Hs' := Lib.hid hs'
  have Hh := Lib.hid h
  have Hh' := Lib.hid h'
  have e1 := B_t ht
  have hle : a.length ≤ b.length := by have := ht.2.2.2.1; omega
  clear hs hs' h h' ht
  go_enter Try.func15, Try.ntmps15
  go_wp2_with (go_at_call 52; refine (comparable2_any a b _ _ _ _ _ Hh.out Hh'.out hl hl' Hs.out Hs'.out).mono ?_; rintro e w' ⟨rfl, hb1⟩; have t1 := hb1.size)
  go_loopw [6, 7] (fun v i wr => ∃ (i0 : Nat) (D : List Sl), i0 ≤ a.length + 1 ∧ i = .int .i64 i0 ∧ Hid (D.map Sl.x = ((spnR (dfP a b) (min i0 a.length)).map prOf).reverse) ∧ Hid (i0 ≤ a.length → Shut (dfP a b) i0) ∧ GrowN wr w.heap.size 87 1 Sl.enc Sl.A Sl.x 1 encInt v D ∧ Below w.heap.size w wr) (fun _ i _ => a.length + 1 - (intOf i).toNat)
  case atStart => exact ⟨0, [], by omega, by rfl, by rw [Nat.min_eq_left (by omega)]; exact Lib.hid rfl, Lib.hid (fun _ => Shut.zero), GrowN.empty t1, hb1.alloc t1 _⟩
  case round =>
    obtain ⟨i0, D, hi0, rfl, hD, Hsh, hg, hbl⟩ := hrel
    have Hg := Lib.hid hg
    have Hbl := Lib.hid hbl
    have hgs := hbl.size
    have hDl : D.length ≤ a.length := by have := spnR_len (d := dfP a b) (min i0 a.length); have h2 := congrArg List.length hD.out; simp at h2; omega
    clear hg hbl hb1
    by_cases hin : i0 < a.length
    · go_wp2
      go_loopw [8] (fun q wi => ∃ k : Nat, i0 ≤ k ∧ k ≤ a.length ∧ q = .int .i64 k ∧ (∀ j, i0 ≤ j → j < k → dfP a b j) ∧ ∃ m, wi = wr.drewN m) (fun q _ => a.length + 1 - (intOf q).toNat)
      case atStart => exact ⟨i0, by omega, by omega, rfl, fun j h1 h2 => by omega, 0, rfl⟩
      case round =>
        obtain ⟨k, hik, hk, rfl, hrun, m, rfl⟩ := hrel
        have Hrun := Lib.hid hrun
        clear hrun
        by_cases hlt : k < a.length
        · have hlt' : k < b.length := by omega
          have d1 : decide ((k : Int) < a.length) = true := by simp; omega
          obtain ⟨g, off, hA, hg, hcell⟩ := Hh.out.at hlt
          obtain ⟨g', off', hA', hg', hcell'⟩ := Hh'.out.at hlt'
          subst hA hA'
          have r0 : wr.cell? ⟨g, off + k, none⟩ = some (.string a[k]) := (Hbl.out.cell (p := ⟨g, off + k, none⟩) hg).trans (by have := hcell 0 _ rfl; rw [Nat.mul_one] at this; exact this)
          have q0 : wr.cell? ⟨g', off' + k, none⟩ = some (.string b[k]) := (Hbl.out.cell (p := ⟨g', off' + k, none⟩) hg').trans (by have := hcell' 0 _ rfl; rw [Nat.mul_one] at this; exact this)
          clear hcell hcell'
          have hdf : Hid (dfP a b k ↔ a[k] ≠ b[k]) := Lib.hid (dfP_iff hlt hlt')
          obtain ⟨x, hx⟩ : ∃ x, Hid (a[k] = x) := ⟨a[k], Lib.hid rfl⟩
          obtain ⟨y, hy⟩ : ∃ y, Hid (b[k] = y) := ⟨b[k], Lib.hid rfl⟩
          rw [hx.out] at r0 hdf
          rw [hy.out] at q0 hdf
          by_cases exy : x = y
          · have e2 := eqB_t exy
            have hend : Hid (k = a.length ∨ k < a.length ∧ ¬ dfP a b k) := Lib.hid (.inr ⟨hlt, fun hd => hdf.out.1 hd exy⟩)
            clear exy
            go_wp2
            go_quiet (fail)
            have hki : k ≤ a.length := by omega
            have hfin : Hid (spnR (dfP a b) (min (k + 1) a.length) = spnR (dfP a b) k) := Lib.hid (by
              rcases hend.out with h | h
              · rw [h, Nat.min_eq_right (by omega)]
              · rw [Nat.min_eq_left (by omega), spnR_no h.2])
            have hsh : Hid (k + 1 ≤ a.length → Shut (dfP a b) (k + 1)) := Lib.hid (fun hle2 => by
              rcases hend.out with h | h
              · omega
              · exact Shut.next h.2)
            have Hg4 : Hid (GrowN ((wr.drewN m).drewN nq) w.heap.size 87 1 Sl.enc Sl.A Sl.x 1 encInt u6 D) := Lib.hid ((Hg.out.drewN _).drewN _)
            have Hb4 : Hid (Below w.heap.size w ((wr.drewN m).drewN nq)) := Lib.hid (below_drewN (below_drewN Hbl.out _) _)
            have t4 : w.heap.size ≤ ((wr.drewN m).drewN nq).heap.size := hgs
            generalize (wr.drewN m).drewN nq = w4 at *
            try clear r0 q0
            by_cases hgt : i0 < k
            · go_wp2_with (at_builtin; go_loud (refine wpList_pushN rfl (.tmp 41) (.tmp 45) 35 rfl w.heap.size 87 _ 1 24 Sl.enc Sl.A Sl.x 1 encInt rfl IntS_info rfl (by omega) u6 D ⟨[(i0 : Int), (k : Int)], some ⟨_, 0, none⟩, 2⟩ 1 rfl rfl rfl Hg4.out rfl Sl_enc_len (by simp [Sl.enc, Value.oneCell']) rfl rfl encInt_len (by omega) (by omega) (by omega) ?_; intro v' w2 hg2 hb2; have t2 := hb2.size))
              go_roundw
              case rel =>
                refine ⟨k + 1, _, by omega, by go_num, ?_, hsh, hg2, Hb4.out.trans hb2⟩
                have hrn := spnR_run (Hsh.out (by omega)) (k - i0) (fun j h1 h2 => Hrun.out j h1 (by omega)) (by omega)
                rw [show i0 + (k - i0) = k from by omega] at hrn
                rw [hfin.out, hrn, List.map_append, hD.out, Nat.min_eq_left (by omega)]
                exact Lib.hid (by simp [prOf])
              case measure => simp [intOf]; omega
            · obtain rfl : k = i0 := by omega
              go_wp2
              go_roundw
              case rel =>
                refine ⟨k + 1, D, by omega, by go_num, ?_, hsh, Hg4.out, Hb4.out⟩
                rw [hfin.out]
                have := hD.out
                rw [Nat.min_eq_left (by omega)] at this
                exact Lib.hid this
              case measure => simp [intOf]; omega
          · have e2 := eqB_f exy
            have hd : Hid (dfP a b k) := Lib.hid (hdf.out.2 exy)
            clear exy
            go_wp2
            go_quiet (fail)
            go_wp2
            go_roundw
            case rel =>
              refine ⟨k + 1, by omega, by omega, by go_num, fun j h1 h2 => ?_, _, rfl⟩
              rcases Nat.lt_or_eq_of_le (Nat.le_of_lt_succ h2) with h' | rfl
              · exact Hrun.out j h1 h'
              · exact hd.out
            case measure => simp [intOf]; omega
        · have d1 : decide ((k : Int) < a.length) = false := by simp; omega
          have hend : Hid (k = a.length ∨ k < a.length ∧ ¬ dfP a b k) := Lib.hid (.inl (by omega))
          go_wp2
          go_quiet (fail)
          have hki : k ≤ a.length := by omega
          have hfin : Hid (spnR (dfP a b) (min (k + 1) a.length) = spnR (dfP a b) k) := Lib.hid (by
            rcases hend.out with h | h
            · rw [h, Nat.min_eq_right (by omega)]
            · rw [Nat.min_eq_left (by omega), spnR_no h.2])
          have hsh : Hid (k + 1 ≤ a.length → Shut (dfP a b) (k + 1)) := Lib.hid (fun hle2 => by
            rcases hend.out with h | h
            · omega
            · exact Shut.next h.2)
          have Hg4 : Hid (GrowN ((wr.drewN m).drewN nq) w.heap.size 87 1 Sl.enc Sl.A Sl.x 1 encInt u6 D) := Lib.hid ((Hg.out.drewN _).drewN _)
          have Hb4 : Hid (Below w.heap.size w ((wr.drewN m).drewN nq)) := Lib.hid (below_drewN (below_drewN Hbl.out _) _)
          have t4 : w.heap.size ≤ ((wr.drewN m).drewN nq).heap.size := hgs
          generalize (wr.drewN m).drewN nq = w4 at *
          try clear r0 q0
          by_cases hgt : i0 < k
          · go_wp2_with (at_builtin; go_loud (refine wpList_pushN rfl (.tmp 41) (.tmp 45) 35 rfl w.heap.size 87 _ 1 24 Sl.enc Sl.A Sl.x 1 encInt rfl IntS_info rfl (by omega) u6 D ⟨[(i0 : Int), (k : Int)], some ⟨_, 0, none⟩, 2⟩ 1 rfl rfl rfl Hg4.out rfl Sl_enc_len (by simp [Sl.enc, Value.oneCell']) rfl rfl encInt_len (by omega) (by omega) (by omega) ?_; intro v' w2 hg2 hb2; have t2 := hb2.size))
            go_roundw
            case rel =>
              refine ⟨k + 1, _, by omega, by go_num, ?_, hsh, hg2, Hb4.out.trans hb2⟩
              have hrn := spnR_run (Hsh.out (by omega)) (k - i0) (fun j h1 h2 => Hrun.out j h1 (by omega)) (by omega)
              rw [show i0 + (k - i0) = k from by omega] at hrn
              rw [hfin.out, hrn, List.map_append, hD.out, Nat.min_eq_left (by omega)]
              exact Lib.hid (by simp [prOf])
            case measure => simp [intOf]; omega
          · obtain rfl : k = i0 := by omega
            go_wp2
            go_roundw
            case rel =>
              refine ⟨k + 1, D, by omega, by go_num, ?_, hsh, Hg4.out, Hb4.out⟩
              rw [hfin.out]
              have := hD.out
              rw [Nat.min_eq_left (by omega)] at this
              exact Lib.hid this
            case measure => simp [intOf]; omega
    · go_wp2_with (go_at_call 62; obtain ⟨A2, c2, hv, ho⟩ := Hg.out.own Sl_enc_len; subst hv; refine (clip_any _ _ _ _ (Grow.cap Hg.out.1).1 (Grow.cap Hg.out.1).2).mono ?_; rintro e w' ⟨rfl, rfl⟩)
      go_ret2
      have hD2 := hD.out
      rw [Nat.min_eq_right (by omega)] at hD2
      have hl : D.length = (spansL a b).length := by unfold spansL spansOf; rw [← hD2]; simp
      exact ⟨A2, D.length, by rw [← hl]; rfl, ⟨D, hD2, ho⟩, Hbl.out⟩
theorem iSpans_f (a b : List ByteArray) (A A' : Option Addr) (c c' : Nat) (w : World) (h : RdL w w.heap.size A 1 encString a) (h' : RdL w w.heap.size A' 1 encString b) (hl : a.length ≤ 1048576) (hl' : b.length ≤ 1048576)
    (hs : ∀ x ∈ a, String_small 1048576 x) (hs' : ∀ x ∈ b, String_small 1048576 x) (ht : ¬ twoRows a b) :
    Calls Try.prog 15 #[.slice A a.length c, .slice A' b.length c'] w fun e w' => e = .returned (.tuple #[.slice none 0 0, .bool false]) ∧ Below w.heap.size w w' := by
  have e1 := B_f ht
  clear ht
  go_enter Try.func15, Try.ntmps15
  go_wp2_with (go_at_call 52; refine (comparable2_any a b _ _ _ _ _ h h' hl hl' hs hs').mono ?_; rintro e w' ⟨rfl, hb1⟩)
  go_ret2
  exact ⟨rfl, hb1⟩
theorem sSpans_f (a b : List ByteArray) (A A' : Option Addr) (c c' : Nat) (w : World) (h : RdL w w.heap.size A 1 encString a) (h' : RdL w w.heap.size A' 1 encString b) (hl : a.length ≤ 1048576) (hl' : b.length ≤ 1048576)
    (hs : ∀ x ∈ a, String_small 1048576 x) (hs' : ∀ x ∈ b, String_small 1048576 x) (ht : ¬ twoRows a b) :
    Calls Try.prog 16 #[.slice A a.length c, .slice A' b.length c'] w fun e w' => e = .returned (.tuple #[.slice none 0 0, .bool false]) ∧ Below w.heap.size w w' := by
  have e1 := B_f ht
  clear ht
  go_enter Try.func16, Try.ntmps16
  go_wp2_with (go_at_call 55; refine (l25Two_any a b _ _ _ _ _ h h' hl hl' hs hs').mono ?_; rintro e w' ⟨rfl, hb1⟩)
  go_ret2
  exact ⟨rfl, hb1⟩
end Go.Proofs.Ytbfhfnejppfehaa
